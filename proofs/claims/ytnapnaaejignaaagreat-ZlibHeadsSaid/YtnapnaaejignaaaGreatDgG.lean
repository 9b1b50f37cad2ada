/-
  deflate: the row of lengths as symbols: the iterator walked.
-/
import Derived.Test.YtnapnaaejignaaaGreatDgF
import Derived.TacticsInMore
import Derived.LoopIn
import Derived.Sort.LoopGhostIn
import Derived.BigFrameIn
import Derived.BigGuardIn
namespace Go.Proofs.YtnapnaaejignaaaGreat.De
open Go.RowKit Bt Hu If Mt

/-- numbers in memory, in the block gb -/
def IntsIn (W : World) (v : Value) (xs : List Int) (gb : Nat) : Prop :=
  ∃ ao cap, v = .slice ao xs.length cap ∧ xs.length ≤ cap ∧ (0 < xs.length → ∃ off, ao = some ⟨gb, off, none⟩ ∧ ∀ i x, xs[i]? = some x → W.cell? ⟨gb, off + i, none⟩ = some (iz x))
theorem IntsIn.move {W W' : World} {v : Value} {xs : List Int} {gb : Nat} (h : IntsIn W v xs gb) (hb : W'.heap[gb]? = W.heap[gb]?) : IntsIn W' v xs gb := by
  obtain ⟨ao, cap, rfl, hc, h⟩ := h
  refine ⟨ao, cap, rfl, hc, fun h0 => ?_⟩
  obtain ⟨off, e, h2⟩ := h h0
  exact ⟨off, e, fun i x hi => (World.cell?_of_block hb).trans (h2 i x hi)⟩
theorem IntsIn.ext {S : List Nat} {W W' : World} {v : Value} {xs : List Int} {gb : Nat} (h : IntsIn W v xs gb) (hx : Ext S W W') (hS : gb ∉ S) : IntsIn W' v xs gb := by
  obtain ⟨ao, cap, rfl, hc, h⟩ := h
  refine ⟨ao, cap, rfl, hc, fun h0 => ?_⟩
  obtain ⟨off, e, h2⟩ := h h0
  refine ⟨off, e, fun i x hi => ?_⟩
  have hcell := h2 i x hi
  exact (World.cell?_of_block (hx.block gb (World.block_lt_of_cell? W ⟨gb, off + i, none⟩ hcell) hS)).trans hcell
theorem IntsIn.drop {W : World} {gb off cap n : Nat} {xs : List Int} (h : IntsIn W (.slice (some ⟨gb, off, none⟩) xs.length cap) xs gb) (hn : n ≤ xs.length) : IntsIn W (.slice (some ⟨gb, off + n, none⟩) (xs.length - n) (cap - n)) (xs.drop n) gb := by
  obtain ⟨ao, c, he, hc, h⟩ := h
  injection he with e1 e2 e3
  clear e2
  subst e1 e3
  refine ⟨_, cap - n, by rw [List.length_drop], by rw [List.length_drop]; omega, fun h0 => ?_⟩
  rw [List.length_drop] at h0
  obtain ⟨off2, e, h2⟩ := h (by omega)
  injection e with e
  injection e with _ e4 _
  subst e4
  exact ⟨off + n, rfl, fun i x hi => by rw [Nat.add_assoc]; exact h2 (n + i) x (by rw [List.getElem?_drop] at hi; exact hi)⟩
theorem IntsIn.zero {W : World} {gb n c : Nat} {ao : Option Addr} {xs : List Int} (hn : xs.length ≤ n) : IntsIn W (.slice ao 0 c) (xs.drop n) gb := by
  have h0 : (xs.drop n).length = 0 := by rw [List.length_drop]; omega
  exact ⟨ao, c, by rw [h0], by omega, fun h => by omega⟩
theorem IntsIn.done {W : World} {gb n c : Nat} {ao : Option Addr} {xs : List Int} (hn : xs.length ≤ n) : IntsIn W (.slice ao (xs.length - n) c) (xs.drop n) gb :=
  ⟨ao, c, by rw [List.length_drop], by rw [List.length_drop]; omega, fun h => by rw [List.length_drop] at h; omega⟩
def headN (l : List Int) : Nat := if 0 < l.headD 0 ∨ sameN l < 3 then 1 else if sameN l < 11 then sameN l else min (sameN l) 138
def headX (l : List Int) : Td := if 0 < l.headD 0 ∨ sameN l < 3 then (l.headD 0, 0, 0) else if sameN l < 11 then (17, 3, sameN l - 3) else (18, 7, min (sameN l) 138 - 11)
theorem row_head (l : List Int) (hl : 0 < l.length) (hr : ∀ x ∈ l, 0 ≤ x) : rowW 0 l = headX l :: rowW (l.headD 0) (l.drop (headN l)) ∧ 1 ≤ headN l ∧ headN l ≤ sameN l := by
  have hs := sameN_pos l hl
  have hh := hr _ (List.mem_of_getElem? (headD_at l hl))
  rw [rowW_step l hl]
  unfold headX headN
  by_cases h3 : 0 < l.headD 0 ∨ sameN l < 3
  · rw [if_pos h3, if_pos h3, if_pos h3]
    exact ⟨rfl, by omega, by omega⟩
  · rw [if_neg h3, if_neg h3, if_neg h3, show l.headD 0 = 0 by omega]
    by_cases h4 : sameN l < 11
    · rw [if_pos h4, if_pos h4, if_pos h4]
      exact ⟨rfl, by omega, by omega⟩
    · rw [if_neg h4, if_neg h4, if_neg h4]
      exact ⟨rfl, by omega, by omega⟩
def encT (x : Td) : Array Value := #[.agg #[.int .i64 x.1, .int .i64 (x.2.1 : Nat), .int .i64 (x.2.2 : Nat)]]
abbrev bxI (v : Value) : Obj := .cells #[v] 58 (0, 0)
set_option maxRecDepth 100000 in
set_option maxHeartbeats 8000000 in
theorem row_iter (v0 : Value) (l : List Int) (b gb : Nat) (hbg : b ≠ gb) (hl : l.length ≤ 1048576) (hr : ∀ x ∈ l, 0 ≤ x ∧ x ≤ 15) :
    SeqX Tryz.prog 60 #[pO b] encT (rowW 0 l) [b] [b, gb] (fun W => W.heap[b]? = some (bxI v0) ∧ IntsIn W v0 l gb) := by
  intro lr J Jx W hb hJ hJx hY h0
  have HB := Lib.hid hb
  have H0 := Lib.hid h0
  have HY := Lib.hid hY
  have HJ := Lib.hid hJ
  have HRG := Lib.hid (⟨hr, hbg⟩ : _ ∧ _)
  obtain ⟨R, hR⟩ : ∃ R, rowW 0 l = R := ⟨_, rfl⟩
  rw [hR] at HY ⊢
  have HR := Lib.hid hR
  clear hb h0 hY hJ hJx hr hR hbg
  refine callsIn_of_wp Tryz.func60 rfl trivial ?_
  simp only [Tryz.ntmps60, List.size_toArray, List.length_cons, List.length_nil, Nat.reduceAdd, Nat.reduceSub, Array.replicate_succ, Array.replicate_zero, List.push_toArray, List.append_toArray, List.nil_append, List.cons_append]
  gi_wp2_with fail
  gi_loopg [] l.length (fun g wr => ∃ (t : List Int) (v : Value) (pre : List Td), g = t.length ∧ t.length ≤ l.length ∧ (∀ x ∈ t, 0 ≤ x ∧ x ≤ 15) ∧ pre ++ rowW 0 t = R ∧ wr.heap[b]? = some (bxI v) ∧ IntsIn wr v t gb ∧ J pre wr)
  case atStart => exact ⟨l, v0, [], rfl, Nat.le_refl _, HRG.out.1, HR.out, HB.out.1, HB.out.2, H0.out⟩
  case round =>
    clear HB H0 HR
    obtain ⟨t, v, pre, rfl, hts, htr, hp, hb, hin, hj⟩ := hrel
    obtain ⟨ao, cap, rfl, hcap, hcell⟩ := id hin
    have HP := Lib.hid (⟨hp, htr, hin, hj, hb⟩ : _ ∧ _ ∧ _ ∧ _ ∧ _)
    have c0 := cellOf hb 0
    clear hp htr hin hj
    by_cases hpos : 0 < t.length
    · obtain ⟨off, he, hcl⟩ := hcell hpos
      clear hcell
      subst he
      have hh := hcl 0 _ (headD_at t hpos)
      obtain ⟨y, hy⟩ : ∃ y, t.headD 0 = y := ⟨_, rfl⟩
      have hsm := sameN_le t
      have hsp := sameN_pos t hpos
      have hyr := HP.out.2.1 _ (List.mem_of_getElem? (headD_at t hpos))
      have HRH := Lib.hid (row_head t hpos (fun x hx => (HP.out.2.1 x hx).1))
      have HW := Lib.hid (fun (w : World) (hx : Ext [] wr w) => sameD_walk gb off cap t w (fun i x hi => Ext.cell hx (hcl i x hi)) hpos (by omega))
      rw [hy] at hh hyr HRH
      have HHX := Lib.hid (⟨rfl, rfl⟩ : headN t = (if 0 < t.headD 0 ∨ sameN t < 3 then 1 else if sameN t < 11 then sameN t else min (sameN t) 138) ∧ headX t = (if 0 < t.headD 0 ∨ sameN t < 3 then (t.headD 0, 0, 0) else if sameN t < 11 then (17, 3, sameN t - 3) else (18, 7, min (sameN t) 138 - 11)))
      rw [hy] at HHX
      obtain ⟨sn, hsn⟩ : ∃ sn, sameN t = sn := ⟨_, rfl⟩
      rw [hsn] at hsm hsp HRH HW HHX
      have i0 : (0 : Int) < (t.length : Int) := by omega
      clear hcl hy hsn
      gi_wp2_with fail
      refine CallsIn.mono ((callsIn_wide (n := 0)).2 (HW.out _ (Ext.refl _ _))) ?_
      rintro e w2 ⟨rfl, hx2⟩
      have hb2 := hx2.keep hb (by simp)
      have hh2 := Ext.cell hx2 hh
      have HX2 := Lib.hid hx2
      have c2 : w2.cell? ⟨b, 0, none⟩ = some (.slice (some ⟨gb, off, none⟩) t.length cap) := cellOf hb2 0
      clear hx2 c0 hh
      rw [Nat.add_zero] at hh2
      have hxa : Ext [] w2 (w2.alloc (.cells #[.int .i64 y, .int .i64 0, .int .i64 0] 74)) := (Ext.refl [] w2).alloc _
      have c3 := Ext.cell hxa c2
      have hh3 := Ext.cell hxa hh2
      have HXA := Lib.hid hxa
      clear hxa
      by_cases k1 : 0 < y
      · have hn : headN t = 1 := by rw [HHX.out.1, if_pos (.inl k1)]
        have hX : headX t = (y, 0, 0) := by rw [HHX.out.2, if_pos (.inl k1)]
        have HYY := Lib.hid (HY.out pre (headX t) (rowW y (t.drop (headN t))) (w2.alloc (.cells #[.int .i64 y, .int .i64 0, .int .i64 0] 74)) (by rw [← HP.out.1, HRH.out.1]) (HJ.out _ _ _ HP.out.2.2.2.1 ((HX2.out.trans ((Ext.refl [] w2).alloc _)).mono (by simp))))
        have hy := HYY.out
        clear HYY
        obtain ⟨fn, tmps, assign, body, hy, hRr⟩ := hy
        rw [hX] at hy hRr
        unfold encT at hy
        dsimp only at hy
        try rw [show ((0 : Nat) : Int) = 0 from rfl] at hy
        try rw [show ((2 : Nat) : Int) = 2 from rfl] at hy
        try rw [show ((3 : Nat) : Int) = 3 from rfl] at hy
        try rw [show ((7 : Nat) : Int) = 7 from rfl] at hy
        have HRr := Lib.hid hRr
        have hnn : 1 ≤ t.length := by have := HRH.out.2.2; rw [hn] at this; omega
        have hn1 : 1 ≤ 1 := by have := HRH.out.2.1; rw [hn] at this; exact this
        have HNX := Lib.hid (⟨hn, hX⟩ : _ ∧ _)
        clear hn hX hRr
        gi_wp2_with fail
        refine HRr.out.mono ?_
        clear hy HRr
        rintro e w3 (⟨rfl, hj3, hk3⟩ | ⟨rfl, hj3⟩)
        · have hxa := (Ext.refl [] w2).alloc (.cells #[.int .i64 y, .int .i64 0, .int .i64 0] 74)
          have hb3 := (hk3.same b (by simp)).trans (hxa.keep hb2 (by simp))
          have hin3 : IntsIn w3 (.slice (some ⟨gb, off, none⟩) t.length cap) t gb := ((HP.out.2.2.1.ext HX2.out (by simp)).ext hxa (by simp)).move (hk3.same gb (by simp))
          have c5 : w3.cell? ⟨b, 0, none⟩ = some (.slice (some ⟨gb, off, none⟩) t.length cap) := cellOf hb3 0
          have f5 := freeOf hb3 0
          have hh5 : w3.cell? ⟨gb, off, none⟩ = some (iz y) := (World.cell?_of_block (hk3.same gb (by simp))).trans (Ext.cell hxa hh2)
          have q1 : (0 : Int) ≤ ((1 : Nat) : Int) := by omega
          have q2 : ((1 : Nat) : Int) ≤ (t.length : Int) := by omega
          have q3 : (t.length : Int) ≤ (cap : Int) := by omega
          have q4 : ((1 : Nat) : Int) ≤ (cap : Int) := by omega
          have HI3 := Lib.hid hin3
          have HJ3 := Lib.hid hj3
          have HB3 := Lib.hid hb3
          have hdl : (t.drop 1).length = t.length - 1 := by rw [List.length_drop]
          have HDL := Lib.hid hdl
          clear hin3 hj3 hb3 hk3 hdl c2 hh2 hb2 hxa
          by_cases hcp : cap = 1
          · subst hcp
            gi_wp2_with fail
            gi_loopg [3] (t.drop 1).length (fun g nv wr2 => ∃ (t2 : List Int) (v2 : Value) (pre2 : List Td), g = t2.length ∧ t2.length < t.length ∧ (∀ x ∈ t2, 0 ≤ x ∧ x ≤ 15) ∧ pre2 ++ rowW y t2 = R ∧ wr2.heap[b]? = some (bxI v2) ∧ IntsIn wr2 v2 t2 gb ∧ J pre2 wr2)
            case atStart => exact ⟨t.drop 1, _, pre ++ [_], rfl, by rw [HDL.out]; omega, fun x hx => HP.out.2.1 x (List.mem_of_mem_drop hx), by rw [List.append_assoc, List.singleton_append, ← HNX.out.2, ← HNX.out.1, ← HRH.out.1]; exact HP.out.1, heap_setCell_same HB3.out _, (IntsIn.zero (by omega)), HJ.out _ _ _ HJ3.out ((Ext.refl [b] w3).setCell _ _ (by simp))⟩
            case round =>
              clear HI3 HJ3 HB3 HDL c5 f5 hh5
              obtain ⟨t2, v2, pre2, rfl, ht2, hr2, hp2, hb6, hin6, hj6⟩ := hrel
              obtain ⟨ao2, cap2, rfl, hcap2, hcl2⟩ := id hin6
              have c6 : wr.cell? ⟨b, 0, none⟩ = some (.slice ao2 t2.length cap2) := cellOf hb6 0
              have H6 := Lib.hid (⟨hr2, hp2, hb6, hin6, hj6⟩ : _ ∧ _ ∧ _ ∧ _ ∧ _)
              clear hr2 hp2 hb6 hin6 hj6
              have e1 : t2.length = 0 := by omega
              have e1' : ¬ (0 : Int) < (t2.length : Int) := by omega
              clear hcl2
              gi_wp2_with fail
              gi_roundg t2.length
              case measure => omega
              case rel => exact ⟨t2, _, pre2, rfl, by omega, H6.out.1, by rw [← rowW_same y t2 (fun h => by omega)]; exact H6.out.2.1, H6.out.2.2.1, H6.out.2.2.2.1, H6.out.2.2.2.2⟩
          · have hcp' : ¬ 1 = cap := fun h => hcp h.symm
            gi_wp2_with fail
            gi_loopg [3] (t.drop 1).length (fun g nv wr2 => ∃ (t2 : List Int) (v2 : Value) (pre2 : List Td), g = t2.length ∧ t2.length < t.length ∧ (∀ x ∈ t2, 0 ≤ x ∧ x ≤ 15) ∧ pre2 ++ rowW y t2 = R ∧ wr2.heap[b]? = some (bxI v2) ∧ IntsIn wr2 v2 t2 gb ∧ J pre2 wr2)
            case atStart => exact ⟨t.drop 1, _, pre ++ [_], rfl, by rw [HDL.out]; omega, fun x hx => HP.out.2.1 x (List.mem_of_mem_drop hx), by rw [List.append_assoc, List.singleton_append, ← HNX.out.2, ← HNX.out.1, ← HRH.out.1]; exact HP.out.1, heap_setCell_same HB3.out _, (HI3.out.drop hnn).ext ((Ext.refl [b] w3).setCell ⟨b, 0, none⟩ _ (by simp)) (by simpa using Ne.symm HRG.out.2), HJ.out _ _ _ HJ3.out ((Ext.refl [b] w3).setCell _ _ (by simp))⟩
            case round =>
              clear HI3 HJ3 HB3 HDL c5 f5 hh5
              obtain ⟨t2, v2, pre2, rfl, ht2, hr2, hp2, hb6, hin6, hj6⟩ := hrel
              obtain ⟨ao2, cap2, rfl, hcap2, hcl2⟩ := id hin6
              have c6 : wr.cell? ⟨b, 0, none⟩ = some (.slice ao2 t2.length cap2) := cellOf hb6 0
              have H6 := Lib.hid (⟨hr2, hp2, hb6, hin6, hj6⟩ : _ ∧ _ ∧ _ ∧ _ ∧ _)
              clear hr2 hp2 hb6 hin6 hj6
              by_cases e1 : t2.length = 0
              · have e1' : ¬ (0 : Int) < (t2.length : Int) := by omega
                clear hcl2
                gi_wp2_with fail
                gi_roundg t2.length
                case measure => omega
                case rel => exact ⟨t2, _, pre2, rfl, by omega, H6.out.1, by rw [← rowW_same y t2 (fun h => by omega)]; exact H6.out.2.1, H6.out.2.2.1, H6.out.2.2.2.1, H6.out.2.2.2.2⟩
              · obtain ⟨off2, he2, hcl3⟩ := hcl2 (by omega)
                subst he2
                have hh6 := hcl3 0 _ (headD_at t2 (by omega))
                rw [Nat.add_zero] at hh6
                clear hcl2
                have i6 : (0 : Int) < (t2.length : Int) := by omega
                have i7 : (0 : Int) ≤ (0 : Int) := by omega
                obtain ⟨z, e2h⟩ : ∃ z, t2.headD 0 = z := ⟨_, rfl⟩
                rw [e2h] at hh6
                by_cases e2n : z = y
                · subst e2n
                  have e2 := Lib.hid e2h
                  clear e2h
                  have hpos2 : 0 < t2.length := by omega
                  have hsm2 := sameN_le t2
                  have HWb := Lib.hid (fun (w : World) (hx : Ext [] wr w) => sameD_walk gb off2 cap2 t2 w (fun i x hi => Ext.cell hx (hcl3 i x hi)) hpos2 (by omega))
                  obtain ⟨sn2, hsn2⟩ : ∃ sn2, sameN t2 = sn2 := ⟨_, rfl⟩
                  rw [hsn2] at HWb hsm2
                  have HSN := Lib.hid hsn2
                  clear hsn2 hcl3
                  gi_wp2_with fail
                  refine CallsIn.mono ((callsIn_wide (n := 0)).2 (HWb.out _ (Ext.refl _ _))) ?_
                  rintro e w7 ⟨rfl, hx7⟩
                  have HX7 := Lib.hid hx7
                  have c7 := Ext.cell hx7 c6
                  clear hx7
                  by_cases e3 : sn2 < 3
                  · gi_wp2_with fail
                    gi_roundg t2.length
                    case measure => omega
                    case rel => exact ⟨t2, _, pre2, rfl, by omega, H6.out.1, by rw [← rowW_same z t2 (fun h => by have := HSN.out; omega)]; exact H6.out.2.1, HX7.out.keep H6.out.2.2.1 (by simp), H6.out.2.2.2.1.ext HX7.out (by simp), HJ.out _ _ _ H6.out.2.2.2.2 (HX7.out.mono (by simp))⟩
                  · gi_wp2_with fail
                    refine CallsIn.mono ((callsIn_wide (n := 0)).2 (HWb.out _ HX7.out)) ?_
                    rintro e w8 ⟨rfl, hx8⟩
                    have HX8 := Lib.hid (HX7.out.trans hx8)
                    have c8 := Ext.cell hx8 c7
                    clear hx8
                    obtain ⟨n2, hn2⟩ : ∃ n2, min sn2 6 = n2 := ⟨_, rfl⟩
                    have hn2z : min (sn2 : Int) 6 = (n2 : Int) := by omega
                    have hn23 : (n2 : Int) - 3 = ((n2 - 3 : Nat) : Int) := by omega
                    have hW2 := rowW_again z t2 hpos2 ⟨k1, e2.out, by have := HSN.out; omega⟩
                    rw [HSN.out, hn2] at hW2
                    have HYY := Lib.hid (HY.out pre2 (16, 2, n2 - 3) (rowW z (t2.drop n2)) w8 (by rw [← H6.out.2.1, hW2]) (HJ.out _ _ _ H6.out.2.2.2.2 (HX8.out.mono (by simp))))
                    have hy := HYY.out
                    clear HYY
                    obtain ⟨fn, tmps, assign, body, hy, hRr⟩ := hy
                    unfold encT at hy
                    dsimp only at hy
                    try rw [show ((0 : Nat) : Int) = 0 from rfl] at hy
                    try rw [show ((2 : Nat) : Int) = 2 from rfl] at hy
                    try rw [show ((3 : Nat) : Int) = 3 from rfl] at hy
                    try rw [show ((7 : Nat) : Int) = 7 from rfl] at hy
                    have HRr := Lib.hid hRr
                    have HW2 := Lib.hid (⟨hW2, hn2⟩ : _ ∧ _)
                    clear hRr hW2 hn2
                    gi_wp2_with fail
                    refine HRr.out.mono ?_
                    clear hy HRr
                    rintro e w9 (⟨rfl, hj9, hk9⟩ | ⟨rfl, hj9⟩)
                    · have hb9 := (hk9.same b (by simp)).trans (HX8.out.keep H6.out.2.2.1 (by simp))
                      have hin9 : IntsIn w9 (.slice (some ⟨gb, off2, none⟩) t2.length cap2) t2 gb := (H6.out.2.2.2.1.ext HX8.out (by simp)).move (hk9.same gb (by simp))
                      have c9 : w9.cell? ⟨b, 0, none⟩ = some (.slice (some ⟨gb, off2, none⟩) t2.length cap2) := cellOf hb9 0
                      have f9 := freeOf hb9 0
                      have r1 : (0 : Int) ≤ (n2 : Int) := by omega
                      have hn2l : n2 ≤ t2.length := by have := HW2.out.2; omega
                      have hn21 : 1 ≤ n2 := by have := HW2.out.2; omega
                      have r2 : (n2 : Int) ≤ (t2.length : Int) := by omega
                      have r3 : (t2.length : Int) ≤ (cap2 : Int) := by omega
                      have r4 : (n2 : Int) ≤ (cap2 : Int) := by omega
                      have H9 := Lib.hid (⟨hb9, hin9, hj9⟩ : _ ∧ _ ∧ _)
                      have hdl2 : (t2.drop n2).length = t2.length - n2 := by rw [List.length_drop]
                      have HD2 := Lib.hid hdl2
                      clear hb9 hin9 hj9 hk9 hdl2 c6 c7 c8 hn2z hn23
                      by_cases hcp2 : cap2 = n2
                      · subst hcp2
                        gi_wp2_with fail
                        gi_roundg (t2.drop cap2).length
                        case measure => rw [HD2.out]; omega
                        case rel => exact ⟨t2.drop cap2, _, pre2 ++ [(16, 2, cap2 - 3)], rfl, by rw [HD2.out]; omega, fun x hx => H6.out.1 x (List.mem_of_mem_drop hx), by rw [List.append_assoc, List.singleton_append, ← HW2.out.1]; exact H6.out.2.1, heap_setCell_same H9.out.1 _, (IntsIn.zero (by omega)), HJ.out _ _ _ H9.out.2.2 ((Ext.refl [b] w9).setCell _ _ (by simp))⟩
                      · have hcp2' : ¬ n2 = cap2 := fun h => hcp2 h.symm
                        gi_wp2_with fail
                        gi_roundg (t2.drop n2).length
                        case measure => rw [HD2.out]; omega
                        case rel => exact ⟨t2.drop n2, _, pre2 ++ [(16, 2, n2 - 3)], rfl, by rw [HD2.out]; omega, fun x hx => H6.out.1 x (List.mem_of_mem_drop hx), by rw [List.append_assoc, List.singleton_append, ← HW2.out.1]; exact H6.out.2.1, heap_setCell_same H9.out.1 _, (H9.out.2.1.drop hn2l).ext ((Ext.refl [b] w9).setCell ⟨b, 0, none⟩ _ (by simp)) (by simpa using Ne.symm HRG.out.2), HJ.out _ _ _ H9.out.2.2 ((Ext.refl [b] w9).setCell _ _ (by simp))⟩
                    · gi_wp2_with fail
                      refine bodyPost_ret (results_none rfl _ _ _) rfl ?_
                      exact ⟨⟨_, rfl⟩, .inr ⟨pre2, _, _, by rw [← H6.out.2.1, HW2.out.1], hj9⟩⟩
                · have e2b : (z == y) = false := beq_eq_false_iff_ne.2 e2n
                  have HE2 := Lib.hid (⟨e2h, e2n⟩ : _ ∧ _)
                  clear e2h e2n hcl3
                  gi_wp2_with fail
                  gi_roundg t2.length
                  case measure => omega
                  case rel => exact ⟨t2, _, pre2, rfl, by omega, H6.out.1, by rw [← rowW_same y t2 (fun h => HE2.out.2 (HE2.out.1 ▸ h.2.2.1))]; exact H6.out.2.1, H6.out.2.2.1, H6.out.2.2.2.1, H6.out.2.2.2.2⟩
        · gi_wp2_with fail
          refine bodyPost_ret (results_none rfl _ _ _) rfl ?_
          exact ⟨⟨_, rfl⟩, .inr ⟨pre, _, _, by rw [← HP.out.1, HRH.out.1, HNX.out.2], hj3⟩⟩
      · obtain rfl : y = 0 := by omega
        by_cases k2 : sn < 3
        · have hn : headN t = 1 := by rw [HHX.out.1, if_pos (.inr k2)]
          have hX : headX t = (0, 0, 0) := by rw [HHX.out.2, if_pos (.inr k2)]
          have HYY := Lib.hid (HY.out pre (headX t) (rowW 0 (t.drop (headN t))) (w2.alloc (.cells #[.int .i64 0, .int .i64 0, .int .i64 0] 74)) (by rw [← HP.out.1, HRH.out.1]) (HJ.out _ _ _ HP.out.2.2.2.1 ((HX2.out.trans ((Ext.refl [] w2).alloc _)).mono (by simp))))
          have hy := HYY.out
          clear HYY
          obtain ⟨fn, tmps, assign, body, hy, hRr⟩ := hy
          rw [hX] at hy hRr
          unfold encT at hy
          dsimp only at hy
          try rw [show ((0 : Nat) : Int) = 0 from rfl] at hy
          try rw [show ((2 : Nat) : Int) = 2 from rfl] at hy
          try rw [show ((3 : Nat) : Int) = 3 from rfl] at hy
          try rw [show ((7 : Nat) : Int) = 7 from rfl] at hy
          have HRr := Lib.hid hRr
          have hnn : 1 ≤ t.length := by have := HRH.out.2.2; rw [hn] at this; omega
          have hn1 : 1 ≤ 1 := by have := HRH.out.2.1; rw [hn] at this; exact this
          have HNX := Lib.hid (⟨hn, hX⟩ : _ ∧ _)
          clear hn hX hRr
          gi_wp2_with fail
          refine HRr.out.mono ?_
          clear hy HRr
          rintro e w3 (⟨rfl, hj3, hk3⟩ | ⟨rfl, hj3⟩)
          · have hxa := (Ext.refl [] w2).alloc (.cells #[.int .i64 0, .int .i64 0, .int .i64 0] 74)
            have hb3 := (hk3.same b (by simp)).trans (hxa.keep hb2 (by simp))
            have hin3 : IntsIn w3 (.slice (some ⟨gb, off, none⟩) t.length cap) t gb := ((HP.out.2.2.1.ext HX2.out (by simp)).ext hxa (by simp)).move (hk3.same gb (by simp))
            have c5 : w3.cell? ⟨b, 0, none⟩ = some (.slice (some ⟨gb, off, none⟩) t.length cap) := cellOf hb3 0
            have f5 := freeOf hb3 0
            have hh5 : w3.cell? ⟨gb, off, none⟩ = some (iz 0) := (World.cell?_of_block (hk3.same gb (by simp))).trans (Ext.cell hxa hh2)
            have q1 : (0 : Int) ≤ ((1 : Nat) : Int) := by omega
            have q2 : ((1 : Nat) : Int) ≤ (t.length : Int) := by omega
            have q3 : (t.length : Int) ≤ (cap : Int) := by omega
            have q4 : ((1 : Nat) : Int) ≤ (cap : Int) := by omega
            have HI3 := Lib.hid hin3
            have HJ3 := Lib.hid hj3
            have HB3 := Lib.hid hb3
            have hdl : (t.drop 1).length = t.length - 1 := by rw [List.length_drop]
            have HDL := Lib.hid hdl
            clear hin3 hj3 hb3 hk3 hdl c2 hh2 hb2 hxa
            by_cases hcp : cap = 1
            · subst hcp
              gi_wp2_with fail
              gi_loopg [3] (t.drop 1).length (fun g nv wr2 => ∃ (t2 : List Int) (v2 : Value) (pre2 : List Td), g = t2.length ∧ t2.length < t.length ∧ (∀ x ∈ t2, 0 ≤ x ∧ x ≤ 15) ∧ pre2 ++ rowW 0 t2 = R ∧ wr2.heap[b]? = some (bxI v2) ∧ IntsIn wr2 v2 t2 gb ∧ J pre2 wr2)
              case atStart => exact ⟨t.drop 1, _, pre ++ [_], rfl, by rw [HDL.out]; omega, fun x hx => HP.out.2.1 x (List.mem_of_mem_drop hx), by rw [List.append_assoc, List.singleton_append, ← HNX.out.2, ← HNX.out.1, ← HRH.out.1]; exact HP.out.1, heap_setCell_same HB3.out _, (IntsIn.zero (by omega)), HJ.out _ _ _ HJ3.out ((Ext.refl [b] w3).setCell _ _ (by simp))⟩
              case round =>
                clear HI3 HJ3 HB3 HDL c5 f5 hh5
                obtain ⟨t2, v2, pre2, rfl, ht2, hr2, hp2, hb6, hin6, hj6⟩ := hrel
                obtain ⟨ao2, cap2, rfl, hcap2, hcl2⟩ := id hin6
                have c6 : wr.cell? ⟨b, 0, none⟩ = some (.slice ao2 t2.length cap2) := cellOf hb6 0
                have H6 := Lib.hid (⟨hr2, hp2, hb6, hin6, hj6⟩ : _ ∧ _ ∧ _ ∧ _ ∧ _)
                clear hr2 hp2 hb6 hin6 hj6
                clear hcl2
                gi_wp2_with fail
                gi_roundg t2.length
                case measure => omega
                case rel => exact ⟨t2, _, pre2, rfl, by omega, H6.out.1, H6.out.2.1, H6.out.2.2.1, H6.out.2.2.2.1, H6.out.2.2.2.2⟩
            · have hcp' : ¬ 1 = cap := fun h => hcp h.symm
              gi_wp2_with fail
              gi_loopg [3] (t.drop 1).length (fun g nv wr2 => ∃ (t2 : List Int) (v2 : Value) (pre2 : List Td), g = t2.length ∧ t2.length < t.length ∧ (∀ x ∈ t2, 0 ≤ x ∧ x ≤ 15) ∧ pre2 ++ rowW 0 t2 = R ∧ wr2.heap[b]? = some (bxI v2) ∧ IntsIn wr2 v2 t2 gb ∧ J pre2 wr2)
              case atStart => exact ⟨t.drop 1, _, pre ++ [_], rfl, by rw [HDL.out]; omega, fun x hx => HP.out.2.1 x (List.mem_of_mem_drop hx), by rw [List.append_assoc, List.singleton_append, ← HNX.out.2, ← HNX.out.1, ← HRH.out.1]; exact HP.out.1, heap_setCell_same HB3.out _, (HI3.out.drop hnn).ext ((Ext.refl [b] w3).setCell ⟨b, 0, none⟩ _ (by simp)) (by simpa using Ne.symm HRG.out.2), HJ.out _ _ _ HJ3.out ((Ext.refl [b] w3).setCell _ _ (by simp))⟩
              case round =>
                clear HI3 HJ3 HB3 HDL c5 f5 hh5
                obtain ⟨t2, v2, pre2, rfl, ht2, hr2, hp2, hb6, hin6, hj6⟩ := hrel
                obtain ⟨ao2, cap2, rfl, hcap2, hcl2⟩ := id hin6
                have c6 : wr.cell? ⟨b, 0, none⟩ = some (.slice ao2 t2.length cap2) := cellOf hb6 0
                have H6 := Lib.hid (⟨hr2, hp2, hb6, hin6, hj6⟩ : _ ∧ _ ∧ _ ∧ _ ∧ _)
                clear hr2 hp2 hb6 hin6 hj6
                clear hcl2
                gi_wp2_with fail
                gi_roundg t2.length
                case measure => omega
                case rel => exact ⟨t2, _, pre2, rfl, by omega, H6.out.1, H6.out.2.1, H6.out.2.2.1, H6.out.2.2.2.1, H6.out.2.2.2.2⟩
          · gi_wp2_with fail
            refine bodyPost_ret (results_none rfl _ _ _) rfl ?_
            exact ⟨⟨_, rfl⟩, .inr ⟨pre, _, _, by rw [← HP.out.1, HRH.out.1, HNX.out.2], hj3⟩⟩
        · by_cases k3 : sn < 11
          · have hn : headN t = sn := by rw [HHX.out.1, if_neg (by omega), if_pos k3]
            have hX : headX t = (17, 3, sn - 3) := by rw [HHX.out.2, if_neg (by omega), if_pos k3]
            have hu : (sn : Int) - 3 = ((sn - 3 : Nat) : Int) := by omega
            have HYY := Lib.hid (HY.out pre (headX t) (rowW 0 (t.drop (headN t))) (w2.alloc (.cells #[.int .i64 17, .int .i64 3, .int .i64 ((sn - 3 : Nat) : Int)] 74)) (by rw [← HP.out.1, HRH.out.1]) (HJ.out _ _ _ HP.out.2.2.2.1 ((HX2.out.trans ((Ext.refl [] w2).alloc _)).mono (by simp))))
            have hy := HYY.out
            clear HYY
            obtain ⟨fn, tmps, assign, body, hy, hRr⟩ := hy
            rw [hX] at hy hRr
            unfold encT at hy
            dsimp only at hy
            try rw [show ((0 : Nat) : Int) = 0 from rfl] at hy
            try rw [show ((2 : Nat) : Int) = 2 from rfl] at hy
            try rw [show ((3 : Nat) : Int) = 3 from rfl] at hy
            try rw [show ((7 : Nat) : Int) = 7 from rfl] at hy
            have HRr := Lib.hid hRr
            have hnn : sn ≤ t.length := by have := HRH.out.2.2; rw [hn] at this; omega
            have hn1 : 1 ≤ sn := by have := HRH.out.2.1; rw [hn] at this; exact this
            have HNX := Lib.hid (⟨hn, hX⟩ : _ ∧ _)
            clear hn hX hRr
            gi_wp2_with fail
            refine HRr.out.mono ?_
            clear hy HRr
            rintro e w3 (⟨rfl, hj3, hk3⟩ | ⟨rfl, hj3⟩)
            · have hxa := (Ext.refl [] w2).alloc (.cells #[.int .i64 17, .int .i64 3, .int .i64 ((sn - 3 : Nat) : Int)] 74)
              have hb3 := (hk3.same b (by simp)).trans (hxa.keep hb2 (by simp))
              have hin3 : IntsIn w3 (.slice (some ⟨gb, off, none⟩) t.length cap) t gb := ((HP.out.2.2.1.ext HX2.out (by simp)).ext hxa (by simp)).move (hk3.same gb (by simp))
              have c5 : w3.cell? ⟨b, 0, none⟩ = some (.slice (some ⟨gb, off, none⟩) t.length cap) := cellOf hb3 0
              have f5 := freeOf hb3 0
              have hh5 : w3.cell? ⟨gb, off, none⟩ = some (iz 0) := (World.cell?_of_block (hk3.same gb (by simp))).trans (Ext.cell hxa hh2)
              have q1 : (0 : Int) ≤ ((sn : Nat) : Int) := by omega
              have q2 : ((sn : Nat) : Int) ≤ (t.length : Int) := by omega
              have q3 : (t.length : Int) ≤ (cap : Int) := by omega
              have q4 : ((sn : Nat) : Int) ≤ (cap : Int) := by omega
              have HI3 := Lib.hid hin3
              have HJ3 := Lib.hid hj3
              have HB3 := Lib.hid hb3
              have hdl : (t.drop sn).length = t.length - sn := by rw [List.length_drop]
              have HDL := Lib.hid hdl
              clear hin3 hj3 hb3 hk3 hdl c2 hh2 hb2 hxa
              by_cases hcp : cap = sn
              · subst hcp
                gi_wp2_with fail
                gi_loopg [3] (t.drop cap).length (fun g nv wr2 => ∃ (t2 : List Int) (v2 : Value) (pre2 : List Td), g = t2.length ∧ t2.length < t.length ∧ (∀ x ∈ t2, 0 ≤ x ∧ x ≤ 15) ∧ pre2 ++ rowW 0 t2 = R ∧ wr2.heap[b]? = some (bxI v2) ∧ IntsIn wr2 v2 t2 gb ∧ J pre2 wr2)
                case atStart => exact ⟨t.drop cap, _, pre ++ [_], rfl, by rw [HDL.out]; omega, fun x hx => HP.out.2.1 x (List.mem_of_mem_drop hx), by rw [List.append_assoc, List.singleton_append, ← HNX.out.2, ← HNX.out.1, ← HRH.out.1]; exact HP.out.1, heap_setCell_same HB3.out _, (IntsIn.zero (by omega)), HJ.out _ _ _ HJ3.out ((Ext.refl [b] w3).setCell _ _ (by simp))⟩
                case round =>
                  clear HI3 HJ3 HB3 HDL c5 f5 hh5
                  obtain ⟨t2, v2, pre2, rfl, ht2, hr2, hp2, hb6, hin6, hj6⟩ := hrel
                  obtain ⟨ao2, cap2, rfl, hcap2, hcl2⟩ := id hin6
                  have c6 : wr.cell? ⟨b, 0, none⟩ = some (.slice ao2 t2.length cap2) := cellOf hb6 0
                  have H6 := Lib.hid (⟨hr2, hp2, hb6, hin6, hj6⟩ : _ ∧ _ ∧ _ ∧ _ ∧ _)
                  clear hr2 hp2 hb6 hin6 hj6
                  clear hcl2
                  gi_wp2_with fail
                  gi_roundg t2.length
                  case measure => omega
                  case rel => exact ⟨t2, _, pre2, rfl, by omega, H6.out.1, H6.out.2.1, H6.out.2.2.1, H6.out.2.2.2.1, H6.out.2.2.2.2⟩
              · have hcp' : ¬ sn = cap := fun h => hcp h.symm
                gi_wp2_with fail
                gi_loopg [3] (t.drop sn).length (fun g nv wr2 => ∃ (t2 : List Int) (v2 : Value) (pre2 : List Td), g = t2.length ∧ t2.length < t.length ∧ (∀ x ∈ t2, 0 ≤ x ∧ x ≤ 15) ∧ pre2 ++ rowW 0 t2 = R ∧ wr2.heap[b]? = some (bxI v2) ∧ IntsIn wr2 v2 t2 gb ∧ J pre2 wr2)
                case atStart => exact ⟨t.drop sn, _, pre ++ [_], rfl, by rw [HDL.out]; omega, fun x hx => HP.out.2.1 x (List.mem_of_mem_drop hx), by rw [List.append_assoc, List.singleton_append, ← HNX.out.2, ← HNX.out.1, ← HRH.out.1]; exact HP.out.1, heap_setCell_same HB3.out _, (HI3.out.drop hnn).ext ((Ext.refl [b] w3).setCell ⟨b, 0, none⟩ _ (by simp)) (by simpa using Ne.symm HRG.out.2), HJ.out _ _ _ HJ3.out ((Ext.refl [b] w3).setCell _ _ (by simp))⟩
                case round =>
                  clear HI3 HJ3 HB3 HDL c5 f5 hh5
                  obtain ⟨t2, v2, pre2, rfl, ht2, hr2, hp2, hb6, hin6, hj6⟩ := hrel
                  obtain ⟨ao2, cap2, rfl, hcap2, hcl2⟩ := id hin6
                  have c6 : wr.cell? ⟨b, 0, none⟩ = some (.slice ao2 t2.length cap2) := cellOf hb6 0
                  have H6 := Lib.hid (⟨hr2, hp2, hb6, hin6, hj6⟩ : _ ∧ _ ∧ _ ∧ _ ∧ _)
                  clear hr2 hp2 hb6 hin6 hj6
                  clear hcl2
                  gi_wp2_with fail
                  gi_roundg t2.length
                  case measure => omega
                  case rel => exact ⟨t2, _, pre2, rfl, by omega, H6.out.1, H6.out.2.1, H6.out.2.2.1, H6.out.2.2.2.1, H6.out.2.2.2.2⟩
            · gi_wp2_with fail
              refine bodyPost_ret (results_none rfl _ _ _) rfl ?_
              exact ⟨⟨_, rfl⟩, .inr ⟨pre, _, _, by rw [← HP.out.1, HRH.out.1, HNX.out.2], hj3⟩⟩
          · obtain ⟨m, hm⟩ : ∃ m, min sn 138 = m := ⟨_, rfl⟩
            have hmz : min (sn : Int) 138 = (m : Int) := by omega
            have hn : headN t = m := by rw [HHX.out.1, if_neg (by omega), if_neg k3, hm]
            have hX : headX t = (18, 7, m - 11) := by rw [HHX.out.2, if_neg (by omega), if_neg k3, hm]
            have hu : (m : Int) - 11 = ((m - 11 : Nat) : Int) := by omega
            clear hm
            have HYY := Lib.hid (HY.out pre (headX t) (rowW 0 (t.drop (headN t))) (w2.alloc (.cells #[.int .i64 18, .int .i64 7, .int .i64 ((m - 11 : Nat) : Int)] 74)) (by rw [← HP.out.1, HRH.out.1]) (HJ.out _ _ _ HP.out.2.2.2.1 ((HX2.out.trans ((Ext.refl [] w2).alloc _)).mono (by simp))))
            have hy := HYY.out
            clear HYY
            obtain ⟨fn, tmps, assign, body, hy, hRr⟩ := hy
            rw [hX] at hy hRr
            unfold encT at hy
            dsimp only at hy
            try rw [show ((0 : Nat) : Int) = 0 from rfl] at hy
            try rw [show ((2 : Nat) : Int) = 2 from rfl] at hy
            try rw [show ((3 : Nat) : Int) = 3 from rfl] at hy
            try rw [show ((7 : Nat) : Int) = 7 from rfl] at hy
            have HRr := Lib.hid hRr
            have hnn : m ≤ t.length := by have := HRH.out.2.2; rw [hn] at this; omega
            have hn1 : 1 ≤ m := by have := HRH.out.2.1; rw [hn] at this; exact this
            have HNX := Lib.hid (⟨hn, hX⟩ : _ ∧ _)
            clear hn hX hRr
            gi_wp2_with fail
            refine HRr.out.mono ?_
            clear hy HRr
            rintro e w3 (⟨rfl, hj3, hk3⟩ | ⟨rfl, hj3⟩)
            · have hxa := (Ext.refl [] w2).alloc (.cells #[.int .i64 18, .int .i64 7, .int .i64 ((m - 11 : Nat) : Int)] 74)
              have hb3 := (hk3.same b (by simp)).trans (hxa.keep hb2 (by simp))
              have hin3 : IntsIn w3 (.slice (some ⟨gb, off, none⟩) t.length cap) t gb := ((HP.out.2.2.1.ext HX2.out (by simp)).ext hxa (by simp)).move (hk3.same gb (by simp))
              have c5 : w3.cell? ⟨b, 0, none⟩ = some (.slice (some ⟨gb, off, none⟩) t.length cap) := cellOf hb3 0
              have f5 := freeOf hb3 0
              have hh5 : w3.cell? ⟨gb, off, none⟩ = some (iz 0) := (World.cell?_of_block (hk3.same gb (by simp))).trans (Ext.cell hxa hh2)
              have q1 : (0 : Int) ≤ ((m : Nat) : Int) := by omega
              have q2 : ((m : Nat) : Int) ≤ (t.length : Int) := by omega
              have q3 : (t.length : Int) ≤ (cap : Int) := by omega
              have q4 : ((m : Nat) : Int) ≤ (cap : Int) := by omega
              have HI3 := Lib.hid hin3
              have HJ3 := Lib.hid hj3
              have HB3 := Lib.hid hb3
              have hdl : (t.drop m).length = t.length - m := by rw [List.length_drop]
              have HDL := Lib.hid hdl
              clear hin3 hj3 hb3 hk3 hdl c2 hh2 hb2 hxa
              by_cases hcp : cap = m
              · subst hcp
                gi_wp2_with fail
                gi_loopg [3] (t.drop cap).length (fun g nv wr2 => ∃ (t2 : List Int) (v2 : Value) (pre2 : List Td), g = t2.length ∧ t2.length < t.length ∧ (∀ x ∈ t2, 0 ≤ x ∧ x ≤ 15) ∧ pre2 ++ rowW 0 t2 = R ∧ wr2.heap[b]? = some (bxI v2) ∧ IntsIn wr2 v2 t2 gb ∧ J pre2 wr2)
                case atStart => exact ⟨t.drop cap, _, pre ++ [_], rfl, by rw [HDL.out]; omega, fun x hx => HP.out.2.1 x (List.mem_of_mem_drop hx), by rw [List.append_assoc, List.singleton_append, ← HNX.out.2, ← HNX.out.1, ← HRH.out.1]; exact HP.out.1, heap_setCell_same HB3.out _, (IntsIn.zero (by omega)), HJ.out _ _ _ HJ3.out ((Ext.refl [b] w3).setCell _ _ (by simp))⟩
                case round =>
                  clear HI3 HJ3 HB3 HDL c5 f5 hh5
                  obtain ⟨t2, v2, pre2, rfl, ht2, hr2, hp2, hb6, hin6, hj6⟩ := hrel
                  obtain ⟨ao2, cap2, rfl, hcap2, hcl2⟩ := id hin6
                  have c6 : wr.cell? ⟨b, 0, none⟩ = some (.slice ao2 t2.length cap2) := cellOf hb6 0
                  have H6 := Lib.hid (⟨hr2, hp2, hb6, hin6, hj6⟩ : _ ∧ _ ∧ _ ∧ _ ∧ _)
                  clear hr2 hp2 hb6 hin6 hj6
                  clear hcl2
                  gi_wp2_with fail
                  gi_roundg t2.length
                  case measure => omega
                  case rel => exact ⟨t2, _, pre2, rfl, by omega, H6.out.1, H6.out.2.1, H6.out.2.2.1, H6.out.2.2.2.1, H6.out.2.2.2.2⟩
              · have hcp' : ¬ m = cap := fun h => hcp h.symm
                gi_wp2_with fail
                gi_loopg [3] (t.drop m).length (fun g nv wr2 => ∃ (t2 : List Int) (v2 : Value) (pre2 : List Td), g = t2.length ∧ t2.length < t.length ∧ (∀ x ∈ t2, 0 ≤ x ∧ x ≤ 15) ∧ pre2 ++ rowW 0 t2 = R ∧ wr2.heap[b]? = some (bxI v2) ∧ IntsIn wr2 v2 t2 gb ∧ J pre2 wr2)
                case atStart => exact ⟨t.drop m, _, pre ++ [_], rfl, by rw [HDL.out]; omega, fun x hx => HP.out.2.1 x (List.mem_of_mem_drop hx), by rw [List.append_assoc, List.singleton_append, ← HNX.out.2, ← HNX.out.1, ← HRH.out.1]; exact HP.out.1, heap_setCell_same HB3.out _, (HI3.out.drop hnn).ext ((Ext.refl [b] w3).setCell ⟨b, 0, none⟩ _ (by simp)) (by simpa using Ne.symm HRG.out.2), HJ.out _ _ _ HJ3.out ((Ext.refl [b] w3).setCell _ _ (by simp))⟩
                case round =>
                  clear HI3 HJ3 HB3 HDL c5 f5 hh5
                  obtain ⟨t2, v2, pre2, rfl, ht2, hr2, hp2, hb6, hin6, hj6⟩ := hrel
                  obtain ⟨ao2, cap2, rfl, hcap2, hcl2⟩ := id hin6
                  have c6 : wr.cell? ⟨b, 0, none⟩ = some (.slice ao2 t2.length cap2) := cellOf hb6 0
                  have H6 := Lib.hid (⟨hr2, hp2, hb6, hin6, hj6⟩ : _ ∧ _ ∧ _ ∧ _ ∧ _)
                  clear hr2 hp2 hb6 hin6 hj6
                  clear hcl2
                  gi_wp2_with fail
                  gi_roundg t2.length
                  case measure => omega
                  case rel => exact ⟨t2, _, pre2, rfl, by omega, H6.out.1, H6.out.2.1, H6.out.2.2.1, H6.out.2.2.2.1, H6.out.2.2.2.2⟩
            · gi_wp2_with fail
              refine bodyPost_ret (results_none rfl _ _ _) rfl ?_
              exact ⟨⟨_, rfl⟩, .inr ⟨pre, _, _, by rw [← HP.out.1, HRH.out.1, HNX.out.2], hj3⟩⟩
    · have i0 : ¬ ((0 : Int) < (t.length : Int)) := by omega
      have he : t = [] := List.eq_nil_of_length_eq_zero (by omega)
      have hpp : pre = R := by have := HP.out.1; rwa [he, rowW_nil, List.append_nil] at this
      have HPP := Lib.hid hpp
      clear hpp he hcell
      gi_wp2_with fail
      go_end0
      exact ⟨⟨_, rfl⟩, .inl (HPP.out ▸ HP.out.2.2.2.1)⟩
end Go.Proofs.YtnapnaaejignaaaGreat.De
