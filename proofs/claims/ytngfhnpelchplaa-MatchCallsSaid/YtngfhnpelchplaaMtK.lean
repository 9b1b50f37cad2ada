/-
  match.Size, slices.Grow, match.Expand walked.
-/
import Derived.Test.YtngfhnpelchplaaMtJ
import Derived.Lib.AppendZerosOnto
import Derived.Lib.Walk
import Derived.Lib.SliceRun
namespace Go.Proofs.Ytngfhnpelchplaa.Mt
open Go.RowKit

set_option maxRecDepth 100000 in
set_option maxHeartbeats 8000000 in
theorem Size_walk (v : Value) (l : List Pc) (w : World) (hv : PcAt w v l) (hl : l.length ≤ 1048576) :
    Calls Try.prog 13 #[v] w fun e w' => e = .returned (.int .i64 (sizN l)) ∧ Ext [] w w' := by
  have HI := Lib.hid (Check_walk v l w hv hl)
  obtain ⟨ao, cap, rfl, hc⟩ := hv
  have HC := Lib.hid hc
  clear hc
  by_cases h0 : chkN l = 0
  · obtain ⟨R, hR⟩ : ∃ R, sumL l 0 = R := ⟨_, rfl⟩
    have e : sizN l = R := by unfold sizN; rw [if_pos h0]; exact hR
    rw [e]
    have hb : badN l = false := by
      cases h : badN l
      · rfl
      · unfold chkN at h0; rw [h] at h0; simp at h0
    have HB := Lib.hid hb
    have HR := Lib.hid hR
    rw [h0] at HI
    clear hb hR e h0
    go_enter Try.func13, Try.ntmps13
    go_wp2_with fail
    refine HI.out.mono ?_
    rintro e w1 ⟨rfl, hx1⟩
    have HX1 := Lib.hid hx1
    clear hx1
    go_wp2_with fail
    go_loopg [3, 11] l.length (fun g nv iv wr => ∃ (k : Nat) (n : Int), g + k = l.length ∧ iv = .int .i64 k ∧ nv = .int .i64 n ∧ 0 ≤ n ∧ n ≤ 258 * k ∧ sumL (l.drop k) n = R ∧ Ext [] w wr)
    case atStart => exact ⟨0, 0, by omega, rfl, rfl, by omega, by omega, HR.out, HX1.out⟩
    case round =>
      clear HR HX1
      obtain ⟨k, n, hk, rfl, rfl, hn0, hn1, hR, hx⟩ := hrel
      have HX := Lib.hid hx
      clear hx
      by_cases hlt : k < l.length
      · obtain ⟨b, off, rfl, hcell⟩ := HC.out (by omega)
        obtain ⟨x, hxk⟩ : ∃ x, l[k]? = some x := ⟨_, List.getElem?_eq_getElem hlt⟩
        obtain ⟨c0, c1, c2⟩ := hcell k x hxk
        have d0 := Ext.cell HX.out c0
        have d1 := Ext.cell HX.out c1
        have d2 := Ext.cell HX.out c2
        have hm : mayP x = true := by
          have h := HB.out
          unfold badN at h
          rw [List.any_eq_false] at h
          simpa using h x (List.mem_of_getElem? hxk)
        have hm := mayP_iff x hm
        rw [drop_at hxk, sumL] at hR
        obtain ⟨xb, xl, xd⟩ := x
        simp only at d0 d1 d2 hm hR
        clear hcell c0 c1 c2 hxk
        rcases hm with ⟨rfl, _⟩ | ⟨_, hl3, hl4, _⟩
        · have HR := Lib.hid hR
          clear hR
          go_wp2_with fail
          go_roundg (l.length - (k + 1))
          case measure => omega
          case rel => exact ⟨k + 1, n + 1, by omega, by go_num, rfl, by omega, by omega, HR.out, HX.out.alloc _⟩
        · rw [Int.max_eq_right (by omega : (1 : Int) ≤ xl)] at hR
          have HR := Lib.hid hR
          have hl1 : 1 ≤ xl := by omega
          clear hR
          go_wp2_with fail
          go_roundg (l.length - (k + 1))
          case measure => omega
          case rel => exact ⟨k + 1, n + xl, by omega, by go_num, by rw [Int.max_eq_right hl1], by omega, by omega, HR.out, HX.out.alloc _⟩
      · obtain rfl : k = l.length := by omega
        rw [List.drop_length] at hR
        have HR := Lib.hid hR
        clear hR
        go_wp2_with fail
        go_ret
        exact ⟨by rw [← HR.out]; rfl, HX.out⟩
  · have e : sizN l = 0 := by unfold sizN; rw [if_neg h0]
    rw [e]
    generalize chkN l = c at *
    have h0' : (c == 0) = false := beq_eq_false_iff_ne.2 h0
    have h0'' : (c != 0) = true := by simpa using h0
    clear e
    go_enter Try.func13, Try.ntmps13
    go_wp2_with fail
    refine HI.out.mono ?_
    rintro e w1 ⟨rfl, hx1⟩
    have HX1 := Lib.hid hx1
    clear hx1
    go_wp2_with fail
    go_ret
    exact ⟨rfl, HX1.out⟩
theorem infoByte9 : (Try.prog.info? 5).map (fun i => (i.zero, i.size, i.bytes)) = some (some (.int .u8 0), 1, 1) := by kernel_rfl
set_option maxRecDepth 100000 in
set_option maxHeartbeats 8000000 in
theorem Grow_walk (n : Nat) (w : World) (hn : n ≤ 1073741824) :
    Calls Try.prog 27 #[.slice none 0 0, .int .i64 n] w fun e w' => ∃ ao cap, e = .returned (.slice ao 0 cap) ∧ Ext [] w w' ∧ (oSl 5 1 (.slice ao 0 cap) 0 []).P w' ∧ ∀ k ∈ (Value.slice ao 0 cap).ownBlock.toList, w.heap.size ≤ k := by
  obtain ⟨i0, hif, hz0, hz1, hz2⟩ := info_parts infoByte9
  have j1 : ¬ ((n : Int) < 0) := by omega
  by_cases h0 : n = 0
  · subst h0
    go_enter Try.func27, Try.ntmps27
    go_wp2_with fail
    go_ret
    exact ⟨none, 0, rfl, Ext.refl _ _, World.ownsRow_nil _ _ _ _, by simp [Value.ownBlock]⟩
  · have j2 : (0 : Int) < (n : Int) := by omega
    have hG1 := grownCap_ge w n 0 5
    have hG2 := grownCap_le_maxLen w n 0 5 (by unfold maxLen; omega)
    have hr : ∀ ty, (Builtin.append_ #[50, 3] ty #[.slice none 0 0, .int .i64 (n : Int)]).run Try.prog w = .ok (.slice (some ⟨w.heap.size, 0, none⟩) n (grownCap w n 0 5))
        (w.drew.alloc (.cells (#[] ++ Builtin.zeroCells (Value.int .u8 0).cells n ++ Builtin.zeroCells (Value.int .u8 0).cells (grownCap w n 0 5 - n)) 5)) := fun ty => by
      have h := Lib.run_append_grow_zeros (P := Try.prog) w 50 3 ty 5 i0 (.int .u8 0) .i64 .i64 Try.underlying50 Try.underlying3 hif hz0 none 0 0 [] (run_firstCells_none w.drew i0.size 0 0 0) n (by omega) (by omega) (by omega) (by omega)
        (by rw [hz2]; omega) (by rw [Nat.zero_add]; exact growslice_fits (by omega) (by rw [hz2]; omega))
      simpa using h
    obtain ⟨G, hG⟩ : ∃ G, grownCap w n 0 5 = G := ⟨_, rfl⟩
    rw [hG] at hG1 hG2
    simp only [hG] at hr
    unfold maxLen at hG2
    have g1 : (n : Int) ≤ (G : Int) := by omega
    have g2 : (0 : Int) ≤ (G : Int) := by omega
    clear hG
    go_enter Try.func27, Try.ntmps27
    go_wp2_with (at_builtin; refine Lib.wpList_append_run _ rfl _ _ _ _ rfl _ _ rfl rfl _ _ (hr _) ?_)
    go_ret
    refine ⟨_, _, rfl, ((Ext.refl _ w).drew).alloc _, ⟨rfl, .inr ⟨w.heap.size, G, _, rfl, Nat.zero_le _, heap_alloc_at (w := w.drew) _, Nat.zero_le _, by unfold maxLen; omega, ?_, by simp⟩⟩, by simp [Value.ownBlock]⟩
    simp only [Array.size_append, size_zeroCells]
    simp
    omega
/-! ### Expand, plain -/
def repF (d : Nat) : Nat → List UInt8 → List UInt8
  | 0, o => o
  | k + 1, o => repF d k (o ++ [o.getD (o.length - d) 0])
def expL : List Pc → List UInt8 → List UInt8
  | [], o => o
  | p :: l, o => if p.2.1 = 0 then expL l (o ++ [p.1]) else expL l (repF p.2.2.toNat p.2.1.toNat o)
def expN (l : List Pc) (b : Int) : List UInt8 × Int :=
  if chkN l = 0 then if b < 0 then ([], 2) else if b < sumL l 0 then ([], 3) else (expL l [], 0) else ([], chkN l)
theorem repF_len (d : Nat) : ∀ k o, (repF d k o).length = o.length + k
  | 0, o => rfl
  | k + 1, o => by rw [repF, repF_len d k]; simp; omega
theorem chk_zero {l : List Pc} (h : chkN l = 0) : badN l = false ∧ chkL l 0 = 0 := by
  unfold chkN at h
  cases hb : badN l
  · rw [hb] at h; exact ⟨rfl, by simpa using h⟩
  · rw [hb] at h; simp at h
theorem sum_le : ∀ (l : List Pc) (n : Int), badN l = false → 0 ≤ n → n ≤ sumL l n ∧ sumL l n ≤ n + 258 * l.length
  | [], n, _, _ => by simp [sumL]
  | p :: l, n, h, hn => by
    unfold badN at h
    rw [List.any_cons, Bool.or_eq_false_iff] at h
    have hm := mayP_iff p (by simpa using h.1)
    rw [sumL, List.length_cons]
    have := sum_le l (n + max 1 p.2.1) h.2 (by omega)
    omega
theorem sepTail9 {w0 w : World} {a b : Ob} (S : Sep w0 w [a, b]) : Sep w0 w [b] :=
  ⟨S.ext, fun o ho => S.each o (by simp at ho ⊢; exact .inr ho), fun o ho => S.base o (by simp at ho ⊢; exact .inr ho), fun i j o o' hi hj hij => S.apart (i + 1) (j + 1) o o' (by simpa using hi) (by simpa using hj) (by omega)⟩
theorem run_text9 {w : World} {v : Value} {n : Nat} {l : List UInt8} (h : w.ownsRow 0 5 1 v n (l.map u8v)) : (convert 50 9 v).run Try.prog w = .ok (.string (⟨l.toArray⟩)) w := by
  rcases h.2 with ⟨rfl, h0⟩ | ⟨g, cap, cur, rfl, _, hg, hnc, _, hcs, htake⟩
  · have hx : l = [] := by have := h.1; simp [h0] at this; exact this
    subst hx
    exact run_convert_bytes_nil w 50 5 Try.underlying50 Try.underlying5 0 0 9 Try.underlying9
  · have hl : l.length = n := by have := h.1; simpa using this
    have := run_convert_bytes_arg w 50 5 Try.underlying50 Try.underlying5 g 0 n cap (l.map fun b => ((b.toNat : Nat) : Int)) (by simpa using hl) (fun i hi => by
      have := ownsRow_at (i := i) (u := u8v (l.getD i 0)) h (by rw [List.getElem?_map, List.getElem?_eq_getElem (by omega), List.getD_eq_getElem?_getD, List.getElem?_eq_getElem (by omega)]; rfl)
      rw [Nat.zero_add, this]
      simp [u8v, List.getD_eq_getElem?_getD]
      cases l[i]? <;> rfl) 9 Try.underlying9
    have e : strOfNums (l.map fun b => ((b.toNat : Nat) : Int)) = ⟨l.toArray⟩ := by
      simp only [strOfNums, List.map_map]
      congr 2
      refine (List.map_congr_left (fun b _ => ?_)).trans (List.map_id l)
      simp
    rw [e] at this
    exact this
theorem S_map (o : List UInt8) : (⟨o.toArray⟩ : ByteArray).data.toList = o := rfl
set_option maxRecDepth 100000 in
set_option maxHeartbeats 8000000 in
theorem Expand_walk (v : Value) (l : List Pc) (b : Int) (w : World) (hv : PcAt w v l) (hl : l.length ≤ 1048576) :
    Calls Try.prog 11 #[v, .int .i64 b] w fun e w' => e = .returned (.tuple #[.string ⟨(expN l b).1.toArray⟩, .int .i64 (expN l b).2]) ∧ Ext [] w w' := by
  have HI := Lib.hid (Check_walk v l w hv hl)
  by_cases h0 : chkN l = 0
  · have HV := Lib.hid hv
    have hz : sizN l = sumL l 0 := by unfold sizN; rw [if_pos h0]
    obtain ⟨hb, hc0⟩ := chk_zero h0
    have hle := sum_le l 0 hb (Int.le_refl 0)
    obtain ⟨N, hN⟩ : ∃ N : Nat, sumL l 0 = N := ⟨(sumL l 0).toNat, by omega⟩
    rw [hN] at hz hle
    have hN9 : N ≤ 258 * l.length := by omega
    have hSz : ∀ w1, Ext [] w w1 → Calls Try.prog 13 #[v] w1 fun e w' => e = .returned (.int .i64 N) ∧ Ext [] w1 w' := fun w1 hx => by
      have h := Size_walk v l w1 (hv.ext hx) hl
      rw [hz] at h
      exact h
    have HSz := Lib.hid hSz
    rw [h0] at HI
    clear hv hz hle hSz
    by_cases h1 : b < 0
    · have e : expN l b = ([], 2) := by unfold expN; rw [if_pos h0, if_pos h1]
      rw [e]
      clear e h0 hN hb hc0
      go_enter Try.func11, Try.ntmps11
      go_wp2_with fail
      refine HI.out.mono ?_
      rintro e w1 ⟨rfl, hx1⟩
      have HX1 := Lib.hid hx1
      clear hx1
      go_wp2_with fail
      refine (HSz.out _ HX1.out).mono ?_
      rintro e w2 ⟨rfl, hx2⟩
      have HX2 := Lib.hid hx2
      clear hx2
      go_wp2_with fail
      go_ret2
      exact ⟨rfl, HX1.out.trans HX2.out⟩
    · by_cases h2 : b < N
      · have e : expN l b = ([], 3) := by unfold expN; rw [if_pos h0, if_neg h1, hN, if_pos h2]
        rw [e]
        have h1' : 0 ≤ b := by omega
        clear e h0 hN hb hc0
        go_enter Try.func11, Try.ntmps11
        go_wp2_with fail
        refine HI.out.mono ?_
        rintro e w1 ⟨rfl, hx1⟩
        have HX1 := Lib.hid hx1
        clear hx1
        go_wp2_with fail
        refine (HSz.out _ HX1.out).mono ?_
        rintro e w2 ⟨rfl, hx2⟩
        have HX2 := Lib.hid hx2
        clear hx2
        go_wp2_with fail
        go_ret2
        exact ⟨rfl, HX1.out.trans HX2.out⟩
      · have e : expN l b = (expL l [], 0) := by unfold expN; rw [if_pos h0, if_neg h1, hN, if_neg h2]
        rw [e]
        have h1' : 0 ≤ b := by omega
        have h2' : (N : Int) ≤ b := by omega
        obtain ⟨R, hR⟩ : ∃ R, expL l [] = R := ⟨_, rfl⟩
        rw [hR]
        have HR := Lib.hid hR
        have HB := Lib.hid hb
        have HC0 := Lib.hid hc0
        obtain ⟨i0, hif, hz0, hz1, hz2⟩ := info_parts infoByte9
        clear e h0 hN hb hc0 hR
        go_enter Try.func11, Try.ntmps11
        go_wp2_with fail
        refine HI.out.mono ?_
        rintro e w1 ⟨rfl, hx1⟩
        have HX1 := Lib.hid hx1
        clear hx1
        go_wp2_with fail
        refine (HSz.out _ HX1.out).mono ?_
        rintro e w2 ⟨rfl, hx2⟩
        have HX2 := Lib.hid (HX1.out.trans hx2)
        clear hx2 HX1
        go_wp2_with fail
        refine (Grow_walk N w2 (by omega)).mono ?_
        rintro e w3 ⟨ao3, cap3, rfl, hx3, hP3, hF3⟩
        have S := ((Sep.start w).quiet HX2.out).new hx3 (oSl 5 1 (.slice ao3 0 cap3) 0 []) hP3 hF3
        have HS := Lib.hid S
        clear S hx3 hP3 hF3 HX2
        obtain ⟨aov, capv, rfl, hcv⟩ := HV.out
        have HC := Lib.hid hcv
        clear HV hcv HI
        go_wp2_with fail
        go_loopg [8, 29] l.length (fun g ov iv wr => ∃ (k : Nat) (o : List UInt8) (ao : Option Addr) (cap : Nat), g + k = l.length ∧ iv = .int .i64 k ∧ ov = .slice ao o.length cap ∧ o.length ≤ 258 * k ∧ expL (l.drop k) o = R ∧ chkL (l.drop k) o.length = 0 ∧ Sep w wr [oSl 5 1 (.slice ao o.length cap) o.length (o.map u8v)])
        case atStart => exact ⟨0, [], ao3, cap3, by omega, rfl, rfl, by simp, HR.out, HC0.out, HS.out⟩
        case round =>
          clear HS HR HC0
          obtain ⟨k, o, ao, cap, hk, rfl, rfl, hol, hR, hck, S⟩ := hrel
          by_cases hlt : k < l.length
          · obtain ⟨b, off, rfl, hcell⟩ := HC.out (by omega)
            obtain ⟨x, hxk⟩ : ∃ x, l[k]? = some x := ⟨_, List.getElem?_eq_getElem hlt⟩
            obtain ⟨c0, c1, c2⟩ := hcell k x hxk
            have d0 := Ext.cell S.ext c0
            have d1 := Ext.cell S.ext c1
            have d2 := Ext.cell S.ext c2
            have hm : mayP x = true := by
              have h := HB.out
              unfold badN at h
              rw [List.any_eq_false] at h
              simpa using h x (List.mem_of_getElem? hxk)
            have hm := mayP_iff x hm
            rw [drop_at hxk, expL] at hR
            rw [drop_at hxk, chkL] at hck
            obtain ⟨xb, xl, xd⟩ := x
            simp only at d0 d1 d2 hm hR hck
            have S := S.new ((Ext.refl _ wr).alloc _) (Ob.one wr.heap.size (.cells #[u8v xb, .int .i64 xl, .int .i64 xd] 34 (0, 0))) (heap_alloc_at _) (fun k hk => by rw [List.mem_singleton.1 hk]; exact Nat.le_refl _)
            by_cases hd : (o.length : Int) < xd
            · rw [if_pos hd] at hck; omega
            rw [if_neg hd] at hck
            clear hcell c0 c1 c2 hxk
            rcases hm with ⟨rfl, rfl⟩ | ⟨rfl, hl3, hl4, hd3, hd4⟩
            · rw [if_pos rfl] at hR
              have HR := Lib.hid hR
              have HCK := Lib.hid hck
              have HS := Lib.hid S
              clear hR hd hck S
              --A
              go_upto_region 13 with (fail)
              obtain ⟨bx, hbx⟩ : ∃ bx, wr.heap.size = bx := ⟨_, rfl⟩
              obtain ⟨W4, hW4⟩ : ∃ W4, wr.alloc (.cells #[u8v xb, .int .i64 0, .int .i64 0] 34) = W4 := ⟨_, rfl⟩
              have hS := HS.out
              rw [hW4, hbx] at hS
              have HS := Lib.hid hS
              have hown : W4.ownsRow 0 5 1 (.slice ao o.length cap) o.length (o.map u8v) := hS.get 1 rfl
              have hbq := hS.get 0 rfl
              have b0 : W4.cell? ⟨bx, 0, none⟩ = some (u8v xb) := cellOf hbq 0
              have b1 : W4.cell? ⟨bx, 1, none⟩ = some (.int .i64 0) := cellOf hbq 1
              clear hS hbq
              rw [hW4, hbx]
              clear hW4 hbx d0 d1 d2
              go_wp2_with (at_builtin; refine wpList_append_lies _ rfl _ _ 50 rfl 0 5 i0 _ 1 1 Try.underlying50 hif hz0 hz1 hz2 rfl (by decide) (.slice ao o.length cap) o.length _ rfl (World.ownsRow.alloc hown _) ⟨W4.heap.size, 0, none⟩ 1 1 [u8v xb] rfl rfl (World.news_of_block (heap_alloc_at (w := W4) _)) (by simp [Value.oneCell']) (by decide) (by unfold maxLen; omega) (by omega) (by omega) (W4.heap.size + 1) (by simp) ?_; intro g2 cap3 w6 hown1 hgrow hat hlt6; clear b0 b1; have b1 : w6.cell? ⟨bx, 1, none⟩ = some (.int .i64 0) := cellOf ((HS.out.upd 1 (oSl 5 1 (.slice (some ⟨g2, 0, none⟩) (o.length + 1) cap3) (o.length + 1) ((o ++ [xb]).map u8v)) rfl (push_local (cap := cap3) (n := o.length + 1) hgrow hat).1 (push_local (cap := cap3) (n := o.length + 1) hgrow hat).2 (by rw [List.map_append]; have hown2 := hown1; simpa [oSl] using hown2)).get 0 rfl) 1)
              have hS := (HS.out.upd 1 (oSl 5 1 (.slice (some ⟨g2, 0, none⟩) (o.length + 1) cap3) (o.length + 1) ((o ++ [xb]).map u8v)) rfl (push_local (cap := cap3) (n := o.length + 1) hgrow hat).1 (push_local (cap := cap3) (n := o.length + 1) hgrow hat).2 (by rw [List.map_append]; have hown2 := hown1; simpa [oSl] using hown2))
              have el : (o ++ [xb]).length = o.length + 1 := by simp
              obtain ⟨o1, ho1⟩ : ∃ o1, o ++ [xb] = o1 := ⟨_, rfl⟩
              have hck2 := HCK.out
              rw [show (o.length : Int) + max 1 0 = ((o ++ [xb]).length : Int) from by rw [el]; omega] at hck2
              have hR2 := HR.out
              rw [← el] at hS
              rw [ho1] at hS el hck2 hR2
              have HS := Lib.hid hS
              have HEL := Lib.hid el
              have HCK := Lib.hid hck2
              have HR := Lib.hid hR2
              have hol1 : o1.length ≤ 258 * (k + 1) := by omega
              clear hS hown1 hgrow hat hlt6 hown b1 el ho1 hck2 hR2
              go_loopg [8, 43] 0 (fun gi ov2 jv wr2 => ∃ (j : Nat) (o2 : List UInt8) (ao2 : Option Addr) (cap2 : Nat), gi + j = 0 ∧ jv = .int .i64 j ∧ ov2 = .slice ao2 o2.length cap2 ∧ o2.length = o1.length + j ∧ expL (l.drop (k + 1)) (repF 0 gi o2) = R ∧ Sep w wr2 [Ob.one bx (.cells #[u8v xb, .int .i64 0, .int .i64 0] 34 (0, 0)), oSl 5 1 (.slice ao2 o2.length cap2) o2.length (o2.map u8v)])
              case atStart => exact ⟨0, o1, some ⟨g2, 0, none⟩, cap3, by omega, rfl, by rw [HEL.out], by omega, HR.out, HS.out⟩
              case round =>
                clear HS HR
                obtain ⟨j, o2, ao2, cap2, hj, rfl, rfl, ho2, hR, S⟩ := hrel
                have HR := Lib.hid hR
                have HS := Lib.hid S
                have HO2 := Lib.hid ho2
                have ho3 : o2.length ≤ o1.length + j := by omega
                have ho4 : o1.length + j ≤ o2.length := by omega
                clear hR S ho2
                by_cases hjm : j < 0
                · omega
                · obtain rfl : j = 0 := by omega
                  obtain rfl : gk = 0 := by omega
                  go_wp2_with fail
                  go_roundg (l.length - (k + 1))
                  case measure => omega
                  case rel => exact ⟨k + 1, o2, ao2, cap2, by omega, by go_num, rfl, by omega, HR.out, by rw [HO2.out]; exact HCK.out, (sepTail9 HS.out)⟩
            · obtain ⟨m, rfl⟩ : ∃ m : Nat, xl = m := ⟨xl.toNat, by omega⟩
              obtain ⟨d, rfl⟩ : ∃ d : Nat, xd = d := ⟨xd.toNat, by omega⟩
              rw [if_neg (by omega), Int.toNat_natCast, Int.toNat_natCast] at hR
              rw [Int.max_eq_right (by omega)] at hck
              have HR := Lib.hid hR
              have HCK := Lib.hid hck
              have hd' : (d : Int) ≤ (o.length : Int) := by omega
              have hm0 : ((m : Int) == 0) = false := beq_eq_false_iff_ne.2 (by omega)
              obtain ⟨xb, hxb⟩ : ∃ xb : UInt8, 0 = xb := ⟨_, rfl⟩
              rw [hxb] at d0 S
              have HS := Lib.hid S
              clear hR hd hck hxb S
              go_upto_region 13 with (fail)
              have S := HS.out
              obtain ⟨bx, hbx⟩ : ∃ bx, wr.heap.size = bx := ⟨_, rfl⟩
              obtain ⟨W4, hW4⟩ : ∃ W4, wr.alloc (.cells #[u8v xb, .int .i64 m, .int .i64 d] 34) = W4 := ⟨_, rfl⟩
              rw [hW4, hbx] at S
              have HS := Lib.hid S
              have hbq := S.get 0 rfl
              have b1 : W4.cell? ⟨bx, 1, none⟩ = some (.int .i64 m) := cellOf hbq 1
              clear S hbq
              rw [hW4, hbx]
              clear hW4 hbx d0 d1 d2
              go_wp2_with fail
              clear b1
              go_loopg [8, 43] m (fun gi ov2 jv wr2 => ∃ (j : Nat) (o2 : List UInt8) (ao2 : Option Addr) (cap2 : Nat), gi + j = m ∧ jv = .int .i64 j ∧ ov2 = .slice ao2 o2.length cap2 ∧ o2.length = o.length + j ∧ expL (l.drop (k + 1)) (repF d gi o2) = R ∧ Sep w wr2 [Ob.one bx (.cells #[u8v xb, .int .i64 m, .int .i64 d] 34 (0, 0)), oSl 5 1 (.slice ao2 o2.length cap2) o2.length (o2.map u8v)])
              case atStart => exact ⟨0, o, ao, cap, by omega, rfl, rfl, by omega, HR.out, HS.out⟩
              case round =>
                clear HS HR
                obtain ⟨j, o2, ao2, cap2, hj, rfl, rfl, ho2, hR, S⟩ := hrel
                have HR := Lib.hid hR
                have HS := Lib.hid S
                have HO2 := Lib.hid ho2
                have ho3 : o2.length ≤ o.length + j := by omega
                have ho4 : o.length + j ≤ o2.length := by omega
                clear hR S ho2
                by_cases hjm : j < m
                · obtain ⟨gi2, rfl⟩ : ∃ gi2, gk = gi2 + 1 := ⟨gk - 1, by omega⟩
                  have hbx := HS.out.get 0 rfl
                  have hown : wr.ownsRow 0 5 1 (.slice ao2 o2.length cap2) o2.length (o2.map u8v) := HS.out.get 1 rfl
                  have b1 : wr.cell? ⟨bx, 2, none⟩ = some (.int .i64 d) := cellOf hbx 2
                  have hge : d ≤ o2.length := by omega
                  obtain ⟨g, rfl⟩ : ∃ g, ao2 = some ⟨g, 0, none⟩ := by
                    rcases hown.2 with ⟨_, h⟩ | ⟨g, cap, cs, h, _⟩
                    · omega
                    · injection h with h _ _; exact ⟨g, h⟩
                  have hy : o2[o2.length - d]? = some (o2.getD (o2.length - d) 0) := by
                    rw [List.getD_eq_getElem?_getD, List.getElem?_eq_getElem (by omega)]; rfl
                  have hR := HR.out
                  rw [repF] at hR
                  obtain ⟨y, hyy⟩ : ∃ y, o2.getD (o2.length - d) 0 = y := ⟨_, rfl⟩
                  rw [hyy] at hy hR
                  have HR := Lib.hid hR
                  have y1 : wr.cell? ⟨g, o2.length - d, none⟩ = some (u8v y) := ownsRow_at hown (by rw [List.getElem?_map, hy]; rfl)
                  have q1 : (0 : Int) ≤ (o2.length : Int) - (d : Int) := by omega
                  have q2 : (o2.length : Int) - (d : Int) < (o2.length : Int) := by omega
                  have q3 : ((o2.length : Int) - (d : Int)).toNat = o2.length - d := by omega
                  clear hyy hy hR hbx
                  go_wp2_with (at_builtin; refine wpList_append_lies _ rfl _ _ 50 rfl 0 5 i0 _ 1 1 Try.underlying50 hif hz0 hz1 hz2 rfl (by decide) (.slice (some ⟨g, 0, none⟩) o2.length cap2) o2.length _ rfl (World.ownsRow.alloc hown _) ⟨wr.heap.size, 0, none⟩ 1 1 [u8v y] rfl rfl (World.news_of_block (heap_alloc_at (w := wr) _)) (by simp [Value.oneCell']) (by decide) (by unfold maxLen; omega) (by omega) (by omega) (wr.heap.size + 1) (by simp) ?_; intro g2 cap3 w6 hown1 hgrow hat hlt6)
                  go_roundg gi2
                  case measure => omega
                  case rel =>
                    have P := push_local (cap := cap3) (n := o2.length + 1) hgrow hat
                    have Q := HS.out.upd 1 (oSl 5 1 (.slice (some ⟨g2, 0, none⟩) (o2.length + 1) cap3) (o2.length + 1) ((o2 ++ [y]).map u8v)) rfl P.1 P.2 (by rw [List.map_append]; have hown2 := hown1; simpa [oSl] using hown2)
                    have el : (o2 ++ [y]).length = o2.length + 1 := by simp
                    refine ⟨j + 1, o2 ++ [y], some ⟨g2, 0, none⟩, cap3, by omega, by go_num, by rw [el], by simp; omega, HR.out, ?_⟩
                    rw [el]
                    exact Q
                · obtain rfl : j = m := by omega
                  obtain rfl : gk = 0 := by omega
                  go_wp2_with fail
                  go_roundg (l.length - (k + 1))
                  case measure => omega
                  case rel => exact ⟨k + 1, o2, ao2, cap2, by omega, by go_num, rfl, by omega, HR.out, by rw [HO2.out]; exact HCK.out, (sepTail9 HS.out)⟩
          · obtain rfl : k = l.length := by omega
            rw [List.drop_length] at hR
            have hR' : o = R := hR
            subst hR'
            have hown : wr.ownsRow 0 5 1 (.slice ao o.length cap) o.length (o.map u8v) := S.get 0 rfl
            have hct := run_text9 hown
            have HS := Lib.hid S
            clear hR S hck hown
            go_wp2_with fail
            go_ret2
            exact ⟨rfl, HS.out.ext⟩
  · have e : expN l b = ([], chkN l) := by unfold expN; rw [if_neg h0]
    rw [e]
    generalize chkN l = c at *
    have h0' : (c == 0) = false := beq_eq_false_iff_ne.2 h0
    have h0'' : (c != 0) = true := by simpa using h0
    clear e hv
    go_enter Try.func11, Try.ntmps11
    go_wp2_with fail
    refine HI.out.mono ?_
    rintro e w1 ⟨rfl, hx1⟩
    have HX1 := Lib.hid hx1
    clear hx1
    go_wp2_with fail
    go_ret2
    exact ⟨rfl, HX1.out⟩
end Go.Proofs.Ytngfhnpelchplaa.Mt
