/-
  pagemenderkit.Same at int and at uint32; the chapter's example (huff).
-/
import Derived.Test.YtchhgbhbldfofaaHuK
namespace Go.Proofs.Ytchhgbhbldfofaa.Hu
open Go.RowKit

/-- the value v is a slice of the numbers l (uint32) in the world w -/
def U32sAt (w : World) (v : Value) (l : List Nat) : Prop :=
  ∃ ao cap, v = .slice ao l.length cap ∧ (0 < l.length → ∃ b off, ao = some ⟨b, off, none⟩ ∧ ∀ i x, l[i]? = some x → w.cell? ⟨b, off + i, none⟩ = some (u32v x))
theorem U32sAt.ext {w w' : World} {v : Value} {l : List Nat} (h : U32sAt w v l) (hx : Ext [] w w') : U32sAt w' v l := by
  obtain ⟨ao, cap, rfl, hc⟩ := h
  refine ⟨ao, cap, rfl, fun hn => ?_⟩
  obtain ⟨b, off, rfl, h⟩ := hc hn
  exact ⟨b, off, rfl, fun i x hi => Ext.cell hx (h i x hi)⟩
theorem U32sAt.of_own {w : World} {v : Value} {l : List Nat} (h : w.ownsRow 0 34 1 v l.length (l.map u32v)) : U32sAt w v l := by
  rcases h.2 with ⟨rfl, hn⟩ | ⟨g, cap, cs, rfl, _, hg, hnc, hcap, hsz, ht⟩
  · exact ⟨none, 0, by rw [hn], fun h => by omega⟩
  · refine ⟨_, cap, rfl, fun _ => ⟨g, 0, rfl, fun i x hi => ?_⟩⟩
    rw [Nat.zero_add]
    exact ownsRow_at h (by rw [List.getElem?_map, hi]; rfl)
theorem U32sAt.of_block {w : World} {b cap : Nat} {cs : Array Value} {t : TypeId} {f : Nat × Nat} (l : List Nat) (n : Nat) (hn : l.length = n) (hb : w.heap[b]? = some (.cells cs t f)) (hc : cs.toList = l.map u32v) : U32sAt w (.slice (some ⟨b, 0, none⟩) n cap) l := by
  subst hn
  refine ⟨_, cap, rfl, fun _ => ⟨b, 0, rfl, fun i x hi => ?_⟩⟩
  rw [cellOf hb, Nat.zero_add, ← Array.getElem?_toList, hc, List.getElem?_map, hi]
  rfl
theorem IntsAt.of_block {w : World} {b cap : Nat} {cs : Array Value} {t : TypeId} {f : Nat × Nat} (l : List Int) (n : Nat) (hn : l.length = n) (hb : w.heap[b]? = some (.cells cs t f)) (hc : cs.toList = l.map iz) : IntsAt w (.slice (some ⟨b, 0, none⟩) n cap) l := by
  subst hn
  refine ⟨_, cap, rfl, fun _ => ⟨b, 0, rfl, fun i x hi => ?_⟩⟩
  rw [cellOf hb, Nat.zero_add, ← Array.getElem?_toList, hc, List.getElem?_map, hi]
  rfl
theorem IntsArg.of_block {w : World} {b : Nat} {cs : Array Value} {t : TypeId} {f : Nat × Nat} (l : List Int) (n : Nat) (hn : l.length = n) (hm : n ≤ maxLen) (hb : w.heap[b]? = some (.cells cs t f)) (hc : cs.toList = l.map iz) : IntsArg w (.slice (some ⟨b, 0, none⟩) n n) l :=
  ⟨IntsAt.of_block l n hn hb hc, _, n, by rw [hn], by omega, hm, fun h => by cases h⟩
set_option maxRecDepth 100000 in
set_option maxHeartbeats 8000000 in
theorem same_int (v u : Value) (l m : List Int) (w : World) (hv : IntsAt w v l) (hu : IntsAt w u m) (hl : l.length ≤ 1048576) (hm : m.length ≤ 1048576) :
    Calls Try.prog 19 #[v, u] w fun e w' => e = .returned (.bool (decide (l = m))) ∧ Ext [] w w' := by
  obtain ⟨ao, cap, rfl, hc⟩ := hv
  obtain ⟨ao2, cap2, rfl, hc2⟩ := hu
  have HC := Lib.hid hc
  have HC2 := Lib.hid hc2
  clear hc hc2
  by_cases hlen : l.length = m.length
  · obtain ⟨R, hR⟩ : ∃ R, decide (l = m) = R := ⟨_, rfl⟩
    rw [hR]
    have HR := Lib.hid hR
    have j1 : (((l.length : Nat) : Int) != ((m.length : Nat) : Int)) = false := by simp [hlen]
    have j2 : ((l.length != m.length) : Bool) = false := by simp [hlen]
    have HL := Lib.hid hlen
    clear hR hlen
    go_enter Try.func19, Try.ntmps19
    go_wp2_with fail
    clear j1 j2
    go_loopg [5] l.length (fun g iv wr => ∃ k : Nat, g + k = l.length ∧ iv = .int .i64 k ∧ l.take k = m.take k ∧ Ext [] w wr)
    case atStart => exact ⟨0, by omega, rfl, by simp, Ext.refl _ _⟩
    case round =>
      obtain ⟨k, hk, rfl, htk, hx⟩ := hrel
      have HX := Lib.hid hx
      have HT := Lib.hid htk
      clear hx htk
      by_cases hlt : k < l.length
      · have hlm : k < m.length := by have := HL.out; omega
        obtain ⟨b, off, rfl, hcell⟩ := HC.out (by omega)
        obtain ⟨b2, off2, rfl, hcell2⟩ := HC2.out (by omega)
        obtain ⟨x, hxk⟩ : ∃ x, l[k]? = some x := ⟨_, List.getElem?_eq_getElem hlt⟩
        obtain ⟨y, hyk⟩ : ∃ y, m[k]? = some y := ⟨_, List.getElem?_eq_getElem hlm⟩
        have c0 := hcell k x hxk
        have e0 := hcell2 k y hyk
        have d0 : ∀ q : Ex wr, q.w.cell? _ = some _ := fun q => Ext.cell (HX.out.trans q.ext) c0
        have f0 : ∀ q : Ex wr, q.w.cell? _ = some _ := fun q => Ext.cell (HX.out.trans q.ext) e0
        have HXY := Lib.hid (⟨hxk, hyk⟩ : _ ∧ _)
        have hlt' : (k : Int) < (l.length : Int) := by omega
        have hlm' : (k : Int) < (m.length : Int) := by omega
        clear hcell hcell2 c0 e0 hxk hyk
        by_cases hxy : x = y
        · subst hxy
          go_wp2_with fail
          refine wp_region_ext (by kernel_rfl) (by kernel_rfl) ?_
          repeat (go_big_quiet_step (fail))
          refine wpQuiet_nil ?_
          rintro _ ⟨q, rfl⟩
          have HX := Lib.hid (HX.out.trans q.ext)
          clear d0 f0
          go_wp2_with fail
          go_roundg (l.length - (k + 1))
          case measure => omega
          case rel =>
            refine ⟨k + 1, by omega, by go_num, ?_, HX.out⟩
            rw [List.take_add_one, List.take_add_one, HT.out, HXY.out.1, HXY.out.2]
        · have n1 : ((x : Int) != (y : Int)) = true := by simp; omega
          have n2 : ((x : Int) == (y : Int)) = false := beq_eq_false_iff_ne.2 (by omega)
          have hlm2 : ¬ l = m := fun h => hxy (by have h1 := HXY.out.1; rw [h, HXY.out.2] at h1; exact (Option.some.inj h1).symm)
          have hR := HR.out
          rw [decide_eq_false hlm2] at hR
          subst hR
          clear hlm2 hxy
          go_wp2_with fail
          refine wp_region_ext (by kernel_rfl) (by kernel_rfl) ?_
          repeat (go_big_quiet_step (fail))
          refine wpQuiet_nil ?_
          rintro _ ⟨q, rfl⟩
          have HX := Lib.hid (HX.out.trans q.ext)
          clear d0 f0
          go_wp2_with fail
          go_ret
          exact ⟨rfl, HX.out⟩
      · obtain rfl : k = l.length := by omega
        have h := HT.out
        rw [List.take_length, HL.out, List.take_length] at h
        have hR := HR.out
        rw [decide_eq_true h] at hR
        subst hR
        clear h
        go_wp2_with fail
        go_ret
        exact ⟨rfl, HX.out⟩
  · have e : decide (l = m) = false := decide_eq_false (fun h => hlen (by rw [h]))
    rw [e]
    have j1 : (((l.length : Nat) : Int) != ((m.length : Nat) : Int)) = true := by simp; omega
    have j2 : ((l.length != m.length) : Bool) = true := by simpa using hlen
    clear e hlen
    go_enter Try.func19, Try.ntmps19
    go_wp2_with fail
    go_ret
    exact ⟨rfl, Ext.refl _ _⟩
set_option maxRecDepth 100000 in
set_option maxHeartbeats 8000000 in
theorem same_u32 (v u : Value) (l m : List Nat) (w : World) (hv : U32sAt w v l) (hu : U32sAt w u m) (hl : l.length ≤ 1048576) (hm : m.length ≤ 1048576) :
    Calls Try.prog 18 #[v, u] w fun e w' => e = .returned (.bool (decide (l = m))) ∧ Ext [] w w' := by
  obtain ⟨ao, cap, rfl, hc⟩ := hv
  obtain ⟨ao2, cap2, rfl, hc2⟩ := hu
  have HC := Lib.hid hc
  have HC2 := Lib.hid hc2
  clear hc hc2
  by_cases hlen : l.length = m.length
  · obtain ⟨R, hR⟩ : ∃ R, decide (l = m) = R := ⟨_, rfl⟩
    rw [hR]
    have HR := Lib.hid hR
    have j1 : (((l.length : Nat) : Int) != ((m.length : Nat) : Int)) = false := by simp [hlen]
    have j2 : ((l.length != m.length) : Bool) = false := by simp [hlen]
    have HL := Lib.hid hlen
    clear hR hlen
    go_enter Try.func18, Try.ntmps18
    go_wp2_with fail
    clear j1 j2
    go_loopg [5] l.length (fun g iv wr => ∃ k : Nat, g + k = l.length ∧ iv = .int .i64 k ∧ l.take k = m.take k ∧ Ext [] w wr)
    case atStart => exact ⟨0, by omega, rfl, by simp, Ext.refl _ _⟩
    case round =>
      obtain ⟨k, hk, rfl, htk, hx⟩ := hrel
      have HX := Lib.hid hx
      have HT := Lib.hid htk
      clear hx htk
      by_cases hlt : k < l.length
      · have hlm : k < m.length := by have := HL.out; omega
        obtain ⟨b, off, rfl, hcell⟩ := HC.out (by omega)
        obtain ⟨b2, off2, rfl, hcell2⟩ := HC2.out (by omega)
        obtain ⟨x, hxk⟩ : ∃ x, l[k]? = some x := ⟨_, List.getElem?_eq_getElem hlt⟩
        obtain ⟨y, hyk⟩ : ∃ y, m[k]? = some y := ⟨_, List.getElem?_eq_getElem hlm⟩
        have c0 := hcell k x hxk
        have e0 := hcell2 k y hyk
        have d0 : ∀ q : Ex wr, q.w.cell? _ = some _ := fun q => Ext.cell (HX.out.trans q.ext) c0
        have f0 : ∀ q : Ex wr, q.w.cell? _ = some _ := fun q => Ext.cell (HX.out.trans q.ext) e0
        have HXY := Lib.hid (⟨hxk, hyk⟩ : _ ∧ _)
        have hlt' : (k : Int) < (l.length : Int) := by omega
        have hlm' : (k : Int) < (m.length : Int) := by omega
        clear hcell hcell2 c0 e0 hxk hyk
        by_cases hxy : x = y
        · subst hxy
          go_wp2_with fail
          refine wp_region_ext (by kernel_rfl) (by kernel_rfl) ?_
          repeat (go_big_quiet_step (fail))
          refine wpQuiet_nil ?_
          rintro _ ⟨q, rfl⟩
          have HX := Lib.hid (HX.out.trans q.ext)
          clear d0 f0
          go_wp2_with fail
          go_roundg (l.length - (k + 1))
          case measure => omega
          case rel =>
            refine ⟨k + 1, by omega, by go_num, ?_, HX.out⟩
            rw [List.take_add_one, List.take_add_one, HT.out, HXY.out.1, HXY.out.2]
        · have n1 : ((x : Int) != (y : Int)) = true := by simp; omega
          have n2 : ((x : Int) == (y : Int)) = false := beq_eq_false_iff_ne.2 (by omega)
          have hlm2 : ¬ l = m := fun h => hxy (by have h1 := HXY.out.1; rw [h, HXY.out.2] at h1; exact (Option.some.inj h1).symm)
          have hR := HR.out
          rw [decide_eq_false hlm2] at hR
          subst hR
          clear hlm2 hxy
          go_wp2_with fail
          refine wp_region_ext (by kernel_rfl) (by kernel_rfl) ?_
          repeat (go_big_quiet_step (fail))
          refine wpQuiet_nil ?_
          rintro _ ⟨q, rfl⟩
          have HX := Lib.hid (HX.out.trans q.ext)
          clear d0 f0
          go_wp2_with fail
          go_ret
          exact ⟨rfl, HX.out⟩
      · obtain rfl : k = l.length := by omega
        have h := HT.out
        rw [List.take_length, HL.out, List.take_length] at h
        have hR := HR.out
        rw [decide_eq_true h] at hR
        subst hR
        clear h
        go_wp2_with fail
        go_ret
        exact ⟨rfl, HX.out⟩
  · have e : decide (l = m) = false := decide_eq_false (fun h => hlen (by rw [h]))
    rw [e]
    have j1 : (((l.length : Nat) : Int) != ((m.length : Nat) : Int)) = true := by simp; omega
    have j2 : ((l.length != m.length) : Bool) = true := by simpa using hlen
    clear e hlen
    go_enter Try.func18, Try.ntmps18
    go_wp2_with fail
    go_ret
    exact ⟨rfl, Ext.refl _ _⟩
theorem ex7_c : codesN [2, 1, 3, 3] = [2, 0, 6, 7] := by decide +kernel
theorem ex7_b : badL [2, 1, 3, 3] = false := by decide +kernel
theorem ex7_k : kra [2, 1, 3, 3] ≤ 32768 := by decide +kernel
theorem ex7_e : lensErr [5, 0, 1, 1] 15 = false := by decide +kernel
theorem ex7_f : fitB 0 15 [5, 0, 1, 1] = true := by decide +kernel
theorem ex7_l : lensF 0 15 [5, 0, 1, 1] = [1, 0, 2, 2] := by decide +kernel
set_option maxRecDepth 100000 in
set_option maxHeartbeats 8000000 in
theorem lives07 (w : World) : Calls Try.prog 10 #[] w fun e w' => e = .returned (.bool true) ∧ Ext [] w w' := by
  go_enter Try.func10, Try.ntmps10
  go_wp2_with fail
  refine (codes_ok _ [2, 1, 3, 3] _ (IntsAt.of_block _ 4 rfl (heap_alloc_at _) rfl) (by decide) ex7_b ex7_k).mono ?_
  rw [ex7_c]
  rintro e w1 ⟨v1, rfl, hx, hp, _⟩
  have HX := Lib.hid (((Ext.refl _ w).alloc _).trans hx)
  have HP := Lib.hid (U32sAt.of_own hp)
  clear hx hp
  go_wp2_with fail
  refine (lens_ok _ [5, 0, 1, 1] 15 0 _ (IntsArg.of_block _ 4 rfl (by unfold maxLen; omega) (heap_alloc_at _) rfl) ex7_e ex7_f).mono ?_
  rw [ex7_l]
  rintro e w2 ⟨v2, rfl, hx, hp, _⟩
  have hx := ((Ext.refl _ w1).alloc _).trans hx
  have HP := Lib.hid (HP.out.ext hx)
  have HX := Lib.hid (HX.out.trans hx)
  have HP2 := Lib.hid (IntsAt.of_own hp)
  clear hx hp
  go_wp2_with fail
  refine (same_u32 v1 _ [2, 0, 6, 7] [2, 0, 6, 7] _ (HP.out.ext ((Ext.refl _ _).alloc _)) (U32sAt.of_block _ 4 rfl (heap_alloc_at _) rfl) (by decide) (by decide)).mono ?_
  rw [decide_eq_true rfl]
  rintro e w3 ⟨rfl, hx⟩
  have hx := ((Ext.refl _ w2).alloc _).trans hx
  have HX := Lib.hid (HX.out.trans hx)
  have HP2 := Lib.hid (HP2.out.ext hx)
  clear hx HP
  go_wp2_with fail
  refine (same_int v2 _ [1, 0, 2, 2] [1, 0, 2, 2] _ (HP2.out.ext ((Ext.refl _ _).alloc _)) (IntsAt.of_block _ 4 rfl (heap_alloc_at _) rfl) (by decide) (by decide)).mono ?_
  rw [decide_eq_true rfl]
  rintro e w4 ⟨rfl, hx⟩
  have HX := Lib.hid (HX.out.trans (((Ext.refl _ w3).alloc _).trans hx))
  clear hx HP2
  go_wp2_with fail
  go_ret
  exact ⟨rfl, HX.out⟩
end Go.Proofs.Ytchhgbhbldfofaa.Hu
