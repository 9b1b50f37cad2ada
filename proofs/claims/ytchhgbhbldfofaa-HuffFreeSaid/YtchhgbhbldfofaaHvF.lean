/-
  The statement HuffCalls: what huff tells and what the document tells, side by side.
-/
import Derived.Test.YtchhgbhbldfofaaHvE
import Derived.Test.YtchhgbhbldfofaaHuL
import Derived.Deep.Strs
namespace Go.Proofs.Ytchhgbhbldfofaa.Hu
open Go.RowKit
open Go.ChangeShapes Go.WideShapes

/-! ### the argument []int -/
theorem cellsInt7 : Try.prog.cellsOf 3 = 1 := by kernel_rfl
def IntsArg' (w : World) (v : Value) (l : List Int) : Prop := IntsArg w v l ∧ ∀ x ∈ l, -9223372036854775808 ≤ x ∧ x ≤ 9223372036854775807
set_option maxRecDepth 100000 in
theorem open_ints7 {H : Type} {enc : TypeId × Value → H} {w : World} {base : Nat} {sp : Nat → Bool} {held : Bool} {r : Reach} {b0 : Nat} {v : Value} {d : DataW H} {ps : List MemPlace} (hval : Value.okWide Try.prog w r b0 22 v) (hd : DataW.Trod enc Try.prog w base sp held 22 v d ps) :
    ∃ l, IntsArg' w v l := by
  obtain ⟨a0, len0, cap0, rfl⟩ := okWide_slice Try.underlying22 hval
  obtain ⟨fuel, hf⟩ := hd
  simp only [Value.cells] at hf
  rcases Go.Deep.open_slice Try.underlying22 hf with ⟨hc, _⟩ | ⟨a, len, cap, m, n, D, Pl, hc, _, hl, hm, hmm, _, hx⟩
  · obtain ⟨rfl, rfl, rfl⟩ : a0 = none ∧ len0 = 0 ∧ cap0 = 0 := by simpa using hc
    exact ⟨[], ⟨⟨none, 0, rfl, fun h => absurd h (Nat.lt_irrefl 0)⟩, none, 0, rfl, Nat.le_refl _, by unfold maxLen; omega, fun _ => rfl⟩, by simp⟩
  · obtain ⟨rfl, rfl, rfl⟩ : a0 = some a ∧ len0 = len ∧ cap0 = cap := by simpa using hc
    have hlm : len0 ≤ m := by rw [hmm]; split <;> omega
    have each : ∀ i, i < len0 → ∃ q : Int, w.cell? (a.add i) = some (.int .i64 q) ∧ -9223372036854775808 ≤ q ∧ q ≤ 9223372036854775807 := by
      intro i hi
      obtain ⟨cs', h1, h2⟩ := hx i (by omega)
      rw [cellsInt7, Nat.mul_one] at h1
      obtain ⟨_, hlen, hcell⟩ := World.cells?_some h1
      match cs', hlen with
      | [v0], _ =>
        have e0 := hcell 0 (by omega)
        obtain ⟨q, hq, _, hw⟩ := DataW.trod_int Try.underlying3 h2
        simp only [List.cons.injEq, and_true] at hq
        subst hq
        exact ⟨q, by rw [show (a.add i).add 0 = a.add i from by simp [Addr.add]] at e0; simpa using e0, Kt.wf_i64 hw⟩
    obtain ⟨f, hf⟩ := Go.Deep.choose_lt each
    have hfl : ((List.range len0).map f).length = len0 := by simp
    refine ⟨(List.range len0).map f, ⟨⟨some a, cap0, by rw [hfl], fun hn => ?_⟩, some a, cap0, by rw [hfl], by rw [hfl]; exact hl, hm, fun h => by cases h⟩, fun x hx => ?_⟩
    · rw [hfl] at hn
      have hspot : a.spot = none := by simpa [Addr.add] using World.cell?_spot (hf 0 hn).1
      obtain ⟨b, off, sp0⟩ := a
      obtain rfl : sp0 = none := hspot
      refine ⟨b, off, rfl, fun i x hi => ?_⟩
      have hi0 : i < len0 := by have := (List.getElem?_eq_some_iff.1 hi).1; omega
      rw [List.getElem?_map, List.getElem?_range hi0] at hi
      obtain rfl : f i = x := by simpa using hi
      obtain ⟨h0, _⟩ := hf i hi0
      have ad : ∀ k, (⟨b, off, none⟩ : Addr).add k = ⟨b, off + k, none⟩ := fun k => by unfold Addr.add; split <;> simp_all
      rw [ad] at h0
      exact h0
    · obtain ⟨i, hi, rfl⟩ := List.mem_map.1 hx
      exact (hf i (List.mem_range.1 hi)).2
/-! ### both answers -/
def codesO (l : List Int) : List Nat := if codesE l = 0 then codesN l else []
theorem codesO_len (l : List Int) : (codesO l).length ≤ l.length := by
  unfold codesO
  split
  · rw [codesN, codesF_len]; exact Nat.le_refl _
  · exact Nat.zero_le _
theorem codesE_zero {l : List Int} (h : codesE l = 0) : badL l = false ∧ kra l ≤ 32768 := by
  unfold codesE at h
  cases hb : badL l
  · rw [hb] at h
    simp only [Bool.false_eq_true, if_false] at h
    split at h
    · omega
    · exact ⟨rfl, by omega⟩
  · rw [hb] at h
    simp at h
theorem U32sAt.nil (w : World) : U32sAt w (.slice none 0 0) [] := ⟨none, 0, rfl, fun h => by simp at h⟩
theorem IntsAt.nil (w : World) : IntsAt w (.slice none 0 0) [] := ⟨none, 0, rfl, fun h => by simp at h⟩
def CodesR (w : World) (l : List Int) (e : Ending) (w' : World) : Prop := ∃ v', e = .returned (.tuple #[v', .int .i64 (codesE l)]) ∧ Ext [] w w' ∧ U32sAt w' v' (codesO l)
theorem codes_any (v : Value) (l : List Int) (w : World) (hv : IntsAt w v l) (hl : l.length ≤ 1048576) : Calls Try.prog 13 #[v] w (CodesR w l) := by
  by_cases he : codesE l = 0
  · obtain ⟨hb, hk⟩ := codesE_zero he
    refine (codes_ok v l w hv hl hb hk).mono ?_
    rintro e w' ⟨v', rfl, hx, hp, _⟩
    refine ⟨v', by rw [he], hx, U32sAt.of_own ?_⟩
    unfold codesO
    rw [if_pos he, show (codesN l).length = l.length from codesF_len _ _]
    exact hp
  · refine (codes_err v l w hv hl he).mono ?_
    rintro e w' ⟨rfl, hx⟩
    refine ⟨_, rfl, hx, ?_⟩
    unfold codesO
    rw [if_neg he]
    exact U32sAt.nil w'
theorem rcodes_any (v : Value) (l : List Int) (w : World) (hv : IntsAt w v l) (hl : l.length ≤ 1048576) : Calls Try.prog 15 #[v] w (CodesR w l) := by
  by_cases he : codesE l = 0
  · obtain ⟨hb, hk⟩ := codesE_zero he
    refine (rcodes_ok v l w hv hb hk).mono ?_
    rintro e w' ⟨v', rfl, hx, hp, _⟩
    refine ⟨v', by rw [he], hx, U32sAt.of_own ?_⟩
    unfold codesO
    rw [if_pos he, show (codesN l).length = l.length from codesF_len _ _]
    exact hp
  · refine (rcodes_err v l w hv hl he).mono ?_
    rintro e w' ⟨rfl, rfl⟩
    refine ⟨_, rfl, Ext.refl _ _, ?_⟩
    unfold codesO
    rw [if_neg he]
    exact U32sAt.nil w
def lensO (l : List Int) (m : Int) : List Int := if lensErr l m = true then [] else lensF 40 m l
def lensX (l : List Int) (m : Int) : Int := if lensErr l m = true then 2 else 0
theorem lensO_len (l : List Int) (m : Int) : (lensO l m).length ≤ l.length := by
  unfold lensO
  split
  · exact Nat.zero_le _
  · rw [lensF_len]; exact Nat.le_refl _
def LensR (w : World) (l : List Int) (m : Int) (e : Ending) (w' : World) : Prop := ∃ v', e = .returned (.tuple #[v', .int .i64 (lensX l m)]) ∧ Ext [] w w' ∧ IntsAt w' v' (lensO l m)
theorem LensR.of_ok {w w' : World} {l : List Int} {m : Int} {e : Ending} (he : lensErr l m = false) (h : NewTwo w (lensF 40 m l) e w') : LensR w l m e w' := by
  obtain ⟨v', rfl, hx, hp, _⟩ := h
  refine ⟨v', by unfold lensX; rw [he]; rfl, hx, ?_⟩
  unfold lensO
  rw [he]
  exact IntsAt.of_own hp
theorem LensR.of_err {w w' : World} {l : List Int} {m : Int} (he : lensErr l m = true) (hx : Ext [] w w') : LensR w l m (.returned (.tuple #[.slice none 0 0, .int .i64 2])) w' := by
  refine ⟨_, by unfold lensX; rw [he]; rfl, hx, ?_⟩
  unfold lensO
  rw [he]
  exact IntsAt.nil w'
theorem lens_any (v : Value) (l : List Int) (m : Int) (w : World) (hv : IntsArg w v l) (hl : l.length ≤ 1048576) (hm0 : -9223372036854775808 ≤ m) (hm9 : m ≤ 9223372036854775807) :
    Calls Try.prog 16 #[v, .int .i64 m] w (LensR w l m) := by
  cases he : lensErr l m
  · exact (lens_ok v l m 40 w hv he (fit_all he)).mono fun e w' h => LensR.of_ok he h
  · refine (lens_err v l m w hv hl hm0 hm9 he).mono ?_
    rintro e w' ⟨rfl, hx⟩
    exact LensR.of_err he hx
theorem rlens_any (v : Value) (l : List Int) (m : Int) (w : World) (hv : IntsArg w v l) (hl : l.length ≤ 1048576) (hm0 : -9223372036854775808 ≤ m) (hm9 : m ≤ 9223372036854775807) :
    Calls Try.prog 17 #[v, .int .i64 m] w (LensR w l m) := by
  cases he : lensErr l m
  · exact (rlens_ok v l m 40 w hv he (fit_all he)).mono fun e w' h => LensR.of_ok he h
  · refine (rlens_err v l m w hv hl hm0 hm9 he).mono ?_
    rintro e w' ⟨rfl, hx⟩
    exact LensR.of_err he hx
set_option maxRecDepth 100000 in
set_option maxHeartbeats 4000000 in
theorem own_int (v : Value) (l : List Int) (w : World) (hv : IntsArg w v l) (hl : l.length ≤ 1048576) : Calls Try.prog 14 #[v] w (NewInts w l) := by
  obtain ⟨hA, ao, cap, rfl, hcap, hcm, hnil⟩ := hv
  obtain ⟨v', w', hr, hx, hp, hn⟩ := copy_ints w ao cap l hA hl hnil (fun h => by have := hnil h; omega)
  have HXP := Lib.hid (⟨hx, hp, hn⟩ : _ ∧ _ ∧ _)
  have HR := Lib.hid hr
  clear hx hp hn hA hr hnil hcap hcm
  go_enter Try.func14, Try.ntmps14
  go_wp2_with (at_builtin; refine wpList_plain rfl (fun K9 hK9 => wp_append_run _ _ _ _ rfl rfl rfl (HR.out _) (hK9 _ _ ?_)))
  go_ret
  exact ⟨_, rfl, HXP.out.1, HXP.out.2.1, HXP.out.2.2⟩
set_option maxRecDepth 100000 in
set_option maxHeartbeats 8000000 in
theorem calls_law (v0 v1 : Value) (m : Int) (w : World) (h0 : ∃ l, IntsArg' w v0 l) (h1 : ∃ l, IntsArg' w v1 l) (h2 : (Lit.int .i64 m).wf = true) :
    Calls Try.prog 3 #[v0, v1, .int .i64 m] w fun e w' => e = .returned (.bool true) ∧ Ext [] w w' := by
  obtain ⟨l, hl, _⟩ := h0
  obtain ⟨f, hf, _⟩ := h1
  have hm := Kt.wf_i64 h2
  have HM := Lib.hid hm
  have HL := Lib.hid hl
  have HF := Lib.hid hf
  clear hm h2
  obtain ⟨_, ao, cap, rfl, _⟩ := hl
  obtain ⟨_, ao2, cap2, rfl, _⟩ := hf
  go_enter Try.func3, Try.ntmps3
  go_wp2_with fail
  refine (lives07 w).mono ?_
  rintro e w1 ⟨rfl, hx⟩
  have HX := Lib.hid hx
  clear hx
  by_cases hl3 : 300 < l.length
  · have hl3' : (300 : Int) < (l.length : Int) := by omega
    go_wp2_with fail
    go_ret
    exact ⟨rfl, HX.out⟩
  have hl3' : ¬ (300 : Int) < (l.length : Int) := by omega
  by_cases hf3 : 300 < f.length
  · have hf3' : (300 : Int) < (f.length : Int) := by omega
    go_wp2_with fail
    go_ret
    exact ⟨rfl, HX.out⟩
  have hf3' : ¬ (300 : Int) < (f.length : Int) := by omega
  obtain ⟨s1, hs1⟩ : ∃ s1, (stateN l).1 = s1 := ⟨_, rfl⟩
  obtain ⟨s2, hs2⟩ : ∃ s2, (stateN l).2 = s2 := ⟨_, rfl⟩
  obtain ⟨c1, hc1⟩ : ∃ c1, codesE l = c1 := ⟨_, rfl⟩
  obtain ⟨x1, hx1⟩ : ∃ x1, lensX f m = x1 := ⟨_, rfl⟩
  have HQ := Lib.hid (⟨hs1, hs2, hc1, hx1⟩ : _ ∧ _ ∧ _ ∧ _)
  clear hs1 hs2 hc1 hx1
  go_wp2_with fail
  refine (state_walk _ l w1 (HL.out.1.ext HX.out) (by omega)).mono ?_
  rw [HQ.out.1, HQ.out.2.1]
  rintro e w2 ⟨rfl, hx⟩
  have HX := Lib.hid (HX.out.trans hx)
  clear hx
  go_wp2_with fail
  refine (rstate_walk _ l w2 (HL.out.1.ext HX.out) (by omega)).mono ?_
  rw [HQ.out.1, HQ.out.2.1]
  rintro e w2' ⟨rfl, rfl⟩
  go_wp2_with fail
  refine (own_int _ l w2 (HL.out.ext HX.out) (by omega)).mono ?_
  rintro e w3 ⟨v3, rfl, hx, hp, _⟩
  have HX := Lib.hid (HX.out.trans hx)
  have HP := Lib.hid (IntsAt.of_own hp)
  clear hx hp
  go_wp2_with fail
  refine (codes_any _ l w3 HP.out (by omega)).mono ?_
  rintro e w4 ⟨v4, he, hx, hp4⟩
  rw [HQ.out.2.2.1] at he
  subst he
  have HX := Lib.hid (HX.out.trans hx)
  have HP4 := Lib.hid hp4
  clear hx hp4 HP
  go_wp2_with fail
  refine (rcodes_any _ l w4 (HL.out.1.ext HX.out) (by omega)).mono ?_
  rintro e w5 ⟨v5, he, hx, hp5⟩
  rw [HQ.out.2.2.1] at he
  subst he
  have HX := Lib.hid (HX.out.trans hx)
  have HP4 := Lib.hid (HP4.out.ext hx)
  have HP5 := Lib.hid hp5
  clear hx hp5
  go_wp2_with fail
  refine (own_int _ f w5 (HF.out.ext HX.out) (by omega)).mono ?_
  rintro e w6 ⟨v6, rfl, hx, hp, _⟩
  have HX := Lib.hid (HX.out.trans hx)
  have HP4 := Lib.hid (HP4.out.ext hx)
  have HP5 := Lib.hid (HP5.out.ext hx)
  have HP := Lib.hid (IntsArg.of_own hp)
  clear hx hp
  go_wp2_with fail
  refine (lens_any _ f m w6 HP.out (by omega) HM.out.1 HM.out.2).mono ?_
  rintro e w7 ⟨v7, he, hx, hp7⟩
  rw [HQ.out.2.2.2] at he
  subst he
  have HX := Lib.hid (HX.out.trans hx)
  have HP4 := Lib.hid (HP4.out.ext hx)
  have HP5 := Lib.hid (HP5.out.ext hx)
  have HP7 := Lib.hid hp7
  clear hx hp7 HP
  go_wp2_with fail
  refine (rlens_any _ f m w7 (HF.out.ext HX.out) (by omega) HM.out.1 HM.out.2).mono ?_
  rintro e w8 ⟨v8, he, hx, hp8⟩
  rw [HQ.out.2.2.2] at he
  subst he
  have HX := Lib.hid (HX.out.trans hx)
  have HP4 := Lib.hid (HP4.out.ext hx)
  have HP5 := Lib.hid (HP5.out.ext hx)
  have HP7 := Lib.hid (HP7.out.ext hx)
  have HP8 := Lib.hid hp8
  clear hx hp8
  go_wp2_with fail
  refine (same_u32 v4 v5 (codesO l) (codesO l) w8 HP4.out HP5.out (by have := codesO_len l; omega) (by have := codesO_len l; omega)).mono ?_
  rw [decide_eq_true rfl]
  rintro e w9 ⟨rfl, hx⟩
  have HX := Lib.hid (HX.out.trans hx)
  have HP7 := Lib.hid (HP7.out.ext hx)
  have HP8 := Lib.hid (HP8.out.ext hx)
  clear hx
  go_wp2_with fail
  refine (same_int v7 v8 (lensO f m) (lensO f m) w9 HP7.out HP8.out (by have := lensO_len f m; omega) (by have := lensO_len f m; omega)).mono ?_
  rw [decide_eq_true rfl]
  rintro e w10 ⟨rfl, hx⟩
  have HX := Lib.hid (HX.out.trans hx)
  clear hx
  go_wp2_with fail
  go_ret
  exact ⟨rfl, HX.out⟩
end Go.Proofs.Ytchhgbhbldfofaa.Hu
