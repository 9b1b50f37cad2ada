/-
  The statement HuffLeast walked.
-/
import Derived.Test.YtchhgbhbldfofaaPkJ
import Derived.Test.YtchhgbhbldfofaaHwB
namespace Go.Proofs.Ytchhgbhbldfofaa.Hu
open Go.RowKit

theorem dot_snoc (O : List Int) (x : Int) : ∀ (l : List Int) (k : Nat), dot (l ++ [x]) O k = dot l O k + x * O.getD (k + l.length) 0
  | [], k => by simp [dot]
  | c :: l, k => by
    rw [List.cons_append, dot, dot, dot_snoc O x l (k + 1), List.length_cons, show k + 1 + l.length = k + (l.length + 1) by omega]
    omega
theorem dot_take (l O : List Int) (i : Nat) (x y : Int) (hx : l[i]? = some x) (hy : O[i]? = some y) : dot (l.take (i + 1)) O 0 = dot (l.take i) O 0 + x * y := by
  have hi := (List.getElem?_eq_some_iff.1 hx).1
  rw [ints_take l i x hx, dot_snoc, Nat.zero_add, List.length_take, Nat.min_eq_left (by omega), List.getD_eq_getElem?_getD, hy]
  rfl
theorem mul_bd {x y : Int} (h1 : 0 ≤ x) (h2 : x ≤ 20) (h3 : 0 ≤ y) (h4 : y ≤ 15) : 0 ≤ x * y ∧ x * y ≤ 300 :=
  ⟨Int.mul_nonneg h1 h3, Int.le_trans (Int.mul_le_mul h2 h4 h3 (by omega)) (by omega)⟩
/-- all of a statement's counts are small -/
structure Small (f O : List Int) (i : Nat) : Prop where
  rng : ∀ j c, j < i → f[j]? = some c → 0 ≤ c ∧ c ≤ 20
  pos : ∀ j c y, j < i → f[j]? = some c → O[j]? = some y → 0 < c → y ≠ 0
theorem Small.lens {f O : List Int} (h : Small f O f.length) (hl : f.length ≤ 60) : lensErr f 15 = false ∧ lensO f 15 = deepN f := by
  have hr : ∀ c ∈ f, 0 ≤ c ∧ c ≤ 20 := fun c hc => by
    obtain ⟨j, hj⟩ := List.getElem?_of_mem hc
    exact h.rng j c (List.getElem?_eq_some_iff.1 hj).1 hj
  have he : lensErr f 15 = false := by
    unfold lensErr
    rw [Bool.or_eq_false_iff, List.any_eq_false]
    refine ⟨fun x hx => by have := hr x hx; simp; omega, decide_eq_false ?_⟩
    have := someN_le f
    have e : ((2 ^ (15 : Int).toNat : Nat) : Int) = 32768 := by decide
    rw [e]
    omega
  refine ⟨he, ?_⟩
  unfold lensO
  rw [he]
  show lensF 40 15 f = deepN f
  rw [lensF, if_pos (small_fit f hl hr)]
theorem least_all {f O : List Int} (h : Small f O f.length) (hlen : f.length ≤ O.length) (hO : ∀ y ∈ O, 0 ≤ y ∧ y ≤ 15) (hk : kra O ≤ 32768) : dot f (deepN f) 0 ≤ dot f O 0 := by
  have hr : ∀ c ∈ f, 0 ≤ c := fun c hc => by
    obtain ⟨j, hj⟩ := List.getElem?_of_mem hc
    exact (h.rng j c (List.getElem?_eq_some_iff.1 hj).1 hj).1
  have hp : ∀ i c, f[i]? = some c → 0 < c → 0 < O.getD i 0 := fun i c hi hc => by
    have hil := (List.getElem?_eq_some_iff.1 hi).1
    have hO2 : O[i]? = some O[i] := List.getElem?_eq_getElem (by omega)
    have := h.pos i c _ hil hi hO2 hc
    have := hO O[i] (List.getElem_mem _)
    rw [List.getD_eq_getElem?_getD, hO2]
    simp only [Option.getD_some]
    omega
  by_cases h2 : 2 ≤ (leavesF f 0).length
  · exact least f O hr h2 hO (by rw [← kra_sum O hO]; exact hk) hp
  · rw [dot_cost _ (deepN_nn f) f 0 hr, dot_cost _ (fun y hy => (hO y hy).1) f 0 hr]
    have hz := leaves_zs f 0
    match hleaf : leavesF f 0, h2 with
    | [], _ =>
      rw [hleaf] at hz
      have : Zs f 0 = [] := by
        have := congrArg List.length hz
        exact List.eq_nil_of_length_eq_zero (by simpa using this.symm)
      rw [this]
      exact Int.le_refl _
    | [x], _ =>
      rw [hleaf] at hz
      obtain ⟨c, s, rfl, _, hsl, hc, hs⟩ := leavesF_mem f 0 x (by rw [hleaf]; simp)
      rw [Nat.sub_zero] at hs
      rw [Nat.zero_add] at hsl
      have hZ : Zs f 0 = [(c, s)] := by
        have h3 := leavesF_lfs f 0
        rw [hleaf] at h3
        simpa [lfsL, lfs, Zs] using h3.symm
      have hD : (deepN f).getD s 0 = 1 := by
        rw [deepN_one hleaf, List.getD_eq_getElem?_getD]
        show ((zers f.length).set s 1)[s]?.getD 0 = 1
        rw [List.getElem?_set_self (by rw [zers_len]; exact hsl)]
        rfl
      have hO1 := hp s c hs hc
      rw [hZ]
      show c * ((((deepN f).getD s 0).toNat : Nat) : Int) + 0 ≤ c * (((O.getD s 0).toNat : Nat) : Int) + 0
      rw [hD]
      have := Int.mul_le_mul_of_nonneg_left (show (((1 : Int).toNat : Nat) : Int) ≤ (((O.getD s 0).toNat : Nat) : Int) by omega) (show 0 ≤ c by omega)
      omega
    | _ :: _ :: _, h2 => simp at h2
theorem deepN_15 {f : List Int} (h : okB 15 f = true) : ∀ y ∈ deepN f, 0 ≤ y ∧ y ≤ 15 := fun y hy => by
  refine ⟨deepN_nn f y hy, ?_⟩
  rw [okB_all] at h
  exact of_decide_eq_true (List.all_eq_true.1 h y hy)
set_option maxRecDepth 100000 in
set_option maxHeartbeats 8000000 in
theorem least_law (v0 v1 : Value) (w : World) (h0 : ∃ l, IntsArg' w v0 l) (h1 : ∃ l, IntsArg' w v1 l) :
    Calls Try.prog 5 #[v0, v1] w fun e w' => e = .returned (.bool true) ∧ Ext [] w w' := by
  obtain ⟨f, hf, _⟩ := h0
  obtain ⟨O, hO, _⟩ := h1
  have HF := Lib.hid hf
  have HO := Lib.hid hO
  obtain ⟨⟨_, _, hev, hcf⟩, ao, cap, rfl, _⟩ := hf
  obtain ⟨⟨_, _, hev2, hcO⟩, ao2, cap2, rfl, _⟩ := hO
  injection hev with e1 _ e3
  subst e1 e3
  injection hev2 with e1 _ e3
  subst e1 e3
  have HCF := Lib.hid hcf
  have HCO := Lib.hid hcO
  clear hcf hcO
  go_enter Try.func5, Try.ntmps5
  go_wp2_with fail
  refine (lives07 w).mono ?_
  rintro e w1 ⟨rfl, hx⟩
  have HX := Lib.hid hx
  clear hx
  by_cases hf6 : 60 < f.length
  · have hf6' : (60 : Int) < (f.length : Int) := by omega
    go_wp2_with fail
    go_ret
    exact ⟨rfl, HX.out⟩
  have hf6' : ¬ (60 : Int) < (f.length : Int) := by omega
  by_cases hfo : O.length < f.length
  · have hfo' : decide (O.length < f.length) = true := by simp [hfo]
    go_wp2_with fail
    go_ret
    exact ⟨rfl, HX.out⟩
  have hfo' : decide (O.length < f.length) = false := by simp; omega
  by_cases hO6 : 60 < O.length
  · have hO6' : (60 : Int) < (O.length : Int) := by omega
    go_wp2_with fail
    go_ret
    exact ⟨rfl, HX.out⟩
  have hO6' : ¬ (60 : Int) < (O.length : Int) := by omega
  have HST := Lib.hid (state_walk _ O w1 (HO.out.1.ext HX.out) (by omega))
  have HLN := Lib.hid (fun w2 (hx : Ext [] w1 w2) => lens_any _ f 15 w2 (HF.out.ext (HX.out.trans hx)) (by omega) (by omega) (by omega))
  clear hf6 hO6
  cases hb : badL O
  · have e : stateN O = (cmpZ (kra O) 32768, 0) := by unfold stateN; rw [hb]; rfl
    obtain ⟨cz, hcz⟩ : ∃ cz, cmpZ (kra O) 32768 = cz := ⟨_, rfl⟩
    rw [e, hcz] at HST
    have HCZ := Lib.hid (⟨hcz, bad_false hb⟩ : _ ∧ _)
    clear e hcz hb
    go_wp2_with fail
    refine HST.out.mono ?_
    clear HST
    rintro e w2 ⟨rfl, hx2⟩
    by_cases hcz : 0 < cz
    · have HX := Lib.hid (HX.out.trans hx2)
      clear hx2
      go_wp2_with fail
      go_ret
      exact ⟨rfl, HX.out⟩
    have hkr : kra O ≤ 32768 := by
      have h1 := HCZ.out.1
      rcases cmpZ_cases (kra O) 32768 with ⟨h, _⟩ | ⟨_, h⟩ | ⟨h, _⟩ <;> omega
    have HK := Lib.hid (⟨hkr, HCZ.out.2.2⟩ : _ ∧ _)
    have HX2 := Lib.hid hx2
    clear hkr HCZ hx2
    go_wp2_with fail
    refine (HLN.out w2 HX2.out).mono ?_
    clear HLN
    rintro e w3 ⟨v3, rfl, hx3, hp3⟩
    have HX := Lib.hid ((HX.out.trans HX2.out).trans hx3)
    obtain ⟨x1, hx1⟩ : ∃ x1, lensX f 15 = x1 := ⟨_, rfl⟩
    have HX1 := Lib.hid hx1
    have HP3 := Lib.hid hp3
    obtain ⟨ao3, cap3, rfl, _⟩ := hp3
    obtain ⟨n3, hn3⟩ : ∃ n3, (lensO f 15).length = n3 := ⟨_, rfl⟩
    have HN3 := Lib.hid hn3
    rw [hx1, hn3]
    clear hx1 hn3 hx3 HX2
    go_wp2_with fail
    go_loopg [10, 11] f.length (fun g bv iv wr => ∃ i : Nat, ∃ b : Int, g + i = f.length ∧ iv = .int .i64 i ∧ bv = .int .i64 b ∧ b = dot (f.take i) O 0 ∧ 0 ≤ b ∧ b ≤ 300 * i ∧ Small f O i ∧ Ext [] w3 wr)
    case atStart => exact ⟨0, 0, by omega, rfl, rfl, rfl, by omega, by omega, ⟨fun j c h => by omega, fun j c y h => by omega⟩, Ext.refl _ _⟩
    case round =>
      obtain ⟨i, b, hi, rfl, rfl, hbd, hb0, hb9, hsm, hxr⟩ := hrel
      by_cases hlt : i < f.length
      · have hltO : i < O.length := by simp at hfo'; omega
        obtain ⟨fb, fo, rfl, hfc⟩ := HCF.out (by omega)
        obtain ⟨ob, oo, rfl, hoc⟩ := HCO.out (by omega)
        obtain ⟨x, hxi⟩ : ∃ x, f[i]? = some x := ⟨_, List.getElem?_eq_getElem hlt⟩
        obtain ⟨y, hyi⟩ : ∃ y, O[i]? = some y := ⟨_, List.getElem?_eq_getElem hltO⟩
        have c0 := Ext.cell (HX.out.trans hxr) (hfc i x hxi)
        have o0 := Ext.cell (HX.out.trans hxr) (hoc i y hyi)
        have hyr := HK.out.2 y (List.mem_of_getElem? hyi)
        have HXW := Lib.hid (HX.out.trans hxr)
        have hi' : (i : Int) < (f.length : Int) := by omega
        have hi2 : (i : Int) < (O.length : Int) := by omega
        have HD := Lib.hid (⟨hbd, hsm, hxi, hyi⟩ : _ ∧ _ ∧ _ ∧ _)
        have HXR := Lib.hid hxr
        clear hbd hsm hxi hyi hfc hoc hxr
        by_cases hx0 : x < 0
        · go_wp2_with fail
          go_ret
          exact ⟨rfl, HXW.out⟩
        by_cases hx2 : 20 < x
        · go_wp2_with fail
          go_ret
          exact ⟨rfl, HXW.out⟩
        have hmb := mul_bd (x := x) (y := y) (by omega) (by omega) hyr.1 hyr.2
        obtain ⟨p, hp⟩ : ∃ p, x * y = p := ⟨_, rfl⟩
        rw [hp] at hmb
        have d0 : ∀ q : Ex wr, q.w.cell? _ = some _ := fun q => Ext.cell q.ext c0
        have f0 : ∀ q : Ex wr, q.w.cell? _ = some _ := fun q => Ext.cell q.ext o0
        have HPP := Lib.hid hp
        have key : (0 < x → y ≠ 0) → ∀ w', Ext [] wr w' → ∃ i' : Nat, ∃ b' : Int, f.length - (i + 1) + i' = f.length ∧ Value.int .i64 ((i : Int) + 1) = .int .i64 i' ∧ Value.int .i64 (b + p) = .int .i64 b' ∧ b' = dot (f.take i') O 0 ∧ 0 ≤ b' ∧ b' ≤ 300 * i' ∧ Small f O i' ∧ Ext [] w3 w' := fun hy0 w' hx' => by
          refine ⟨i + 1, b + p, by omega, by go_num, rfl, by rw [dot_take f O i x y HD.out.2.2.1 HD.out.2.2.2, HPP.out, ← HD.out.1], by omega, by omega, ⟨fun j c hj hc => ?_, fun j c z hj hc hz hpos => ?_⟩, HXR.out.trans hx'⟩
          · by_cases hji : j = i
            · subst hji
              rw [HD.out.2.2.1] at hc
              have := Option.some.inj hc
              omega
            · exact HD.out.2.1.rng j c (by omega) hc
          · by_cases hji : j = i
            · subst hji
              rw [HD.out.2.2.1] at hc
              rw [HD.out.2.2.2] at hz
              have h1 := Option.some.inj hc
              have h2 := Option.some.inj hz
              subst h1 h2
              exact hy0 hpos
            · exact HD.out.2.1.pos j c z (by omega) hc hz hpos
        have KEY := Lib.hid key
        clear key HPP
        by_cases hxp : 0 < x
        · by_cases hy0 : y = 0
          · subst hy0
            clear hp
            go_wp2_with fail
            go_ret
            exact ⟨rfl, HXW.out⟩
          · have hy1 : (y == 0) = false := beq_eq_false_iff_ne.2 hy0
            clear hy0
            go_wp2_with fail
            refine wp_region_ext (by kernel_rfl) (by kernel_rfl) ?_
            repeat (go_big_quiet_step (fail))
            refine wpQuiet_nil ?_
            rintro _ ⟨q, rfl⟩
            clear d0 f0 c0 o0
            have hkk := KEY.out (fun _ => by simpa using hy1) q.w q.ext
            have HKK := Lib.hid hkk
            clear hkk KEY
            go_wp2_with fail
            go_roundg (f.length - (i + 1))
            case measure => omega
            case rel => exact HKK.out
        · obtain rfl : x = 0 := by omega
          go_wp2_with fail
          refine wp_region_ext (by kernel_rfl) (by kernel_rfl) ?_
          repeat (go_big_quiet_step (fail))
          refine wpQuiet_nil ?_
          rintro _ ⟨q, rfl⟩
          clear d0 f0 c0 o0
          have hkk := KEY.out (fun h => absurd h (by omega)) q.w q.ext
          have HKK := Lib.hid hkk
          clear hkk KEY
          go_wp2_with fail
          go_roundg (f.length - (i + 1))
          case measure => omega
          case rel => exact HKK.out
      · obtain rfl : i = f.length := by omega
        rw [List.take_length] at hbd
        obtain ⟨hle, hlo⟩ := hsm.lens (by omega)
        have hx10 : x1 = 0 := by rw [← HX1.out]; unfold lensX; rw [hle]; rfl
        have hn30 : n3 = f.length := by rw [← HN3.out, hlo, deepN_len]
        subst hx10 hn30
        rw [hlo] at HP3
        have hle2 := least_all hsm (by simp at hfo'; omega) HK.out.2 HK.out.1
        have hd15 := deepN_15 (small_fit f (by omega) (fun c hc => by
          obtain ⟨j, hj⟩ := List.getElem?_of_mem hc
          exact hsm.rng j c (List.getElem?_eq_some_iff.1 hj).1 hj))
        obtain ⟨_, _, hev, hcD⟩ := HP3.out
        injection hev with e1 _ e3
        subst e1 e3
        have HCD := Lib.hid hcD
        have HE := Lib.hid (⟨hbd, hsm, hle2, hd15⟩ : _ ∧ _ ∧ _ ∧ _)
        have HXR := Lib.hid hxr
        clear hbd hsm hle hlo hle2 hd15 hcD hxr HX1 HN3
        go_wp2_with fail
        go_loopg [9, 12] f.length (fun g av iv wr2 => ∃ i : Nat, ∃ a : Int, g + i = f.length ∧ iv = .int .i64 i ∧ av = .int .i64 a ∧ a = dot (f.take i) (deepN f) 0 ∧ 0 ≤ a ∧ a ≤ 300 * i ∧ Ext [] w3 wr2)
        case atStart => exact ⟨0, 0, by omega, rfl, rfl, rfl, by omega, by omega, HXR.out⟩
        case round =>
          obtain ⟨i, a, hi, rfl, rfl, hbd, ha0, ha9, hxr⟩ := hrel
          by_cases hlt : i < f.length
          · have hltD : i < (deepN f).length := by rw [deepN_len]; exact hlt
            obtain ⟨fb, fo, rfl, hfc⟩ := HCF.out (by omega)
            obtain ⟨db, dd, rfl, hdc⟩ := HCD.out (by omega)
            obtain ⟨x, hxi⟩ : ∃ x, f[i]? = some x := ⟨_, List.getElem?_eq_getElem hlt⟩
            obtain ⟨y, hyi⟩ : ∃ y, (deepN f)[i]? = some y := ⟨_, List.getElem?_eq_getElem hltD⟩
            have c0 := Ext.cell (HX.out.trans hxr) (hfc i x hxi)
            have o0 := Ext.cell hxr (hdc i y hyi)
            have hyr := HE.out.2.2.2 y (List.mem_of_getElem? hyi)
            have hxr2 := HE.out.2.1.rng i x hlt hxi
            have hi' : (i : Int) < (f.length : Int) := by omega
            have hmb := mul_bd hxr2.1 hxr2.2 hyr.1 hyr.2
            obtain ⟨p, hp⟩ : ∃ p, x * y = p := ⟨_, rfl⟩
            rw [hp] at hmb
            have d0 : ∀ q : Ex wr, q.w.cell? _ = some _ := fun q => Ext.cell q.ext c0
            have f0 : ∀ q : Ex wr, q.w.cell? _ = some _ := fun q => Ext.cell q.ext o0
            have HD := Lib.hid (⟨hbd, dot_take f (deepN f) i x y hxi hyi, hp⟩ : _ ∧ _ ∧ _)
            have HXR2 := Lib.hid hxr
            clear hbd hxi hyi hfc hdc hxr c0 o0
            go_wp2_with fail
            refine wp_region_ext (by kernel_rfl) (by kernel_rfl) ?_
            repeat (go_big_quiet_step (fail))
            refine wpQuiet_nil ?_
            rintro _ ⟨q, rfl⟩
            clear d0 f0
            have HXR2 := Lib.hid (HXR2.out.trans q.ext)
            go_wp2_with fail
            go_roundg (f.length - (i + 1))
            case measure => omega
            case rel => exact ⟨i + 1, a + p, by omega, by go_num, rfl, by rw [HD.out.2.1, HD.out.2.2, ← HD.out.1], by omega, by omega, HXR2.out⟩
          · obtain rfl : i = f.length := by omega
            rw [List.take_length] at hbd
            have hab : a ≤ b := by rw [hbd, HE.out.1]; exact HE.out.2.2.1
            have HXW := Lib.hid (HX.out.trans hxr)
            clear hbd hxr
            go_wp2_with fail
            go_ret
            exact ⟨rfl, HXW.out⟩
  · have e : stateN O = (0, 2) := by unfold stateN; rw [hb]; rfl
    rw [e] at HST
    clear e hb
    go_wp2_with fail
    refine HST.out.mono ?_
    clear HST
    rintro e w2 ⟨rfl, hx2⟩
    have HX := Lib.hid (HX.out.trans hx2)
    clear hx2
    go_wp2_with fail
    go_ret
    exact ⟨rfl, HX.out⟩
end Go.Proofs.Ytchhgbhbldfofaa.Hu
