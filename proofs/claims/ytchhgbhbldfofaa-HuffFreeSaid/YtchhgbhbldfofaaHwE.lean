/-
  The statement HuffFree walked.
-/
import Derived.Test.YtchhgbhbldfofaaHwD
import Derived.IntWalk
namespace Go.Proofs.Ytchhgbhbldfofaa.Hu
open Go.RowKit

theorem few_snoc (l : List Int) (x : Int) : allLe 20 (l ++ [x]) = (allLe 20 l && decide (x ≤ 20)) := allLe_snoc 20 l x
set_option maxRecDepth 100000 in
set_option maxHeartbeats 16000000 in
theorem free_law (v0 v1 : Value) (w : World) (h0 : ∃ l, IntsArg' w v0 l) (h1 : ∃ l, IntsArg' w v1 l) :
    Calls Try.prog 4 #[v0, v1] w fun e w' => e = .returned (.bool true) ∧ Ext [] w w' := by
  obtain ⟨L, hL, _⟩ := h0
  obtain ⟨f, hf, _⟩ := h1
  have HL := Lib.hid hL
  have HF := Lib.hid hf
  obtain ⟨⟨_, _, hev, hcL⟩, ao, cap, rfl, _⟩ := hL
  obtain ⟨⟨_, _, hev2, hcf⟩, ao2, cap2, rfl, _⟩ := hf
  injection hev with e1 _ e3
  subst e1 e3
  injection hev2 with e1 _ e3
  subst e1 e3
  have HCL := Lib.hid hcL
  have HCF := Lib.hid hcf
  clear hcL hcf
  go_enter Try.func4, Try.ntmps4
  go_wp2_with fail
  refine (lives07 w).mono ?_
  rintro e w1 ⟨rfl, hx⟩
  have HX := Lib.hid hx
  clear hx
  by_cases hL6 : 60 < L.length
  · have hL6' : (60 : Int) < (L.length : Int) := by omega
    go_wp2_with fail
    go_ret
    exact ⟨rfl, HX.out⟩
  have hL6' : ¬ (60 : Int) < (L.length : Int) := by omega
  by_cases hf6 : 60 < f.length
  · have hf6' : (60 : Int) < (f.length : Int) := by omega
    go_wp2_with fail
    go_ret
    exact ⟨rfl, HX.out⟩
  have hf6' : ¬ (60 : Int) < (f.length : Int) := by omega
  obtain ⟨c1, hc1⟩ : ∃ c1, codesE L = c1 := ⟨_, rfl⟩
  obtain ⟨C, hC⟩ : ∃ C, codesO L = C := ⟨_, rfl⟩
  have hCl : C.length ≤ L.length := by rw [← hC]; exact codesO_len L
  have hC1 : c1 = 0 → C = codesN L ∧ C.length = L.length ∧ badL L = false ∧ kra L ≤ 32768 := fun h => by
    rw [h] at hc1
    obtain ⟨hb, hk⟩ := codesE_zero hc1
    have e : C = codesN L := by rw [← hC]; unfold codesO; rw [if_pos hc1]
    exact ⟨e, by rw [e]; exact codesF_len _ _, hb, hk⟩
  have hC2 : c1 ≠ 0 → C.length = 0 := fun h => by
    rw [← hC]; unfold codesO; rw [if_neg (by rw [hc1]; exact h)]; rfl
  have HC := Lib.hid (⟨hc1, hC, hC1, hC2⟩ : _ ∧ _ ∧ _ ∧ _)
  clear hc1 hC hC1 hC2
  clear hL6 hf6
  go_wp2_with fail
  refine (codes_any _ L w1 (HL.out.1.ext HX.out) (by omega)).mono ?_
  rintro e w2 ⟨v2, he, hx, hp⟩
  rw [HC.out.1] at he
  subst he
  have HX := Lib.hid (HX.out.trans hx)
  rw [HC.out.2.1] at hp
  obtain ⟨ao3, cap3, rfl, hcC⟩ := hp
  have HCC := Lib.hid hcC
  clear hx hcC
  go_wp2_with fail
  go_loopg [7] C.length (fun g iv wr => ∃ i : Nat, g + i = C.length ∧ iv = .int .i64 i ∧ Ext [] w2 wr)
  case atStart => exact ⟨0, by omega, rfl, Ext.refl _ _⟩
  case round =>
    obtain ⟨i, hi, rfl, hxr⟩ := hrel
    by_cases hlt : i < C.length
    · obtain rfl : c1 = 0 := by
        refine Decidable.byContradiction fun h => ?_
        have := HC.out.2.2.2 h
        omega
      obtain ⟨hCe, hCL, hbL, hkL⟩ := HC.out.2.2.1 rfl
      have hltL : i < L.length := by omega
      obtain ⟨x, hxi⟩ : ∃ x, L[i]? = some x := ⟨_, List.getElem?_eq_getElem hltL⟩
      obtain ⟨ci, hci⟩ : ∃ ci, C[i]? = some ci := ⟨_, List.getElem?_eq_getElem hlt⟩
      have hx15 := (bad_false hbL).2 x (List.mem_of_getElem? hxi)
      have HI := Lib.hid (⟨hCe, hCL, hxi, hci, (bad_false hbL).2⟩ : _ ∧ _ ∧ _ ∧ _ ∧ _)
      have HXR := Lib.hid hxr
      have hilt : (i : Int) < (C.length : Int) := by omega
      clear hCe hCL hbL hkL hxi hci hxr
      obtain ⟨G, hG⟩ : ∃ G, gk = G := ⟨_, rfl⟩
      subst hG
      go_wp2_with fail
      clear hilt
      go_loopg [8] C.length (fun g kv wr2 => ∃ k : Nat, g + k = C.length ∧ kv = .int .i64 k ∧ Ext [] w2 wr2)
      case atStart => exact ⟨0, by omega, rfl, HXR.out⟩
      case round =>
        obtain ⟨k, hk, rfl, hxr⟩ := hrel
        by_cases hltk : k < C.length
        · have hltk' : (k : Int) < (C.length : Int) := by omega
          obtain ⟨y, hyk⟩ : ∃ y, L[k]? = some y := ⟨_, List.getElem?_eq_getElem (by have := HI.out.2.1; omega)⟩
          obtain ⟨ck, hck⟩ : ∃ ck, C[k]? = some ck := ⟨_, List.getElem?_eq_getElem hltk⟩
          obtain ⟨lb, lo, rfl, hlc⟩ := HCL.out (by omega)
          obtain ⟨cb, co, rfl, hcc⟩ := HCC.out (by omega)
          have l0 : ∀ q : Ex wr, q.w.cell? _ = some _ := fun q => Ext.cell ((HX.out.trans hxr).trans q.ext) (hlc i x HI.out.2.2.1)
          have l1 : ∀ q : Ex wr, q.w.cell? _ = some _ := fun q => Ext.cell ((HX.out.trans hxr).trans q.ext) (hlc k y hyk)
          have m0 : ∀ q : Ex wr, q.w.cell? _ = some _ := fun q => Ext.cell (hxr.trans q.ext) (hcc i ci HI.out.2.2.2.1)
          have m1 : ∀ q : Ex wr, q.w.cell? _ = some _ := fun q => Ext.cell (hxr.trans q.ext) (hcc k ck hck)
          have hy15 := HI.out.2.2.2.2 y (List.mem_of_getElem? hyk)
          have hltL' : (i : Int) < (L.length : Int) := by omega
          have hltK' : (k : Int) < (L.length : Int) := by have := HI.out.2.1; omega
          have hltC' : (i : Int) < (C.length : Int) := by omega
          have HXR2 := Lib.hid hxr
          have HK := Lib.hid (⟨hyk, hck⟩ : _ ∧ _)
          clear hlc hcc hxr hyk hck
          by_cases hik : i = k
          · subst hik
            have j0 : ((i : Int) == (i : Int)) = true := by simp
            have j1 : (i == i) = true := by simp
            clear l0 l1 m0 m1
            go_wp2_with fail
            refine wp_region_ext (by kernel_rfl) (by kernel_rfl) ?_
            repeat (go_big_quiet_step (fail))
            refine wpQuiet_nil ?_
            rintro _ ⟨q, rfl⟩
            have HXR3 := Lib.hid (HXR2.out.trans q.ext)
            go_wp2_with fail
            go_roundg (C.length - (i + 1))
            case measure => omega
            case rel => exact ⟨i + 1, by omega, by go_num, HXR3.out⟩
          have j0 : ((i : Int) == (k : Int)) = false := beq_eq_false_iff_ne.2 (by omega)
          have j1 : (i == k) = false := beq_eq_false_iff_ne.2 (by omega)
          by_cases hx0 : x = 0
          · subst hx0
            clear l1 m0 m1
            go_wp2_with fail
            refine wp_region_ext (by kernel_rfl) (by kernel_rfl) ?_
            repeat (go_big_quiet_step (fail))
            refine wpQuiet_nil ?_
            rintro _ ⟨q, rfl⟩
            have HXR3 := Lib.hid (HXR2.out.trans q.ext)
            clear l0
            go_wp2_with fail
            go_roundg (C.length - (k + 1))
            case measure => omega
            case rel => exact ⟨k + 1, by omega, by go_num, HXR3.out⟩
          have j2 : (x == 0) = false := beq_eq_false_iff_ne.2 hx0
          by_cases hyx : y < x
          · clear m0 m1
            have j3 : decide (y < x) = true := decide_eq_true hyx
            go_wp2_with fail
            refine wp_region_ext (by kernel_rfl) (by kernel_rfl) ?_
            repeat (go_big_quiet_step (fail))
            refine wpQuiet_nil ?_
            rintro _ ⟨q, rfl⟩
            have HXR3 := Lib.hid (HXR2.out.trans q.ext)
            clear l0 l1
            go_wp2_with fail
            go_roundg (C.length - (k + 1))
            case measure => omega
            case rel => exact ⟨k + 1, by omega, by go_num, HXR3.out⟩
          have j3 : decide (y < x) = false := decide_eq_false hyx
          go_wp2_with fail
          refine wp_region_ext (by kernel_rfl) (by kernel_rfl) ?_
          repeat (go_big_quiet_step (fail))
          refine wpQuiet_nil ?_
          rintro _ ⟨q, rfl⟩
          have HXR3 := Lib.hid (HXR2.out.trans q.ext)
          have l0' : ∀ z : Ex q.w, z.w.cell? _ = some _ := fun z => l0 (Ex.mk z.w (q.ext.trans z.ext))
          have l1' : ∀ z : Ex q.w, z.w.cell? _ = some _ := fun z => l1 (Ex.mk z.w (q.ext.trans z.ext))
          have m0' : ∀ z : Ex q.w, z.w.cell? _ = some _ := fun z => m0 (Ex.mk z.w (q.ext.trans z.ext))
          have m1' : ∀ z : Ex q.w, z.w.cell? _ = some _ := fun z => m1 (Ex.mk z.w (q.ext.trans z.ext))
          clear l0 l1 m0 m1 j0 j1 j2 j3
          have hCC2 := HI.out
          by_cases hxy : x = y
          · subst hxy
            have hne : ci ≠ ck := by
              have hci := HI.out.2.2.2.1
              have hck := HK.out.2
              rw [HI.out.1] at hci hck
              rcases Nat.lt_or_gt_of_ne hik with h | h
              · have := codes_rise L i k x HI.out.2.2.1 HK.out.1 (by omega) h ci ck hci hck; omega
              · have := codes_rise L k i x HK.out.1 HI.out.2.2.1 (by omega) h ck ci hck hci; omega
            have g0 : IntKind.i64.wrap (x - x) = 0 := by rw [Int.sub_self]; rfl
            have g1 : ((ck : Int) == (ci : Int)) = false := beq_eq_false_iff_ne.2 (by omega)
            have g2 : (ck == ci) = false := beq_eq_false_iff_ne.2 (by omega)
            have g3 : (x == x) = true := by simp
            by_cases hlik : i < k
            · have hlt3 : ci < ck := by
                have hci := HI.out.2.2.2.1
                have hck := HK.out.2
                rw [HI.out.1] at hci hck
                exact codes_rise L i k x HI.out.2.2.1 HK.out.1 (by omega) hlik ci ck hci hck
              have g4 : decide (i < k) = true := decide_eq_true hlik
              have g5 : decide (ck ≤ ci) = false := decide_eq_false (by omega)
              have g6 : decide ((ck : Int) ≤ (ci : Int)) = false := decide_eq_false (by omega)
              clear hCC2
              go_wp2_with fail
              refine wp_region_ext (by kernel_rfl) (by kernel_rfl) ?_
              repeat (go_big_quiet_step (fail))
              refine wpQuiet_nil ?_
              rintro _ ⟨q2, rfl⟩
              have HXR4 := Lib.hid (HXR3.out.trans q2.ext)
              clear l0' l1' m0' m1' g0 g1 g2 g3 g4 g5 g6
              go_wp2_with fail
              go_roundg (C.length - (k + 1))
              case measure => omega
              case rel => exact ⟨k + 1, by omega, by go_num, HXR4.out⟩
            · have g4 : decide (i < k) = false := decide_eq_false hlik
              clear hCC2
              go_wp2_with fail
              refine wp_region_ext (by kernel_rfl) (by kernel_rfl) ?_
              repeat (go_big_quiet_step (fail))
              refine wpQuiet_nil ?_
              rintro _ ⟨q2, rfl⟩
              have HXR4 := Lib.hid (HXR3.out.trans q2.ext)
              clear l0' l1' m0' m1' g0 g1 g2 g3 g4
              go_wp2_with fail
              go_roundg (C.length - (k + 1))
              case measure => omega
              case rel => exact ⟨k + 1, by omega, by go_num, HXR4.out⟩
          · have hfr : ci < ck / 2 ^ (y - x).toNat := by
              have hci := HI.out.2.2.2.1
              have hck := HK.out.2
              rw [HI.out.1] at hci hck
              exact codes_free L i k x y HI.out.2.2.1 HK.out.1 (by omega) (by omega) ci ck hci hck
            obtain ⟨d, hd⟩ : ∃ d, (y - x).toNat = d := ⟨_, rfl⟩
            rw [hd] at hfr
            obtain ⟨Q, hQ⟩ : ∃ Q, ck / 2 ^ d = Q := ⟨_, rfl⟩
            rw [hQ] at hfr
            have hyd : y - x = (d : Int) := by omega
            have g0 : IntKind.i64.wrap (y - x) = (d : Int) := by rw [hyd]; exact IntWalk.i64_in _ (by omega)
            have g0' : (ck : Int) / 2 ^ d = (Q : Int) := by rw [← hQ]; push_cast; rfl
            have g1 : ((Q : Int) == (ci : Int)) = false := beq_eq_false_iff_ne.2 (by omega)
            have g2 : (Q == ci) = false := beq_eq_false_iff_ne.2 (by omega)
            have g3 : (x == y) = false := beq_eq_false_iff_ne.2 hxy
            have hd15 : d ≤ 15 := by omega
            clear hd hQ hCC2
            go_wp2_with fail
            refine wp_region_ext (by kernel_rfl) (by kernel_rfl) ?_
            repeat (go_big_quiet_step (fail))
            refine wpQuiet_nil ?_
            rintro _ ⟨q2, rfl⟩
            have HXR4 := Lib.hid (HXR3.out.trans q2.ext)
            clear l0' l1' m0' m1' g0 g0' g1 g2 g3 hyd
            go_wp2_with fail
            go_roundg (C.length - (k + 1))
            case measure => omega
            case rel => exact ⟨k + 1, by omega, by go_num, HXR4.out⟩
        · obtain rfl : k = C.length := by omega
          have HXR2 := Lib.hid hxr
          clear hxr
          go_wp2_with fail
          go_roundg (C.length - (i + 1))
          case measure => omega
          case rel => exact ⟨i + 1, by omega, by go_num, HXR2.out⟩
    · obtain rfl : i = C.length := by omega
      have HXR := Lib.hid (⟨hxr, HX.out.trans hxr⟩ : _ ∧ _)
      clear hxr
      go_wp2_with fail
      obtain ⟨x1, hx1⟩ : ∃ x1, lensX f 15 = x1 := ⟨_, rfl⟩
      obtain ⟨D, hDD⟩ : ∃ D, lensO f 15 = D := ⟨_, rfl⟩
      have hDl : D.length ≤ f.length := by rw [← hDD]; exact lensO_len f 15
      have hD1 : x1 = 0 → lensErr f 15 = false ∧ D.length = f.length := fun h => by
        have he : lensErr f 15 = false := by
          cases he : lensErr f 15
          · rfl
          · rw [h] at hx1; unfold lensX at hx1; rw [he] at hx1; simp at hx1
        refine ⟨he, ?_⟩
        rw [← hDD]; unfold lensO; rw [he]
        exact lensF_len _ _ _
      have hD2 : x1 ≠ 0 → D.length = 0 := fun h => by
        have he : lensErr f 15 = true := by
          cases he : lensErr f 15
          · exact absurd (by rw [← hx1]; unfold lensX; rw [he]; rfl) h
          · rfl
        rw [← hDD]; unfold lensO; rw [he]; rfl
      have HD := Lib.hid (⟨hx1, hDD, hD1, hD2⟩ : _ ∧ _ ∧ _ ∧ _)
      clear hx1 hDD hD1 hD2
      refine (lens_any _ f 15 wr (HF.out.ext HXR.out.2) (by omega) (by omega) (by omega)).mono ?_
      rintro e w3 ⟨v3, he, hx3, hp3⟩
      rw [HD.out.1] at he
      subst he
      have HX3 := Lib.hid (HXR.out.2.trans hx3)
      rw [HD.out.2.1] at hp3
      obtain ⟨ao4, cap4, rfl, hcD⟩ := hp3
      have HCD := Lib.hid hcD
      clear hx3 hcD
      go_wp2_with fail
      go_loopg [11, 12] f.length (fun g fv iv wr => ∃ i : Nat, g + i = f.length ∧ iv = .int .i64 i ∧ fv = .bool (allLe 20 (f.take i)) ∧ Ext [] w3 wr)
      case atStart => exact ⟨0, by omega, rfl, rfl, Ext.refl _ _⟩
      case round =>
        obtain ⟨i, hi, rfl, rfl, hxr⟩ := hrel
        have HXR3 := Lib.hid hxr
        by_cases hlt : i < f.length
        · obtain ⟨fb, fo, rfl, hfc⟩ := HCF.out (by omega)
          obtain ⟨x, hxi⟩ : ∃ x, f[i]? = some x := ⟨_, List.getElem?_eq_getElem hlt⟩
          have c0 := Ext.cell (HX3.out.trans hxr) (hfc i x hxi)
          have hs := few_snoc (f.take i) x
          rw [← ints_take f i x hxi] at hs
          have HA := Lib.hid hs
          have hi' : (i : Int) < (f.length : Int) := by omega
          clear hs hxi hfc hxr
          cases hb : allLe 20 (f.take i)
          · rw [hb] at HA
            clear hb
            go_wp2_with fail
            go_roundg (f.length - (i + 1))
            case measure => omega
            case rel => exact ⟨i + 1, by omega, by go_num, by rw [HA.out]; rfl, HXR3.out⟩
          · rw [hb] at HA
            clear hb
            go_wp2_with fail
            go_roundg (f.length - (i + 1))
            case measure => omega
            case rel => exact ⟨i + 1, by omega, by go_num, by rw [HA.out, Bool.true_and], HXR3.out⟩
        · obtain rfl : i = f.length := by omega
          rw [List.take_length]
          obtain ⟨B, hB⟩ : ∃ B, allLe 20 f = B := ⟨_, rfl⟩
          rw [hB]
          have HB := Lib.hid hB
          clear hB hxr
          go_wp2_with fail
          go_loopg [13] D.length (fun g iv wr => ∃ i : Nat, g + i = D.length ∧ iv = .int .i64 i ∧ Ext [] w3 wr)
          case atStart => exact ⟨0, by omega, rfl, HXR3.out⟩
          case round =>
            obtain ⟨i, hi, rfl, hxr⟩ := hrel
            have HXR4 := Lib.hid hxr
            have HXW := Lib.hid (HX3.out.trans hxr)
            clear hxr
            by_cases hlt : i < D.length
            · cases B
              · have hlt' : (i : Int) < (D.length : Int) := by omega
                by_cases hz1 : c1 = 0
                · subst hz1
                  by_cases hz2 : x1 = 0
                  · subst hz2
                    go_wp2_with fail
                    go_ret
                    exact ⟨rfl, HXW.out⟩
                  · have hD0 := HD.out.2.2.2 hz2
                    have hz3 : (x1 == 0) = false := beq_eq_false_iff_ne.2 hz2
                    have hz4 : ((D.length : Int) == 0) = true := by simp [hD0]
                    have hz5 : (D.length == 0) = true := by simp [hD0]
                    clear hz2 hD0
                    go_wp2_with fail
                    go_ret
                    exact ⟨rfl, HXW.out⟩
                · have hC0 := HC.out.2.2.2 hz1
                  have hy3 : (c1 == 0) = false := beq_eq_false_iff_ne.2 hz1
                  have hy4 : ((C.length : Int) == 0) = true := by simp [hC0]
                  have hy5 : (C.length == 0) = true := by simp [hC0]
                  clear hz1 hC0
                  by_cases hz2 : x1 = 0
                  · subst hz2
                    go_wp2_with fail
                    go_ret
                    exact ⟨rfl, HXW.out⟩
                  · have hD0 := HD.out.2.2.2 hz2
                    have hz3 : (x1 == 0) = false := beq_eq_false_iff_ne.2 hz2
                    have hz4 : ((D.length : Int) == 0) = true := by simp [hD0]
                    have hz5 : (D.length == 0) = true := by simp [hD0]
                    clear hz2 hD0
                    go_wp2_with fail
                    go_ret
                    exact ⟨rfl, HXW.out⟩
              · obtain rfl : x1 = 0 := by
                  refine Decidable.byContradiction fun h => ?_
                  have := HD.out.2.2.2 h
                  omega
                obtain ⟨hle, hDf⟩ := HD.out.2.2.1 rfl
                have hDf1 : f.length ≤ D.length := by omega
                clear hDf
                have hrng : ∀ c ∈ f, 0 ≤ c ∧ c ≤ 20 := fun c hc => by
                  have h1 := (lensErr_false hle).1 c hc
                  have h2 := of_decide_eq_true (List.all_eq_true.1 HB.out c hc)
                  exact ⟨h1.1, h2⟩
                have hok := small_fit f (by omega) hrng
                have hDd : D = deepN f := by
                  rw [← HD.out.2.1]; unfold lensO; rw [hle]
                  show lensF 40 15 f = deepN f
                  rw [lensF, if_pos hok]
                obtain ⟨a, hai⟩ : ∃ a, f[i]? = some a := ⟨_, List.getElem?_eq_getElem (by omega)⟩
                obtain ⟨x, hxi⟩ : ∃ x, D[i]? = some x := ⟨_, List.getElem?_eq_getElem hlt⟩
                have ha20 := hrng a (List.mem_of_getElem? hai)
                have HI := Lib.hid (⟨hDd, hrng, hok, hai, hxi⟩ : _ ∧ _ ∧ _ ∧ _ ∧ _)
                have hilt : (i : Int) < (D.length : Int) := by omega
                obtain ⟨G, hG⟩ : ∃ G, gk = G := ⟨_, rfl⟩
                subst hG
                clear hle hDd hrng hok hai hxi
                go_wp2_with fail
                clear hilt
                go_loopg [14] D.length (fun g kv wr2 => ∃ k : Nat, g + k = D.length ∧ kv = .int .i64 k ∧ Ext [] w3 wr2)
                case atStart => exact ⟨0, by omega, rfl, HXR4.out⟩
                case round =>
                  obtain ⟨k, hk, rfl, hxr⟩ := hrel
                  by_cases hltk : k < D.length
                  · have hltk' : (k : Int) < (D.length : Int) := by omega
                    have hlti' : (i : Int) < (D.length : Int) := by omega
                    have hltf : (i : Int) < (f.length : Int) := by omega
                    have hltf' : (k : Int) < (f.length : Int) := by omega
                    obtain ⟨b, hbk⟩ : ∃ b, f[k]? = some b := ⟨_, List.getElem?_eq_getElem (by omega)⟩
                    obtain ⟨y, hyk⟩ : ∃ y, D[k]? = some y := ⟨_, List.getElem?_eq_getElem hltk⟩
                    obtain ⟨fb, fo, rfl, hfc⟩ := HCF.out (by omega)
                    obtain ⟨db, dd, rfl, hdc⟩ := HCD.out (by omega)
                    have l0 : ∀ q : Ex wr, q.w.cell? _ = some _ := fun q => Ext.cell ((HX3.out.trans hxr).trans q.ext) (hfc i a HI.out.2.2.2.1)
                    have l1 : ∀ q : Ex wr, q.w.cell? _ = some _ := fun q => Ext.cell ((HX3.out.trans hxr).trans q.ext) (hfc k b hbk)
                    have m0 : ∀ q : Ex wr, q.w.cell? _ = some _ := fun q => Ext.cell (hxr.trans q.ext) (hdc i x HI.out.2.2.2.2)
                    have m1 : ∀ q : Ex wr, q.w.cell? _ = some _ := fun q => Ext.cell (hxr.trans q.ext) (hdc k y hyk)
                    have HXR5 := Lib.hid hxr
                    have HK := Lib.hid (⟨hbk, hyk⟩ : _ ∧ _)
                    clear hfc hdc hbk hyk hxr
                    by_cases hba : b < a
                    · by_cases hb0 : 0 < b
                      · have hxy : x ≤ y := by
                          have h1 := HI.out.2.2.2.2
                          have h2 := HK.out.2
                          rw [HI.out.1] at h1 h2
                          exact more_short f (fun c hc => (HI.out.2.1 c hc).1) HI.out.2.2.1 i k a b x y HI.out.2.2.2.1 HK.out.1 hba hb0 h1 h2
                        have j1 : decide (b < a) = true := decide_eq_true hba
                        have j2 : decide (0 < b) = true := decide_eq_true hb0
                        have j3 : decide (y < x) = false := decide_eq_false (by omega)
                        go_wp2_with fail
                        refine wp_region_ext (by kernel_rfl) (by kernel_rfl) ?_
                        repeat (go_big_quiet_step (fail))
                        refine wpQuiet_nil ?_
                        rintro _ ⟨q2, rfl⟩
                        have HXR6 := Lib.hid (HXR5.out.trans q2.ext)
                        clear l0 l1 m0 m1 j1 j2 j3
                        go_wp2_with fail
                        go_roundg (D.length - (k + 1))
                        case measure => omega
                        case rel => exact ⟨k + 1, by omega, by go_num, HXR6.out⟩
                      · have j1 : decide (b < a) = true := decide_eq_true hba
                        have j2 : decide (0 < b) = false := decide_eq_false hb0
                        clear m0 m1
                        go_wp2_with fail
                        refine wp_region_ext (by kernel_rfl) (by kernel_rfl) ?_
                        repeat (go_big_quiet_step (fail))
                        refine wpQuiet_nil ?_
                        rintro _ ⟨q2, rfl⟩
                        have HXR6 := Lib.hid (HXR5.out.trans q2.ext)
                        clear l0 l1 j1 j2
                        go_wp2_with fail
                        go_roundg (D.length - (k + 1))
                        case measure => omega
                        case rel => exact ⟨k + 1, by omega, by go_num, HXR6.out⟩
                    · have j1 : decide (b < a) = false := decide_eq_false hba
                      clear m0 m1
                      go_wp2_with fail
                      refine wp_region_ext (by kernel_rfl) (by kernel_rfl) ?_
                      repeat (go_big_quiet_step (fail))
                      refine wpQuiet_nil ?_
                      rintro _ ⟨q2, rfl⟩
                      have HXR6 := Lib.hid (HXR5.out.trans q2.ext)
                      clear l0 l1 j1
                      go_wp2_with fail
                      go_roundg (D.length - (k + 1))
                      case measure => omega
                      case rel => exact ⟨k + 1, by omega, by go_num, HXR6.out⟩
                  · obtain rfl : k = D.length := by omega
                    have HXR5 := Lib.hid hxr
                    clear hxr
                    go_wp2_with fail
                    go_roundg (D.length - (i + 1))
                    case measure => omega
                    case rel => exact ⟨i + 1, by omega, by go_num, HXR5.out⟩
            · obtain rfl : i = D.length := by omega
              by_cases hz1 : c1 = 0
              · subst hz1
                by_cases hz2 : x1 = 0
                · subst hz2
                  go_wp2_with fail
                  go_ret
                  exact ⟨rfl, HXW.out⟩
                · have hD0 := HD.out.2.2.2 hz2
                  have hz3 : (x1 == 0) = false := beq_eq_false_iff_ne.2 hz2
                  have hz4 : ((D.length : Int) == 0) = true := by simp [hD0]
                  have hz5 : (D.length == 0) = true := by simp [hD0]
                  clear hz2 hD0
                  go_wp2_with fail
                  go_ret
                  exact ⟨rfl, HXW.out⟩
              · have hC0 := HC.out.2.2.2 hz1
                have hy3 : (c1 == 0) = false := beq_eq_false_iff_ne.2 hz1
                have hy4 : ((C.length : Int) == 0) = true := by simp [hC0]
                have hy5 : (C.length == 0) = true := by simp [hC0]
                clear hz1 hC0
                by_cases hz2 : x1 = 0
                · subst hz2
                  go_wp2_with fail
                  go_ret
                  exact ⟨rfl, HXW.out⟩
                · have hD0 := HD.out.2.2.2 hz2
                  have hz3 : (x1 == 0) = false := beq_eq_false_iff_ne.2 hz2
                  have hz4 : ((D.length : Int) == 0) = true := by simp [hD0]
                  have hz5 : (D.length == 0) = true := by simp [hD0]
                  clear hz2 hD0
                  go_wp2_with fail
                  go_ret
                  exact ⟨rfl, HXW.out⟩
end Go.Proofs.Ytchhgbhbldfofaa.Hu
