/-
  The law InflateCuts walked.
-/
import Derived.Test.YtgjenpdppobpkaaInX
namespace Go.Proofs.Ytgjenpdppobpkaa.If
open Go.RowKit Bt Hu

set_option maxHeartbeats 4000000 in
theorem begins9 (a b : List Nat) (w : World) (h : b <+: a) :
    Calls Try.prog 14 #[.string (txt a), .string (txt b)] w fun e w' => e = .returned (.bool true) ∧ w = w' := by
  obtain ⟨u, hu⟩ := h
  have e : (txt a).extract 0 (txt b).size = txt b := by
    apply ByteArray.ext
    rw [ByteArray.data_extract]
    apply Array.ext'
    rw [Array.toList_extract, ← hu]
    simp [List.extract, txt, ByteArray.size]
  have hle : (txt b).size ≤ (txt a).size := by rw [txt_size, txt_size, ← hu, List.length_append]; omega
  generalize txt a = x at *
  generalize txt b = y at *
  have h1 : (y.size : Int) ≤ (x.size : Int) := by omega
  clear hu
  go_enter Try.func14, Try.ntmps14
  go_wp2_with fail
  go_ret
  exact ⟨by simp, rfl⟩
theorem byteAt_cut (s : ByteArray) (k i : Nat) (h : i < k) : byteAt (s.extract 0 k) i = byteAt s i := by
  unfold byteAt
  rw [ByteArray.data_extract, Array.toList_extract]
  simp only [List.extract, List.drop_zero, Nat.sub_zero, List.getD_eq_getElem?_getD]
  rw [List.getElem?_take_of_lt h]
theorem cut_of (s : ByteArray) (k B : Nat) (h : k ≤ s.size) : Cut (s.extract 0 k) s B B := by
  have hs : (s.extract 0 k).size = k := by simp; omega
  refine ⟨by omega, fun p hp => ?_, Nat.le_refl _⟩
  rw [hs] at hp
  unfold bit
  rw [byteAt_cut s k _ (by omega)]
set_option maxRecDepth 100000 in
set_option maxHeartbeats 4000000 in
theorem cuts_law (s : ByteArray) (at_ low high : Int) (w : World) (_hs : s.size ≤ maxLen) (wa : (Lit.int .i64 at_).wf = true) (wl : (Lit.int .i64 low).wf = true) (wh : (Lit.int .i64 high).wf = true) :
    Calls Try.prog 4 #[.string s, .int .i64 at_, .int .i64 low, .int .i64 high] w fun e w' => e = .returned (.bool true) ∧ Ext [] w w' := by
  obtain ⟨a0, a1⟩ := Kt.wf_i64 wa
  obtain ⟨l0, l1⟩ := Kt.wf_i64 wl
  obtain ⟨h0, h1⟩ := Kt.wf_i64 wh
  clear wa wl wh
  by_cases hlen : s.size ≤ 600
  · have hlen' : (s.size : Int) ≤ 600 := by omega
    go_enter Try.func4, Try.ntmps4
    go_wp2_with fail
    refine (lives08 w).mono ?_
    rintro e w1 ⟨rfl, hx⟩
    have HX := Lib.hid hx
    clear hx
    go_wp2_with fail
    refine (Kt.pick_any high 20000 w1 (by omega) (by omega) h0 h1).mono ?_
    rintro e w2 ⟨rfl, rfl⟩
    obtain ⟨H, hH⟩ : ∃ H : Nat, high % 20000 = H := ⟨(high % 20000).toNat, by omega⟩
    have hH2 : H < 20000 := by omega
    rw [hH]
    clear hH
    go_wp2_with fail
    refine (Kt.pick_any low ((H : Int) + 1) w1 (by omega) (by omega) l0 l1).mono ?_
    rintro e w2 ⟨rfl, rfl⟩
    have m0 := Int.emod_nonneg low (show ((H : Int) + 1) ≠ 0 by omega)
    have m1 := Int.emod_lt_of_pos low (show (0 : Int) < (H : Int) + 1 by omega)
    obtain ⟨M, hM⟩ : ∃ M : Nat, low % ((H : Int) + 1) = M := ⟨(low % ((H : Int) + 1)).toNat, by omega⟩
    rw [hM] at m0 m1 ⊢
    clear hM m0
    have hMH : M ≤ H := by omega
    have hr1 := fun w => run_walk s H w (by omega) (by omega)
    have hr2 := fun w => run_walk s M w (by omega) (by omega)
    rw [runV_parts] at hr1
    rw [runV_parts] at hr2
    have HR := Lib.hid (⟨hr1, hr2⟩ : _ ∧ _)
    clear hr1 hr2
    go_wp2_with fail
    refine (HR.out.1 w1).mono ?_
    rintro e w3 ⟨rfl, hx⟩
    have HX := Lib.hid (HX.out.trans hx)
    clear hx
    go_wp2_with fail
    refine (HR.out.2 w3).mono ?_
    rintro e w4 ⟨rfl, hx⟩
    have HX := Lib.hid (HX.out.trans hx)
    clear hx
    go_wp2_with fail
    refine (Kt.pick_any at_ ((s.size : Int) + 1) w4 (by omega) (by omega) a0 a1).mono ?_
    rintro e w5 ⟨rfl, rfl⟩
    have m0 := Int.emod_nonneg at_ (show ((s.size : Int) + 1) ≠ 0 by omega)
    have m2 := Int.emod_lt_of_pos at_ (show (0 : Int) < (s.size : Int) + 1 by omega)
    obtain ⟨k, hk⟩ : ∃ k : Nat, at_ % ((s.size : Int) + 1) = k := ⟨(at_ % ((s.size : Int) + 1)).toNat, by omega⟩
    rw [hk] at m0 m2 ⊢
    clear hk m0
    have hks : k ≤ s.size := by omega
    have hks' : (k : Int) ≤ (s.size : Int) := by omega
    have hr3 := fun w => run_walk (s.extract 0 k) H w (by simp; omega) (by omega)
    rw [runV_parts] at hr3
    have HR3 := Lib.hid hr3
    clear hr3
    go_wp2_with fail
    refine (HR3.out w4).mono ?_
    rintro e w6 ⟨rfl, hx⟩
    have HX := Lib.hid (HX.out.trans hx)
    clear hx
    have hgA := (runR_g (s := s) (B := H)).1
    have hgB := (runR_g (s := s) (B := M)).1
    have hfull := low_full (s := s) (B := M)
    have hen := e_or_n s H
    have hlow := low_same (s := s) hMH
    have hcut := cut_same (cut_of s k H hks)
    clear HR HR3
    generalize runR s H = RA at *
    generalize runR s M = RB at *
    generalize runR (s.extract 0 k) H = RC at *
    obtain ⟨A, hA⟩ : ∃ A, outOf RA = A := ⟨_, rfl⟩
    obtain ⟨Bo, hB⟩ : ∃ Bo, outOf RB = Bo := ⟨_, rfl⟩
    obtain ⟨C, hC⟩ : ∃ C, outOf RC = C := ⟨_, rfl⟩
    obtain ⟨e1, he1⟩ : ∃ e1, eOf RA = e1 := ⟨_, rfl⟩
    obtain ⟨f1, hf1⟩ : ∃ f1, eOf RB = f1 := ⟨_, rfl⟩
    obtain ⟨g1, hg1⟩ : ∃ g1, eOf RC = g1 := ⟨_, rfl⟩
    obtain ⟨n1, hn1⟩ : ∃ n1, nOf RA = n1 := ⟨_, rfl⟩
    obtain ⟨n2, hn2⟩ : ∃ n2, nOf RB = n2 := ⟨_, rfl⟩
    obtain ⟨n3, hn3⟩ : ∃ n3, nOf RC = n3 := ⟨_, rfl⟩
    rw [hA, hB, hC, he1, hf1, hg1, hn1, hn2, hn3]
    have hlow : (f1 = e1 ∧ Bo = A ∧ n2 = n1) ∨ (f1 = 3 ∧ Bo <+: A ∧ n2 = 0) := by
      rcases hlow with h | h
      · exact .inl ⟨by rw [← hf1, h, he1], by rw [← hB, h, hA], by rw [← hn2, h, hn1]⟩
      · exact .inr (by rw [← hf1, ← hB, ← hA, ← hn2]; exact h)
    have hcut : (g1 = e1 ∧ C = A ∧ n3 = n1) ∨ (g1 ≠ 0 ∧ C <+: A ∧ n3 = 0) := by
      rcases hcut with h | h
      · exact .inl ⟨by rw [← hg1, h, he1], by rw [← hC, h, hA], by rw [← hn3, h, hn1]⟩
      · exact .inr (by rw [← hg1, ← hC, ← hA, ← hn3]; exact h)
    rw [hA] at hgA
    rw [hB] at hgB hfull
    rw [hf1] at hfull
    rw [he1, hn1] at hen
    clear hA hB hC he1 hf1 hg1 hn1 hn2 hn3
    have hpb : Bo <+: A := by
      rcases hlow with h | h
      · rw [h.2.1]
        exact List.prefix_refl _
      · exact h.2.1
    have hpc : C <+: A := by
      rcases hcut with h | h
      · rw [h.2.1]
        exact List.prefix_refl _
      · exact h.2.1
    have la : ((txt A).size : Int) ≤ (H : Int) := by rw [txt_size]; omega
    have lb : ((txt Bo).size : Int) ≤ (M : Int) := by rw [txt_size]; omega
    have HP := Lib.hid (⟨fun w => begins9 A Bo w hpb, fun w => begins9 A C w hpc⟩ : _ ∧ _)
    have hfull : f1 = 3 → ((txt Bo).size : Int) = (M : Int) := fun h => by rw [txt_size, hfull h]
    have hen : e1 = 0 ∨ e1 ≠ 0 ∧ n1 = 0 := by omega
    clear hgA hgB hpb hpc
    rcases hlow with ⟨rfl, rfl, rfl⟩ | ⟨rfl, _, rfl⟩
    · rcases hen with rfl | ⟨he0, rfl⟩
      · clear hfull
        rcases hcut with ⟨rfl, rfl, rfl⟩ | ⟨hg0, _, rfl⟩
        · skip
          go_wp2_with fail
          refine (HP.out.1 w6).mono ?_
          rintro e w7 ⟨rfl, rfl⟩
          go_wp2_with fail
          refine (HP.out.2 w6).mono ?_
          rintro e w7 ⟨rfl, rfl⟩
          go_wp2_with fail
          go_ret
          exact ⟨rfl, HX.out⟩
        · have zg : (g1 == 0) = false := beq_eq_false_iff_ne.2 hg0
          have zg2 : (g1 != 0) = true := bne_iff_ne.2 hg0
          go_wp2_with fail
          refine (HP.out.1 w6).mono ?_
          rintro e w7 ⟨rfl, rfl⟩
          go_wp2_with fail
          refine (HP.out.2 w6).mono ?_
          rintro e w7 ⟨rfl, rfl⟩
          go_wp2_with fail
          go_ret
          exact ⟨rfl, HX.out⟩
      · by_cases h3 : f1 = 3
        · subst h3
          have hfl := hfull rfl
          clear hfull
          rcases hcut with ⟨rfl, rfl, rfl⟩ | ⟨hg0, _, rfl⟩
          · skip
            go_wp2_with fail
            refine (HP.out.1 w6).mono ?_
            rintro e w7 ⟨rfl, rfl⟩
            go_wp2_with fail
            refine (HP.out.2 w6).mono ?_
            rintro e w7 ⟨rfl, rfl⟩
            go_wp2_with fail
            go_ret
            exact ⟨rfl, HX.out⟩
          · have zg : (g1 == 0) = false := beq_eq_false_iff_ne.2 hg0
            have zg2 : (g1 != 0) = true := bne_iff_ne.2 hg0
            go_wp2_with fail
            refine (HP.out.1 w6).mono ?_
            rintro e w7 ⟨rfl, rfl⟩
            go_wp2_with fail
            refine (HP.out.2 w6).mono ?_
            rintro e w7 ⟨rfl, rfl⟩
            go_wp2_with fail
            go_ret
            exact ⟨rfl, HX.out⟩
        · have z3 : (f1 == 3) = false := beq_eq_false_iff_ne.2 h3
          have z4 : (f1 != 3) = true := bne_iff_ne.2 h3
          have z5 : (f1 == 0) = false := beq_eq_false_iff_ne.2 he0
          have z6 : (f1 != 0) = true := bne_iff_ne.2 he0
          clear hfull
          rcases hcut with ⟨rfl, rfl, rfl⟩ | ⟨hg0, _, rfl⟩
          · skip
            go_wp2_with fail
            refine (HP.out.1 w6).mono ?_
            rintro e w7 ⟨rfl, rfl⟩
            go_wp2_with fail
            refine (HP.out.2 w6).mono ?_
            rintro e w7 ⟨rfl, rfl⟩
            go_wp2_with fail
            go_ret
            exact ⟨rfl, HX.out⟩
          · have zg : (g1 == 0) = false := beq_eq_false_iff_ne.2 hg0
            have zg2 : (g1 != 0) = true := bne_iff_ne.2 hg0
            go_wp2_with fail
            refine (HP.out.1 w6).mono ?_
            rintro e w7 ⟨rfl, rfl⟩
            go_wp2_with fail
            refine (HP.out.2 w6).mono ?_
            rintro e w7 ⟨rfl, rfl⟩
            go_wp2_with fail
            go_ret
            exact ⟨rfl, HX.out⟩
    · have hfl := hfull rfl
      clear hfull
      rcases hen with rfl | ⟨he0, rfl⟩
      · skip
        rcases hcut with ⟨rfl, rfl, rfl⟩ | ⟨hg0, _, rfl⟩
        · skip
          go_wp2_with fail
          refine (HP.out.1 w6).mono ?_
          rintro e w7 ⟨rfl, rfl⟩
          go_wp2_with fail
          refine (HP.out.2 w6).mono ?_
          rintro e w7 ⟨rfl, rfl⟩
          go_wp2_with fail
          go_ret
          exact ⟨rfl, HX.out⟩
        · have zg : (g1 == 0) = false := beq_eq_false_iff_ne.2 hg0
          have zg2 : (g1 != 0) = true := bne_iff_ne.2 hg0
          go_wp2_with fail
          refine (HP.out.1 w6).mono ?_
          rintro e w7 ⟨rfl, rfl⟩
          go_wp2_with fail
          refine (HP.out.2 w6).mono ?_
          rintro e w7 ⟨rfl, rfl⟩
          go_wp2_with fail
          go_ret
          exact ⟨rfl, HX.out⟩
      · have z5 : (e1 == 0) = false := beq_eq_false_iff_ne.2 he0
        have z6 : (e1 != 0) = true := bne_iff_ne.2 he0
        rcases hcut with ⟨rfl, rfl, rfl⟩ | ⟨hg0, _, rfl⟩
        · skip
          go_wp2_with fail
          refine (HP.out.1 w6).mono ?_
          rintro e w7 ⟨rfl, rfl⟩
          go_wp2_with fail
          refine (HP.out.2 w6).mono ?_
          rintro e w7 ⟨rfl, rfl⟩
          go_wp2_with fail
          go_ret
          exact ⟨rfl, HX.out⟩
        · have zg : (g1 == 0) = false := beq_eq_false_iff_ne.2 hg0
          have zg2 : (g1 != 0) = true := bne_iff_ne.2 hg0
          go_wp2_with fail
          refine (HP.out.1 w6).mono ?_
          rintro e w7 ⟨rfl, rfl⟩
          go_wp2_with fail
          refine (HP.out.2 w6).mono ?_
          rintro e w7 ⟨rfl, rfl⟩
          go_wp2_with fail
          go_ret
          exact ⟨rfl, HX.out⟩
  · have hlen' : (600 : Int) < (s.size : Int) := by omega
    go_enter Try.func4, Try.ntmps4
    go_wp2_with fail
    refine (lives08 w).mono ?_
    rintro e w1 ⟨rfl, hx⟩
    go_wp2_with fail
    go_ret
    exact ⟨rfl, hx⟩
end Go.Proofs.Ytgjenpdppobpkaa.If
