/-
  The law InflateBack walked.
-/
import Derived.Test.YtgjenpdppobpkaaIqB
namespace Go.Proofs.Ytgjenpdppobpkaa.If
open Go.RowKit Bt Hu

theorem SxAt.dropO {w : World} {ao : Option Addr} {n cap : Nat} {l : List Sx} (h : SxAt w (.slice ao n cap) l) (c : Nat) (hc : c ≤ l.length) (cap2 : Nat) : SxAt w (.slice (Option.map (fun x => x.add (c * 3)) ao) (l.length - c) cap2) (l.drop c) := by
  by_cases h0 : c < l.length
  · obtain ⟨ao2, cap3, he, h2⟩ := id h
    injection he with h1 _ _
    subst h1
    obtain ⟨b, off, rfl, _⟩ := h2 (by omega)
    have ad : (⟨b, off, none⟩ : Addr).add (c * 3) = ⟨b, off + c * 3, none⟩ := by unfold Addr.add; split <;> simp_all
    have := h.drop c hc cap2
    simpa only [Option.map_some, ad] using this
  · refine ⟨_, cap2, by rw [List.length_drop], fun hn => ?_⟩
    rw [List.length_drop] at hn
    omega
theorem spelt_runs (l1 l2 : List Sx) (s : ByteArray) (h1 : l1.length + l2.length ≤ 60) (hs : s.size ≤ 100) :
    (txt (allO l2 (allO l1 []))).size ≤ 20000 ∧ (txt (packB false (twoS l1 l2))).size ≤ 1000 ∧
      (∀ w, Calls Try.prog 13 #[.string (txt (packB false (twoS l1 l2)) ++ s), .int .i64 ((txt (allO l2 (allO l1 []))).size : Nat)] w fun e w' => e = .returned (.tuple #[.string (txt (allO l2 (allO l1 []))), .int .i64 ((txt (packB false (twoS l1 l2))).size : Nat), .int .i64 0]) ∧ Ext [] w w') ∧
      (∀ N, (txt (allO l2 (allO l1 []))).size = N + 1 → ∀ w, Calls Try.prog 13 #[.string (txt (packB false (twoS l1 l2)) ++ s), .int .i64 (N : Nat)] w fun e w' => e = .returned (.tuple #[.string ((txt (allO l2 (allO l1 []))).extract 0 N), .int .i64 0, .int .i64 3]) ∧ Ext [] w w') := by
  have hr := spelt_run l1 l2 s
  obtain ⟨q1, q2⟩ := twoS_facts l1 l2
  have q3 := (allO_len l1 []).2
  have q4 := (allO_len l2 (allO l1 [])).2
  rw [List.length_nil] at q3
  have hp : (txt (packB false (twoS l1 l2))).size = ((twoS l1 l2).length + 7) / 8 := by rw [txt_size, packB_length]
  generalize twoS l1 l2 = T at *
  generalize allO l2 (allO l1 []) = O at *
  have hO : O.length ≤ 20000 := by omega
  refine ⟨by rw [txt_size]; exact hO, by omega, fun w => ?_, fun N hN w => ?_⟩
  · have h := run_walk (txt (packB false T) ++ s) O.length w (by rw [ByteArray.size_append]; omega) (by omega)
    rw [runV_parts, hr] at h
    rw [txt_size O, hp]
    exact h
  · rw [txt_size] at hN
    have h := run_walk (txt (packB false T) ++ s) N w (by rw [ByteArray.size_append]; omega) (by omega)
    have hlow := low_same (s := txt (packB false T) ++ s) (low := N) (high := O.length) (by omega)
    have hfull := low_full (s := txt (packB false T) ++ s) (B := N)
    have hg := (runR_g (s := txt (packB false T) ++ s) (B := N)).1
    rw [hr] at hlow
    have hgl : (outOf (runR (txt (packB false T) ++ s) N)).length ≤ N := by have := hg; omega
    rcases hlow with hlow | ⟨e1, e2, e3⟩
    · rw [hlow] at hgl
      have hgl : O.length ≤ N := hgl
      omega
    · have e2 : outOf (runR (txt (packB false T) ++ s) N) <+: O := e2
      have e4 := hfull e1
      rw [runV_parts, e1, e3] at h
      have e5 : txt (outOf (runR (txt (packB false T) ++ s) N)) = (txt O).extract 0 N := by
        rw [List.prefix_iff_eq_take.1 e2, e4]
        apply ByteArray.ext
        rw [ByteArray.data_extract]
        apply Array.ext'
        rw [Array.toList_extract]
        simp [txt, List.extract]
      rw [e5] at h
      exact h
set_option maxRecDepth 100000 in
set_option maxHeartbeats 16000000 in
theorem back_law8 (v0 : Value) (cut : Int) (s : ByteArray) (w : World) (h0 : ∃ l, SxArg w v0 l) (wc : (Lit.int .i64 cut).wf = true) (_hs : s.size ≤ maxLen) :
    Calls Try.prog 3 #[v0, .int .i64 cut, .string s] w fun e w' => e = .returned (.bool true) ∧ Ext [] w w' := by
  obtain ⟨b0, b1⟩ := Kt.wf_i64 wc
  obtain ⟨l, hat, ⟨ao, cap, rfl, hcap, hcm, hnil⟩, hrg⟩ := h0
  clear wc
  unfold maxLen at hcm
  by_cases hg : 60 < l.length ∨ 100 < s.size
  · by_cases g1 : 60 < l.length
    · have g1' : (60 : Int) < (l.length : Int) := by omega
      go_enter Try.func3, Try.ntmps3
      go_wp2_with fail
      refine (lives08 w).mono ?_
      rintro e w1 ⟨rfl, hx⟩
      go_wp2_with fail
      go_ret
      exact ⟨rfl, hx⟩
    · have g1' : ¬ (60 : Int) < (l.length : Int) := by omega
      have g2' : (100 : Int) < (s.size : Int) := by omega
      go_enter Try.func3, Try.ntmps3
      go_wp2_with fail
      refine (lives08 w).mono ?_
      rintro e w1 ⟨rfl, hx⟩
      go_wp2_with fail
      go_ret
      exact ⟨rfl, hx⟩
  · have g1' : ¬ (60 : Int) < (l.length : Int) := by omega
    have g2' : ¬ (100 : Int) < (s.size : Int) := by omega
    have hl60 : l.length ≤ 60 := by omega
    have hs100 : s.size ≤ 100 := by omega
    have HAT := Lib.hid (⟨hat, hrg, hnil⟩ : _ ∧ _ ∧ _)
    clear hat hrg hnil hg
    go_enter Try.func3, Try.ntmps3
    go_wp2_with fail
    refine (lives08 w).mono ?_
    rintro e w1 ⟨rfl, hx⟩
    have HX := Lib.hid hx
    clear hx
    go_wp2_with fail
    refine (Kt.pick_any cut ((l.length : Int) + 1) w1 (by omega) (by omega) b0 b1).mono ?_
    rintro e w2 ⟨rfl, rfl⟩
    have m0 := Int.emod_nonneg cut (show ((l.length : Int) + 1) ≠ 0 by omega)
    have m2 := Int.emod_lt_of_pos cut (show (0 : Int) < (l.length : Int) + 1 by omega)
    obtain ⟨C, hC⟩ : ∃ C : Nat, cut % ((l.length : Int) + 1) = C := ⟨(cut % ((l.length : Int) + 1)).toNat, by omega⟩
    rw [hC] at m0 m2 ⊢
    clear hC m0 g1' g2'
    have hCl : C ≤ l.length := by omega
    have hCl' : (C : Int) ≤ (l.length : Int) := by omega
    have hCc' : (C : Int) ≤ (cap : Int) := by omega
    have hlc' : (l.length : Int) ≤ (cap : Int) := by omega
    have S0 := (Sep.start w1).new (w' := w1) (Ext.refl _ _) (oBy none 0 []) (World.ownsRow_nil _ _ _ _) (by simp [oBy, oSl, Value.ownBlock])
    have S1 := S0.new (w' := w1.alloc (.cells #[.slice none 0 0] 28)) ((Ext.refl _ _).alloc _) (oRw w1.heap.size [w1.heap.size] []) ⟨.slice none 0 0, heap_alloc_at _, World.ownsRow_nil _ _ _ _, rfl, by simp [Value.ownBlock]⟩ (fun k hk => by rw [List.mem_singleton.1 hk]; exact Nat.le_refl _)
    have HS := Lib.hid S1
    clear S0 S1
    have HA := Lib.hid (HAT.out.1.ext HX.out)
    go_wp2_with fail
    obtain ⟨W, hW⟩ : ∃ W, w1.alloc (.cells #[.slice none 0 0] 28) = W := ⟨_, rfl⟩
    obtain ⟨wb, hwb⟩ : ∃ wb, w1.heap.size = wb := ⟨_, rfl⟩
    rw [hW, hwb] at HS
    simp only [hW, hwb]
    clear hW hwb
    refine (spelt_walk _ (l.take C) 0 wb [wb] [] [] none 0 (w0 := w1) (by omega) (HA.out.take C hCl cap) (fun x hx => HAT.out.2.1 x (List.mem_of_mem_take hx)) (by rw [List.length_take]; omega) (by simp) (by simp) HS.out).mono ?_
    rintro e w2 ⟨ao2, cap2, Fw2, rfl, S⟩
    have HS := Lib.hid S
    clear S
    have hap := (allO_len (l.take C) []).2
    have hal := (allS_facts (l.take C) []).1
    have htl : (l.take C).length = C := by rw [List.length_take]; omega
    have hdl : (l.drop C).length = l.length - C := by rw [List.length_drop]
    have HB := Lib.hid (⟨by unfold blkS; simp only [List.length_append, bitsOf_length, List.length_nil]; omega, by rw [List.length_nil] at hap; omega⟩ : ([] ++ blkS 0 (l.take C) []).length ≤ 100000 ∧ (allO (l.take C) []).length ≤ 100000)
    have HLL := Lib.hid (show (l.take C).length + (l.drop C).length ≤ 60 by omega)
    clear hap hal htl hdl
    by_cases hcC : C = cap
    · have hdn : l.drop C = [] := List.drop_eq_nil_of_le (by omega)
      have hv2 : SxAt w1 (.slice ao 0 0) (l.drop C) := by rw [hdn]; exact ⟨ao, 0, rfl, fun h => absurd h (Nat.lt_irrefl 0)⟩
      have HV2 := Lib.hid hv2
      obtain rfl : C = cap := hcC
      clear hv2 hdn
      go_wp2_with fail
      refine (spelt_walk _ (l.drop C) 1 wb Fw2 ([] ++ blkS 0 (l.take C) []) (allO (l.take C) []) ao2 cap2 (w0 := w1) (by omega) HV2.out (fun x hx => HAT.out.2.1 x (List.mem_of_mem_drop hx)) (by rw [List.length_drop]; omega) HB.out.1 HB.out.2 HS.out).mono ?_
      clear HV2
      rintro e w3 ⟨ao3, cap3, Fw3, rfl, S⟩
      rw [List.nil_append, show blkS 0 (l.take C) [] ++ blkS 1 (l.drop C) (allO (l.take C) []) = twoS (l.take C) (l.drop C) from rfl] at S
      have HS := Lib.hid S
      clear S
      obtain ⟨z1, z2, r1, r2⟩ := spelt_runs (l.take C) (l.drop C) s HLL.out hs100
      have htf := twoS_facts (l.take C) (l.drop C)
      have HTF := Lib.hid (⟨htf.2, by have := HLL.out; omega⟩ : Bin (twoS (l.take C) (l.drop C)) ∧ (twoS (l.take C) (l.drop C)).length < 2 ^ 40)
      clear htf HB HLL HA
      generalize allO (l.drop C) (allO (l.take C) []) = O at *
      generalize twoS (l.take C) (l.drop C) = T at *
      have hrow : w3.ownsRow 0 5 1 (.slice ao3 O.length cap3) O.length (O.map b8) := HS.out.get 1 rfl
      have hrw : RfW w3 wb Fw3 T := HS.out.get 0 rfl
      have hct : ∀ x : Ex w3, (convert 26 9 (.slice ao3 O.length cap3)).run Try.prog x.w = .ok (.string (txt O)) x.w := fun x => run_row_text (row_keep x.ext hrow)
      have hrx : ∀ x : Ex w3, RfW x.w wb Fw3 T := fun x => (oRw wb Fw3 T).ok hrw x.ext (by simp)
      have HX := Lib.hid (HX.out.trans HS.out.ext)
      obtain ⟨TX, hTX⟩ : ∃ TX, txt O = TX := ⟨_, rfl⟩
      obtain ⟨PX, hPX⟩ : ∃ PX, txt (packB false T) = PX := ⟨_, rfl⟩
      rw [hTX] at z1 r1 r2 hct
      rw [hPX] at z2 r1 r2
      have HPX := Lib.hid hPX
      have HR := Lib.hid (⟨r1, r2⟩ : _ ∧ _)
      clear r1 r2 hrow hrw hTX hPX HS
      go_wp2_with fail
      refine wp_region_ext (by kernel_rfl) (by kernel_rfl) ?_
      repeat (go_big_quiet_step (first | (go_at_call 12; refine Calls.ext_of (rftext_lo wb Fw3 T _ HTF.out.2 HTF.out.1 (hrx _)))))
      refine wpQuiet_nil ?_
      rintro _ ⟨x, rfl⟩
      rw [HPX.out]
      obtain ⟨w4, hw4⟩ : ∃ w4, x.w = w4 := ⟨_, rfl⟩
      have hx4 := x.ext
      rw [hw4] at hx4 ⊢
      have HX := Lib.hid (HX.out.trans hx4)
      clear hct hrx hx4 hw4 x HPX
      go_wp2_with fail
      refine (HR.out.1 w4).mono ?_
      rintro e w5 ⟨rfl, hx⟩
      have HX := Lib.hid (HX.out.trans hx)
      clear hx
      by_cases hz : TX.size = 0
      · have hz' : ((TX.size : Nat) : Int) = 0 := by omega
        have hz9 : (((TX.size : Nat) : Int) == 0) = true := beq_iff_eq.2 hz'
        go_wp2_with fail
        go_ret
        exact ⟨rfl, HX.out⟩
      · obtain ⟨N, hN⟩ : ∃ N, TX.size = N + 1 := ⟨TX.size - 1, by omega⟩
        have hz9 : (((TX.size : Nat) : Int) == 0) = false := beq_eq_false_iff_ne.2 (by omega)
        have hN1 : ((TX.size : Nat) : Int) - 1 = (N : Int) := by omega
        have hN2 : (N : Int) ≤ ((TX.size : Nat) : Int) := by omega
        have HR2 := Lib.hid (HR.out.2 N hN)
        clear hz hN HR
        go_wp2_with fail
        refine (HR2.out w5).mono ?_
        rintro e w6 ⟨rfl, hx⟩
        have HX := Lib.hid (HX.out.trans hx)
        clear hx
        go_wp2_with fail
        go_ret
        exact ⟨by first | rfl | simp, HX.out⟩
    · have hv2 : SxAt w1 (.slice (Option.map (fun x => x.add (C * 3)) ao) (l.length - C) (cap - C)) (l.drop C) := HA.out.dropO C hCl _
      have HV2 := Lib.hid hv2
      have hcC' : ¬ ((C : Nat) : Int) = (cap : Int) := by omega
      clear hv2
      go_wp2_with fail
      refine (spelt_walk _ (l.drop C) 1 wb Fw2 ([] ++ blkS 0 (l.take C) []) (allO (l.take C) []) ao2 cap2 (w0 := w1) (by omega) HV2.out (fun x hx => HAT.out.2.1 x (List.mem_of_mem_drop hx)) (by rw [List.length_drop]; omega) HB.out.1 HB.out.2 HS.out).mono ?_
      clear hcC hcC' HV2
      rintro e w3 ⟨ao3, cap3, Fw3, rfl, S⟩
      rw [List.nil_append, show blkS 0 (l.take C) [] ++ blkS 1 (l.drop C) (allO (l.take C) []) = twoS (l.take C) (l.drop C) from rfl] at S
      have HS := Lib.hid S
      clear S
      obtain ⟨z1, z2, r1, r2⟩ := spelt_runs (l.take C) (l.drop C) s HLL.out hs100
      have htf := twoS_facts (l.take C) (l.drop C)
      have HTF := Lib.hid (⟨htf.2, by have := HLL.out; omega⟩ : Bin (twoS (l.take C) (l.drop C)) ∧ (twoS (l.take C) (l.drop C)).length < 2 ^ 40)
      clear htf HB HLL HA
      generalize allO (l.drop C) (allO (l.take C) []) = O at *
      generalize twoS (l.take C) (l.drop C) = T at *
      have hrow : w3.ownsRow 0 5 1 (.slice ao3 O.length cap3) O.length (O.map b8) := HS.out.get 1 rfl
      have hrw : RfW w3 wb Fw3 T := HS.out.get 0 rfl
      have hct : ∀ x : Ex w3, (convert 26 9 (.slice ao3 O.length cap3)).run Try.prog x.w = .ok (.string (txt O)) x.w := fun x => run_row_text (row_keep x.ext hrow)
      have hrx : ∀ x : Ex w3, RfW x.w wb Fw3 T := fun x => (oRw wb Fw3 T).ok hrw x.ext (by simp)
      have HX := Lib.hid (HX.out.trans HS.out.ext)
      obtain ⟨TX, hTX⟩ : ∃ TX, txt O = TX := ⟨_, rfl⟩
      obtain ⟨PX, hPX⟩ : ∃ PX, txt (packB false T) = PX := ⟨_, rfl⟩
      rw [hTX] at z1 r1 r2 hct
      rw [hPX] at z2 r1 r2
      have HPX := Lib.hid hPX
      have HR := Lib.hid (⟨r1, r2⟩ : _ ∧ _)
      clear r1 r2 hrow hrw hTX hPX HS
      go_wp2_with fail
      refine wp_region_ext (by kernel_rfl) (by kernel_rfl) ?_
      repeat (go_big_quiet_step (first | (go_at_call 12; refine Calls.ext_of (rftext_lo wb Fw3 T _ HTF.out.2 HTF.out.1 (hrx _)))))
      refine wpQuiet_nil ?_
      rintro _ ⟨x, rfl⟩
      rw [HPX.out]
      obtain ⟨w4, hw4⟩ : ∃ w4, x.w = w4 := ⟨_, rfl⟩
      have hx4 := x.ext
      rw [hw4] at hx4 ⊢
      have HX := Lib.hid (HX.out.trans hx4)
      clear hct hrx hx4 hw4 x HPX
      go_wp2_with fail
      refine (HR.out.1 w4).mono ?_
      rintro e w5 ⟨rfl, hx⟩
      have HX := Lib.hid (HX.out.trans hx)
      clear hx
      by_cases hz : TX.size = 0
      · have hz' : ((TX.size : Nat) : Int) = 0 := by omega
        have hz9 : (((TX.size : Nat) : Int) == 0) = true := beq_iff_eq.2 hz'
        go_wp2_with fail
        go_ret
        exact ⟨rfl, HX.out⟩
      · obtain ⟨N, hN⟩ : ∃ N, TX.size = N + 1 := ⟨TX.size - 1, by omega⟩
        have hz9 : (((TX.size : Nat) : Int) == 0) = false := beq_eq_false_iff_ne.2 (by omega)
        have hN1 : ((TX.size : Nat) : Int) - 1 = (N : Int) := by omega
        have hN2 : (N : Int) ≤ ((TX.size : Nat) : Int) := by omega
        have HR2 := Lib.hid (HR.out.2 N hN)
        clear hz hN HR
        go_wp2_with fail
        refine (HR2.out w5).mono ?_
        rintro e w6 ⟨rfl, hx⟩
        have HX := Lib.hid (HX.out.trans hx)
        clear hx
        go_wp2_with fail
        go_ret
        exact ⟨by first | rfl | simp, HX.out⟩
end Go.Proofs.Ytgjenpdppobpkaa.If
