/-
  zlib: Put walked; the chapter's examples.
-/
import Derived.Test.YtnapnaaejignaaaGreatZlD
import Derived.Test.YtnapnaaejignaaaGreatDgJ
namespace Go.Proofs.YtnapnaaejignaaaGreat.De
open Go.RowKit Bt Hu If Mt

theorem shortZ_le (a b : ByteArray) : (shortN a b).size ≤ a.size := by
  unfold shortN
  split <;> omega
theorem best_small (s : ByteArray) (h : s.size ≤ 65535) : (bestN s).size ≤ s.size + 5 := by
  have h1 : (storedN s).size = s.size + 5 := by
    unfold storedN
    rw [txt_size, stored_one s h, List.length_append, nB_len, B_len]
    simp only [hdS, List.length_cons, List.length_nil]
    omega
  unfold bestN
  have h2 := shortZ_le (shortN (storedN s) (fixedN s)) (dynN s)
  have h3 := shortZ_le (storedN s) (fixedN s)
  omega
/-- the four bytes in memory, and as a text -/
theorem put4 (a : Nat) (ha : a < 4294967296) (W : World) : Ext [] W (W.alloc (.cells #[.int .u8 ((a : Int) / 16777216), .int .u8 ((a : Int) / 65536 % 256), .int .u8 ((a : Int) / 256 % 256), .int .u8 ((a : Int) % 256)] 5)) ∧
    ∀ A, Ext [] (W.alloc (.cells #[.int .u8 ((a : Int) / 16777216), .int .u8 ((a : Int) / 65536 % 256), .int .u8 ((a : Int) / 256 % 256), .int .u8 ((a : Int) % 256)] 5)) A → (convert 28 9 (.slice (some ⟨W.heap.size, 0, none⟩) 4 4)).run Tryz.prog A = .ok (.string (txt (be4 a))) A := by
  refine ⟨(Ext.refl [] W).alloc _, fun A hx => ?_⟩
  have hb := hx.keep (heap_alloc_at (w := W) (.cells #[.int .u8 ((a : Int) / 16777216), .int .u8 ((a : Int) / 65536 % 256), .int .u8 ((a : Int) / 256 % 256), .int .u8 ((a : Int) % 256)] 5)) (by simp)
  have hown : A.ownsRow 0 5 1 (.slice (some ⟨W.heap.size, 0, none⟩) 4 4) 4 (((be4 a).map UInt8.ofNat).map u8v) := by
    refine ⟨rfl, .inr ⟨W.heap.size, 4, _, rfl, Nat.zero_le _, hb, Nat.le_refl _, by unfold maxLen; omega, rfl, ?_⟩⟩
    simp [be4, u8v]
    omega
  exact run_text9 hown
set_option maxRecDepth 100000 in
set_option maxHeartbeats 8000000 in
theorem zput_walk (s : ByteArray) (w : World) (hs : s.size ≤ 4096) :
    Calls Tryz.prog 9 #[.string s] w fun e w' => e = .returned (.string (putZ s)) ∧ Ext [] w w' := by
  obtain ⟨R, hR⟩ : ∃ R, putZ s = R := ⟨_, rfl⟩
  rw [hR]
  have HR := Lib.hid hR
  clear hR
  have hal := adl_lt (B s)
  obtain ⟨a, ha⟩ : ∃ a, adlN (B s) = a := ⟨_, rfl⟩
  have had := fun w => adler_walk s w hs
  have hbw := fun w => best_walk s w (by omega)
  rw [ha] at hal
  simp only [ha] at had
  have hps := best_small s (by omega)
  obtain ⟨P, hP⟩ : ∃ P, bestN s = P := ⟨_, rfl⟩
  simp only [hP] at hbw hps
  have HA := Lib.hid (⟨had, hbw, ha, hP⟩ : _ ∧ _ ∧ _ ∧ _)
  have hcat : ((⟨#[120, 156]⟩ : ByteArray) ++ P).size = 2 + P.size := by rw [ByteArray.size_append]; rfl
  clear had hbw ha hP
  go_enter Tryz.func9, Tryz.ntmps9
  go_wp2_with fail
  refine (HA.out.1 w).mono ?_
  rintro e w1 ⟨rfl, hx⟩
  have HX := Lib.hid hx
  clear hx
  go_wp2_with fail
  refine wp_region_perm (C := fun w' => ∃ x : Ex w1, w' = x.w) [0, 3, 4, 5, 6, 7, 8, 9, 10, 11, 12, 13] 16 (by kernel_rfl) (by kernel_rfl) ⟨Ex.mk _ ((Ext.refl _ w1).drew), rfl⟩ ?_
  simp only [pick, List.getElem?_toArray, List.getElem?_cons_succ, List.getElem?_cons_zero]
  repeat (go_big_quiet_step (first | (go_at_call 17; refine Calls.ext_of (HA.out.2.1 _))))
  refine wpQuiet_nil ?_
  have hz4 : (txt (be4 a)).size = 4 := by rw [txt_size]; rfl
  have hcat2 : (((⟨#[120, 156]⟩ : ByteArray) ++ P) ++ txt (be4 a)).size = 6 + P.size := by rw [ByteArray.size_append, hcat, hz4]; omega
  have HE := Lib.hid ((Ext.refl [] w1).drew)
  have HFIN := Lib.hid (show (⟨#[120, 156]⟩ : ByteArray) ++ P ++ txt (be4 a) = R by rw [← HR.out]; unfold putZ; rw [HA.out.2.2.1, HA.out.2.2.2]; rfl)
  refine anyC_two (f := 3) (i := 1) (j := 14) (by kernel_rfl) (by decide) (by decide) rfl rfl rfl rfl (fun K hK => ?_) (fun K hK => ?_)
  · go_wp2_with fail
    refine (HA.out.2.1 _).mono ?_
    rintro e v1 ⟨rfl, hx⟩
    have HE := Lib.hid (HE.out.trans hx)
    clear hx
    go_wp2_with fail
    refine hK _ _ ⟨Ex.mk _ HE.out, rfl⟩ ?_
    clear hK K
    refine anyC_two (f := 2) (i := 2) (j := 14) (by kernel_rfl) (by decide) (by decide) rfl rfl rfl rfl (fun K hK => ?_) (fun K hK => ?_)
    · go_wp2_with fail
      refine hK _ _ ⟨Ex.mk _ HE.out, rfl⟩ ?_
      clear hK K
      refine anyC_one (f := 1) (i := 14) (by kernel_rfl) (by decide) rfl rfl (fun K hK => ?_)
      go_wp2_with fail
      obtain ⟨hx, hct⟩ := put4 a hal v1
      have HE := Lib.hid (HE.out.trans hx)
      have HCT := Lib.hid hct
      clear hx hct
      refine hK _ _ ⟨Ex.mk _ HE.out, rfl⟩ ?_
      clear hK K
      refine anyC_one (f := 0) (i := 15) (by kernel_rfl) (by decide) rfl rfl (fun K hK => ?_)
      have hc0 := HCT.out _ (Ext.refl _ _)
      go_wp2_with fail
      refine hK _ _ ⟨Ex.mk _ HE.out, rfl⟩ ?_
      clear hK K hc0
      refine ⟨by kernel_rfl, ?_⟩
      go_wp2_with fail
      refine NoPanic.normal ?_
      go_wp2_with fail
      go_ret
      exact ⟨by simp [← HFIN.out, ByteArray.append_assoc], HX.out.trans HE.out⟩
    · go_wp2_with fail
      obtain ⟨hx, hct⟩ := put4 a hal v1
      have HE := Lib.hid (HE.out.trans hx)
      have HCT := Lib.hid hct
      clear hx hct
      refine hK _ _ ⟨Ex.mk _ HE.out, rfl⟩ ?_
      clear hK K
      refine anyC_two (f := 1) (i := 2) (j := 15) (by kernel_rfl) (by decide) (by decide) rfl rfl rfl rfl (fun K hK => ?_) (fun K hK => ?_)
      · go_wp2_with fail
        refine hK _ _ ⟨Ex.mk _ HE.out, rfl⟩ ?_
        clear hK K
        refine anyC_one (f := 0) (i := 15) (by kernel_rfl) (by decide) rfl rfl (fun K hK => ?_)
        have hc0 := HCT.out _ (Ext.refl _ _)
        go_wp2_with fail
        refine hK _ _ ⟨Ex.mk _ HE.out, rfl⟩ ?_
        clear hK K hc0
        refine ⟨by kernel_rfl, ?_⟩
        go_wp2_with fail
        refine NoPanic.normal ?_
        go_wp2_with fail
        go_ret
        exact ⟨by simp [← HFIN.out, ByteArray.append_assoc], HX.out.trans HE.out⟩
      · have hc0 := HCT.out _ (Ext.refl _ _)
        go_wp2_with fail
        refine hK _ _ ⟨Ex.mk _ HE.out, rfl⟩ ?_
        clear hK K hc0
        refine anyC_one (f := 0) (i := 2) (by kernel_rfl) (by decide) rfl rfl (fun K hK => ?_)
        go_wp2_with fail
        refine hK _ _ ⟨Ex.mk _ HE.out, rfl⟩ ?_
        clear hK K
        refine ⟨by kernel_rfl, ?_⟩
        go_wp2_with fail
        refine NoPanic.normal ?_
        go_wp2_with fail
        go_ret
        exact ⟨by simp [← HFIN.out, ByteArray.append_assoc], HX.out.trans HE.out⟩
  · go_wp2_with fail
    obtain ⟨hx, hct⟩ := put4 a hal w1.drew
    replace hct : ∀ A, Ext [] _ A → (convert 28 9 (.slice (some ⟨w1.heap.size, 0, none⟩) 4 4)).run Tryz.prog A = .ok (.string (txt (be4 a))) A := hct
    have HE := Lib.hid (HE.out.trans hx)
    have HCT := Lib.hid hct
    clear hx hct
    refine hK _ _ ⟨Ex.mk _ HE.out, rfl⟩ ?_
    clear hK K
    refine anyC_two (f := 2) (i := 1) (j := 15) (by kernel_rfl) (by decide) (by decide) rfl rfl rfl rfl (fun K hK => ?_) (fun K hK => ?_)
    · go_wp2_with fail
      refine (HA.out.2.1 _).mono ?_
      rintro e v1 ⟨rfl, hx⟩
      have HE := Lib.hid (HE.out.trans hx)
      have HCT := Lib.hid (fun A (h : Ext [] v1 A) => HCT.out A (hx.trans h))
      clear hx
      go_wp2_with fail
      refine hK _ _ ⟨Ex.mk _ HE.out, rfl⟩ ?_
      clear hK K
      refine anyC_two (f := 1) (i := 2) (j := 15) (by kernel_rfl) (by decide) (by decide) rfl rfl rfl rfl (fun K hK => ?_) (fun K hK => ?_)
      · go_wp2_with fail
        refine hK _ _ ⟨Ex.mk _ HE.out, rfl⟩ ?_
        clear hK K
        refine anyC_one (f := 0) (i := 15) (by kernel_rfl) (by decide) rfl rfl (fun K hK => ?_)
        have hc0 := HCT.out _ (Ext.refl _ _)
        go_wp2_with fail
        refine hK _ _ ⟨Ex.mk _ HE.out, rfl⟩ ?_
        clear hK K hc0
        refine ⟨by kernel_rfl, ?_⟩
        go_wp2_with fail
        refine NoPanic.normal ?_
        go_wp2_with fail
        go_ret
        exact ⟨by simp [← HFIN.out, ByteArray.append_assoc], HX.out.trans HE.out⟩
      · have hc0 := HCT.out _ (Ext.refl _ _)
        go_wp2_with fail
        refine hK _ _ ⟨Ex.mk _ HE.out, rfl⟩ ?_
        clear hK K hc0
        refine anyC_one (f := 0) (i := 2) (by kernel_rfl) (by decide) rfl rfl (fun K hK => ?_)
        go_wp2_with fail
        refine hK _ _ ⟨Ex.mk _ HE.out, rfl⟩ ?_
        clear hK K
        refine ⟨by kernel_rfl, ?_⟩
        go_wp2_with fail
        refine NoPanic.normal ?_
        go_wp2_with fail
        go_ret
        exact ⟨by simp [← HFIN.out, ByteArray.append_assoc], HX.out.trans HE.out⟩
    · have hc0 : (convert 28 9 (.slice (some ⟨w1.heap.size, 0, none⟩) 4 4)).run Tryz.prog (w1.alloc (.cells #[.int .u8 ((a : Int) / 16777216), .int .u8 ((a : Int) / 65536 % 256), .int .u8 ((a : Int) / 256 % 256), .int .u8 ((a : Int) % 256)] 5)).drew = .ok (.string (txt (be4 a))) (w1.alloc (.cells #[.int .u8 ((a : Int) / 16777216), .int .u8 ((a : Int) / 65536 % 256), .int .u8 ((a : Int) / 256 % 256), .int .u8 ((a : Int) % 256)] 5)).drew := HCT.out _ (Ext.refl _ _)
      go_wp2_with fail
      refine hK _ _ ⟨Ex.mk _ HE.out, rfl⟩ ?_
      clear hK K hc0
      refine anyC_one (f := 1) (i := 1) (by kernel_rfl) (by decide) rfl rfl (fun K hK => ?_)
      go_wp2_with fail
      refine (HA.out.2.1 _).mono ?_
      rintro e v1 ⟨rfl, hx⟩
      have HE := Lib.hid (HE.out.trans hx)
      have HCT := Lib.hid (fun A (h : Ext [] v1 A) => HCT.out A (hx.trans h))
      clear hx
      go_wp2_with fail
      refine hK _ _ ⟨Ex.mk _ HE.out, rfl⟩ ?_
      clear hK K
      refine anyC_one (f := 0) (i := 2) (by kernel_rfl) (by decide) rfl rfl (fun K hK => ?_)
      go_wp2_with fail
      refine hK _ _ ⟨Ex.mk _ HE.out, rfl⟩ ?_
      clear hK K
      refine ⟨by kernel_rfl, ?_⟩
      go_wp2_with fail
      refine NoPanic.normal ?_
      go_wp2_with fail
      go_ret
      exact ⟨by simp [← HFIN.out, ByteArray.append_assoc], HX.out.trans HE.out⟩
end Go.Proofs.YtnapnaaejignaaaGreat.De
