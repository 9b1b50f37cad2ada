/-
  The law ZlibHeads walked.
-/
import Derived.Test.YtnapnaaejignaaaGreatZlL
namespace Go.Proofs.YtnapnaaejignaaaGreat.De
open Go.RowKit Bt Hu If Mt

theorem put2 (x y : Nat) (hx : x < 256) (hy : y < 256) (W : World) : Ext [] W (W.alloc (.cells #[.int .u8 (x : Nat), .int .u8 (y : Nat)] 5)) ∧
    ∀ A, Ext [] (W.alloc (.cells #[.int .u8 (x : Nat), .int .u8 (y : Nat)] 5)) A → (convert 28 9 (.slice (some ⟨W.heap.size, 0, none⟩) 2 2)).run Tryz.prog A = .ok (.string (txt [x, y])) A := by
  refine ⟨(Ext.refl [] W).alloc _, fun A hx => ?_⟩
  have hb := hx.keep (heap_alloc_at (w := W) (.cells #[.int .u8 (x : Nat), .int .u8 (y : Nat)] 5)) (by simp)
  have hown : A.ownsRow 0 5 1 (.slice (some ⟨W.heap.size, 0, none⟩) 2 2) 2 (([x, y].map UInt8.ofNat).map u8v) := by
    refine ⟨rfl, .inr ⟨W.heap.size, 2, _, rfl, Nat.zero_le _, hb, Nat.le_refl _, by unfold maxLen; omega, rfl, ?_⟩⟩
    simp [u8v]
    omega
  exact run_text9 hown
theorem fr_two (x y : Nat) (hx : x < 256) (hy : y < 256) (X : ByteArray) : frB (txt [x, y] ++ X) = decide (x % 16 = 8 ∧ x / 16 ≤ 7 ∧ (256 * x + y) % 31 = 0 ∧ y / 32 % 2 = 0) := by
  have hz : (txt [x, y]).size = 2 := by rw [txt_size]; rfl
  rw [fr_is, byteAt_left _ _ _ (by omega), byteAt_left _ _ _ (by omega), byteAt_txt [x, y] 0 x rfl hx, byteAt_txt [x, y] 1 y rfl hy]
  have h2 : 2 ≤ (txt [x, y] ++ X).size := by rw [ByteArray.size_append, hz]; omega
  simp only [h2, true_and]
theorem get_two (s : ByteArray) (x y : Nat) (hx : x < 256) (hy : y < 256) (hs : s.size ≤ 65535) (R : Bool) (hR : decide (x % 16 = 8 ∧ x / 16 ≤ 7 ∧ (256 * x + y) % 31 = 0 ∧ y / 32 % 2 = 0) = R) :
    getZ (txt [x, y] ++ tailB (putZ s) 2) s.size = if R then (s, 0) else ((⟨#[]⟩ : ByteArray), 4) := by
  have hz : (txt [x, y]).size = 2 := by rw [txt_size]; rfl
  have e : tailB (putZ s) 2 = bestN s ++ sumZ s := by rw [putZ_is0]; exact tail2 _ _ headZ_size
  have hn := sumZ_num s ByteArray.empty
  rw [ByteArray.append_empty] at hn
  have h4 := sumZ_size s
  rw [e, get_run _ _ _ _ hz hs (Nat.le_refl _), fr_two x y hx hy, hR, hn]
  cases R
  · rfl
  · rw [if_neg (by simp), if_neg (by omega), if_neg (by simp)]
    rfl
set_option maxRecDepth 100000 in
set_option maxHeartbeats 16000000 in
theorem heads11_law (s : ByteArray) (c d : Int) (w : World) (_hs : s.size ≤ maxLen) (wc : (Lit.int .u8 c).wf = true) (wd : (Lit.int .u8 d).wf = true) :
    Calls Tryz.prog 3 #[.string s, .int .u8 c, .int .u8 d] w fun e w' => e = .returned (.bool true) ∧ Ext [] w w' := by
  obtain ⟨b0, rfl⟩ := Kt.wf_u8 wc
  obtain ⟨b1, rfl⟩ := Kt.wf_u8 wd
  clear wc wd
  have x0l := b0.toNat_lt
  have x1l := b1.toNat_lt
  obtain ⟨x0, hx0⟩ : ∃ x0, b0.toNat = x0 := ⟨_, rfl⟩
  obtain ⟨x1, hx1⟩ : ∃ x1, b1.toNat = x1 := ⟨_, rfl⟩
  rw [hx0] at x0l ⊢
  rw [hx1] at x1l ⊢
  clear hx0 hx1 b0 b1
  by_cases hs : s.size ≤ 500
  · have hsn : ¬ (500 : Int) < (s.size : Int) := by omega
    have hps := putZ_size s
    have hbz := best_small s (by omega)
    have hpw := fun w => zput_walk s w (by omega)
    have hgt := get_two s x0 x1 x0l x1l (by omega)
    have hXs := tail_size (putZ s) 2
    have hex : (putZ s).extract 2 (putZ s).size = tailB (putZ s) 2 := rfl
    obtain ⟨P, hP⟩ : ∃ P, putZ s = P := ⟨_, rfl⟩
    obtain ⟨X, hX⟩ : ∃ X, tailB (putZ s) 2 = X := ⟨_, rfl⟩
    simp only [hX] at hgt hXs hex
    simp only [hP] at hps hpw hXs hex
    have hHs : (txt [x0, x1]).size = 2 := by rw [txt_size]; rfl
    have hp2 := fun W => put2 x0 x1 x0l x1l W
    obtain ⟨H, hH⟩ : ∃ H, txt [x0, x1] = H := ⟨_, rfl⟩
    simp only [hH] at hgt hHs hp2
    have hHX : (H ++ X).size = P.size := by rw [ByteArray.size_append, hHs]; omega
    have hgw := fun w => zget_walk (H ++ X) s.size w (by omega) (by omega)
    have hp6 : ¬ (P.size : Int) < 6 := by omega
    have hX9 : X.size ≤ 1048576 := by omega
    have hH9 : H.size ≤ 2 := by omega
    have hp2z : (2 : Int) ≤ (P.size : Int) := by omega
    have hP9 : P.size ≤ 1048576 := by omega
    have b1 := u8_and15 x0 x0l
    have b3 := u8_and32 x1 x1l
    have HPW := Lib.hid hpw
    have HGW := Lib.hid hgw
    have HGT := Lib.hid hgt
    have HP2 := Lib.hid hp2
    have HEX := Lib.hid hex
    clear hps hbz hpw hgt hXs hex hP hX hp2 hH hgw
    have HB1 := Lib.hid b1
    have HB3 := Lib.hid b3
    clear b1 b3
    by_cases k1 : x0 % 16 = 8
    · by_cases k2 : x0 / 16 ≤ 7
      · by_cases k3 : (256 * x0 + x1) % 31 = 0
        · by_cases k4 : x1 / 32 % 2 = 0
          · have b1 := HB1.out
            rw [k1] at b1
            have k2z : (x0 : Int) / 16 ≤ 7 := by omega
            have k3z : (256 * (x0 : Int) + (x1 : Int)) % 31 = 0 := by omega
            have b3 := HB3.out
            rw [k4] at b3
            have hgt := HGT.out true (decide_eq_true ⟨k1, k2, k3, k4⟩)
            rw [if_pos (by rfl)] at hgt
            have hgw := HGW.out
            simp only [hgt] at hgw
            have HG := Lib.hid hgw
            clear hgt hgw
            go_enter Tryz.func3, Tryz.ntmps3
            go_wp2_with fail
            refine (lives11 w).mono ?_
            rintro e w1 ⟨rfl, hx⟩
            have HX := Lib.hid hx
            clear hx
            go_wp2_with fail
            refine (HPW.out w1).mono ?_
            rintro e w2 ⟨rfl, hx⟩
            have HX := Lib.hid (HX.out.trans hx)
            clear hx
            go_wp2_with fail
            refine wp_region_perm (C := fun w' => ∃ x : Ex w2, w' = x.w) [0, 1, 4, 5, 7, 8] 14 (by kernel_rfl) (by kernel_rfl) ⟨Ex.mk _ ((Ext.refl _ w2).drew), rfl⟩ ?_
            simp only [pick, List.getElem?_toArray, List.getElem?_cons_succ, List.getElem?_cons_zero]
            repeat (go_big_quiet_step (fail))
            refine wpQuiet_nil ?_
            rw [HEX.out]
            have HE := Lib.hid ((Ext.refl [] w2).drew)
            refine anyC_one (f := 7) (i := 2) (by kernel_rfl) (by decide) rfl rfl (fun K hK => ?_)
            obtain ⟨hx, hct⟩ := HP2.out w2.drew
            go_wp2_with fail
            have HE := Lib.hid (HE.out.trans hx)
            have HCT := Lib.hid hct
            clear hx hct
            refine hK _ _ ⟨Ex.mk _ HE.out, rfl⟩ ?_
            clear hK K
            refine anyC_one (f := 6) (i := 3) (by kernel_rfl) (by decide) rfl rfl (fun K hK => ?_)
            have hc0 : (convert 28 9 (.slice (some ⟨w2.heap.size, 0, none⟩) 2 2)).run Tryz.prog (w2.alloc (.cells #[.int .u8 (x0 : Nat), .int .u8 (x1 : Nat)] 5)).drew = .ok (.string H) (w2.alloc (.cells #[.int .u8 (x0 : Nat), .int .u8 (x1 : Nat)] 5)).drew := HCT.out _ (Ext.refl _ _)
            go_wp2_with fail
            refine hK _ _ ⟨Ex.mk _ HE.out, rfl⟩ ?_
            clear hK K hc0
            refine anyC_one (f := 5) (i := 6) (by kernel_rfl) (by decide) rfl rfl (fun K hK => ?_)
            go_wp2_with fail
            refine hK _ _ ⟨Ex.mk _ HE.out, rfl⟩ ?_
            clear hK K
            refine anyC_one (f := 4) (i := 9) (by kernel_rfl) (by decide) rfl rfl (fun K hK => ?_)
            go_wp2_with fail
            refine (HG.out _).mono ?_
            rintro e w3 ⟨rfl, hx⟩
            have HE := Lib.hid (HE.out.trans hx)
            clear hx
            go_wp2_with fail
            refine hK _ _ ⟨Ex.mk _ HE.out, rfl⟩ ?_
            clear hK K
            refine anyC_one (f := 3) (i := 10) (by kernel_rfl) (by decide) rfl rfl (fun K hK => ?_)
            go_wp2_with fail
            refine hK _ _ ⟨Ex.mk _ HE.out, rfl⟩ ?_
            clear hK K
            refine anyC_two (f := 2) (i := 11) (j := 12) (by kernel_rfl) (by decide) (by decide) rfl rfl rfl rfl (fun K hK => ?_) (fun K hK => ?_)
            · go_wp2_with fail
              refine hK _ _ ⟨Ex.mk _ HE.out, rfl⟩ ?_
              clear hK K
              refine anyC_two (f := 1) (i := 12) (j := 13) (by kernel_rfl) (by decide) (by decide) rfl rfl rfl rfl (fun K hK => ?_) (fun K hK => ?_)
              · go_wp2_with fail
                refine hK _ _ ⟨Ex.mk _ HE.out, rfl⟩ ?_
                clear hK K
                refine anyC_one (f := 0) (i := 13) (by kernel_rfl) (by decide) rfl rfl (fun K hK => ?_)
                go_wp2_with fail
                refine hK _ _ ⟨Ex.mk _ HE.out, rfl⟩ ?_
                clear hK K
                refine ⟨by kernel_rfl, ?_⟩
                go_wp2_with fail
                refine NoPanic.normal ?_
                go_wp2_with fail
                go_ret
                exact ⟨rfl, HX.out.trans HE.out⟩
              · go_wp2_with fail
                refine hK _ _ ⟨Ex.mk _ HE.out, rfl⟩ ?_
                clear hK K
                refine anyC_one (f := 0) (i := 12) (by kernel_rfl) (by decide) rfl rfl (fun K hK => ?_)
                go_wp2_with fail
                refine hK _ _ ⟨Ex.mk _ HE.out, rfl⟩ ?_
                clear hK K
                refine ⟨by kernel_rfl, ?_⟩
                go_wp2_with fail
                refine NoPanic.normal ?_
                go_wp2_with fail
                go_ret
                exact ⟨rfl, HX.out.trans HE.out⟩
            · go_wp2_with fail
              refine hK _ _ ⟨Ex.mk _ HE.out, rfl⟩ ?_
              clear hK K
              refine anyC_one (f := 1) (i := 11) (by kernel_rfl) (by decide) rfl rfl (fun K hK => ?_)
              go_wp2_with fail
              refine hK _ _ ⟨Ex.mk _ HE.out, rfl⟩ ?_
              clear hK K
              refine anyC_one (f := 0) (i := 13) (by kernel_rfl) (by decide) rfl rfl (fun K hK => ?_)
              go_wp2_with fail
              refine hK _ _ ⟨Ex.mk _ HE.out, rfl⟩ ?_
              clear hK K
              refine ⟨by kernel_rfl, ?_⟩
              go_wp2_with fail
              refine NoPanic.normal ?_
              go_wp2_with fail
              go_ret
              exact ⟨rfl, HX.out.trans HE.out⟩
          · have b1 := HB1.out
            rw [k1] at b1
            have k2z : (x0 : Int) / 16 ≤ 7 := by omega
            have k3z : (256 * (x0 : Int) + (x1 : Int)) % 31 = 0 := by omega
            obtain ⟨u, hu⟩ : ∃ u, x1 / 32 % 2 * 32 = u := ⟨_, rfl⟩
            have b3 := HB3.out
            rw [hu] at b3
            have ul : ((u : Int) == 0) = false := beq_eq_false_iff_ne.2 (by omega)
            have ul2 : ¬ u = 0 := by omega
            have hgt := HGT.out false (decide_eq_false (fun h => k4 h.2.2.2))
            rw [if_neg (by simp)] at hgt
            have hgw := HGW.out
            simp only [hgt] at hgw
            have HG := Lib.hid hgw
            clear hgt hgw
            go_enter Tryz.func3, Tryz.ntmps3
            go_wp2_with fail
            refine (lives11 w).mono ?_
            rintro e w1 ⟨rfl, hx⟩
            have HX := Lib.hid hx
            clear hx
            go_wp2_with fail
            refine (HPW.out w1).mono ?_
            rintro e w2 ⟨rfl, hx⟩
            have HX := Lib.hid (HX.out.trans hx)
            clear hx
            go_wp2_with fail
            refine wp_region_perm (C := fun w' => ∃ x : Ex w2, w' = x.w) [0, 1, 4, 5, 7, 8] 14 (by kernel_rfl) (by kernel_rfl) ⟨Ex.mk _ ((Ext.refl _ w2).drew), rfl⟩ ?_
            simp only [pick, List.getElem?_toArray, List.getElem?_cons_succ, List.getElem?_cons_zero]
            repeat (go_big_quiet_step (fail))
            refine wpQuiet_nil ?_
            rw [HEX.out]
            have HE := Lib.hid ((Ext.refl [] w2).drew)
            refine anyC_one (f := 7) (i := 2) (by kernel_rfl) (by decide) rfl rfl (fun K hK => ?_)
            obtain ⟨hx, hct⟩ := HP2.out w2.drew
            go_wp2_with fail
            have HE := Lib.hid (HE.out.trans hx)
            have HCT := Lib.hid hct
            clear hx hct
            refine hK _ _ ⟨Ex.mk _ HE.out, rfl⟩ ?_
            clear hK K
            refine anyC_one (f := 6) (i := 3) (by kernel_rfl) (by decide) rfl rfl (fun K hK => ?_)
            have hc0 : (convert 28 9 (.slice (some ⟨w2.heap.size, 0, none⟩) 2 2)).run Tryz.prog (w2.alloc (.cells #[.int .u8 (x0 : Nat), .int .u8 (x1 : Nat)] 5)).drew = .ok (.string H) (w2.alloc (.cells #[.int .u8 (x0 : Nat), .int .u8 (x1 : Nat)] 5)).drew := HCT.out _ (Ext.refl _ _)
            go_wp2_with fail
            refine hK _ _ ⟨Ex.mk _ HE.out, rfl⟩ ?_
            clear hK K hc0
            refine anyC_one (f := 5) (i := 6) (by kernel_rfl) (by decide) rfl rfl (fun K hK => ?_)
            go_wp2_with fail
            refine hK _ _ ⟨Ex.mk _ HE.out, rfl⟩ ?_
            clear hK K
            refine anyC_one (f := 4) (i := 9) (by kernel_rfl) (by decide) rfl rfl (fun K hK => ?_)
            go_wp2_with fail
            refine (HG.out _).mono ?_
            rintro e w3 ⟨rfl, hx⟩
            have HE := Lib.hid (HE.out.trans hx)
            clear hx
            go_wp2_with fail
            refine hK _ _ ⟨Ex.mk _ HE.out, rfl⟩ ?_
            clear hK K
            refine anyC_one (f := 3) (i := 10) (by kernel_rfl) (by decide) rfl rfl (fun K hK => ?_)
            go_wp2_with fail
            refine hK _ _ ⟨Ex.mk _ HE.out, rfl⟩ ?_
            clear hK K
            refine anyC_two (f := 2) (i := 11) (j := 12) (by kernel_rfl) (by decide) (by decide) rfl rfl rfl rfl (fun K hK => ?_) (fun K hK => ?_)
            · go_wp2_with fail
              refine hK _ _ ⟨Ex.mk _ HE.out, rfl⟩ ?_
              clear hK K
              refine anyC_two (f := 1) (i := 12) (j := 13) (by kernel_rfl) (by decide) (by decide) rfl rfl rfl rfl (fun K hK => ?_) (fun K hK => ?_)
              · go_wp2_with fail
                refine hK _ _ ⟨Ex.mk _ HE.out, rfl⟩ ?_
                clear hK K
                refine anyC_one (f := 0) (i := 13) (by kernel_rfl) (by decide) rfl rfl (fun K hK => ?_)
                go_wp2_with fail
                refine hK _ _ ⟨Ex.mk _ HE.out, rfl⟩ ?_
                clear hK K
                refine ⟨by kernel_rfl, ?_⟩
                go_wp2_with fail
                refine NoPanic.normal ?_
                go_wp2_with fail
                go_ret
                exact ⟨rfl, HX.out.trans HE.out⟩
              · go_wp2_with fail
                refine hK _ _ ⟨Ex.mk _ HE.out, rfl⟩ ?_
                clear hK K
                refine anyC_one (f := 0) (i := 12) (by kernel_rfl) (by decide) rfl rfl (fun K hK => ?_)
                go_wp2_with fail
                refine hK _ _ ⟨Ex.mk _ HE.out, rfl⟩ ?_
                clear hK K
                refine ⟨by kernel_rfl, ?_⟩
                go_wp2_with fail
                refine NoPanic.normal ?_
                go_wp2_with fail
                go_ret
                exact ⟨rfl, HX.out.trans HE.out⟩
            · go_wp2_with fail
              refine hK _ _ ⟨Ex.mk _ HE.out, rfl⟩ ?_
              clear hK K
              refine anyC_one (f := 1) (i := 11) (by kernel_rfl) (by decide) rfl rfl (fun K hK => ?_)
              go_wp2_with fail
              refine hK _ _ ⟨Ex.mk _ HE.out, rfl⟩ ?_
              clear hK K
              refine anyC_one (f := 0) (i := 13) (by kernel_rfl) (by decide) rfl rfl (fun K hK => ?_)
              go_wp2_with fail
              refine hK _ _ ⟨Ex.mk _ HE.out, rfl⟩ ?_
              clear hK K
              refine ⟨by kernel_rfl, ?_⟩
              go_wp2_with fail
              refine NoPanic.normal ?_
              go_wp2_with fail
              go_ret
              exact ⟨rfl, HX.out.trans HE.out⟩
        · have b1 := HB1.out
          rw [k1] at b1
          have k2z : (x0 : Int) / 16 ≤ 7 := by omega
          have k3z : ¬ (256 * (x0 : Int) + (x1 : Int)) % 31 = 0 := by omega
          have hgt := HGT.out false (decide_eq_false (fun h => k3 h.2.2.1))
          rw [if_neg (by simp)] at hgt
          have hgw := HGW.out
          simp only [hgt] at hgw
          have HG := Lib.hid hgw
          clear hgt hgw
          go_enter Tryz.func3, Tryz.ntmps3
          go_wp2_with fail
          refine (lives11 w).mono ?_
          rintro e w1 ⟨rfl, hx⟩
          have HX := Lib.hid hx
          clear hx
          go_wp2_with fail
          refine (HPW.out w1).mono ?_
          rintro e w2 ⟨rfl, hx⟩
          have HX := Lib.hid (HX.out.trans hx)
          clear hx
          go_wp2_with fail
          refine wp_region_perm (C := fun w' => ∃ x : Ex w2, w' = x.w) [0, 1, 4, 5, 7, 8] 14 (by kernel_rfl) (by kernel_rfl) ⟨Ex.mk _ ((Ext.refl _ w2).drew), rfl⟩ ?_
          simp only [pick, List.getElem?_toArray, List.getElem?_cons_succ, List.getElem?_cons_zero]
          repeat (go_big_quiet_step (fail))
          refine wpQuiet_nil ?_
          rw [HEX.out]
          have HE := Lib.hid ((Ext.refl [] w2).drew)
          refine anyC_one (f := 7) (i := 2) (by kernel_rfl) (by decide) rfl rfl (fun K hK => ?_)
          obtain ⟨hx, hct⟩ := HP2.out w2.drew
          go_wp2_with fail
          have HE := Lib.hid (HE.out.trans hx)
          have HCT := Lib.hid hct
          clear hx hct
          refine hK _ _ ⟨Ex.mk _ HE.out, rfl⟩ ?_
          clear hK K
          refine anyC_one (f := 6) (i := 3) (by kernel_rfl) (by decide) rfl rfl (fun K hK => ?_)
          have hc0 : (convert 28 9 (.slice (some ⟨w2.heap.size, 0, none⟩) 2 2)).run Tryz.prog (w2.alloc (.cells #[.int .u8 (x0 : Nat), .int .u8 (x1 : Nat)] 5)).drew = .ok (.string H) (w2.alloc (.cells #[.int .u8 (x0 : Nat), .int .u8 (x1 : Nat)] 5)).drew := HCT.out _ (Ext.refl _ _)
          go_wp2_with fail
          refine hK _ _ ⟨Ex.mk _ HE.out, rfl⟩ ?_
          clear hK K hc0
          refine anyC_one (f := 5) (i := 6) (by kernel_rfl) (by decide) rfl rfl (fun K hK => ?_)
          go_wp2_with fail
          refine hK _ _ ⟨Ex.mk _ HE.out, rfl⟩ ?_
          clear hK K
          refine anyC_one (f := 4) (i := 9) (by kernel_rfl) (by decide) rfl rfl (fun K hK => ?_)
          go_wp2_with fail
          refine (HG.out _).mono ?_
          rintro e w3 ⟨rfl, hx⟩
          have HE := Lib.hid (HE.out.trans hx)
          clear hx
          go_wp2_with fail
          refine hK _ _ ⟨Ex.mk _ HE.out, rfl⟩ ?_
          clear hK K
          refine anyC_one (f := 3) (i := 10) (by kernel_rfl) (by decide) rfl rfl (fun K hK => ?_)
          go_wp2_with fail
          refine hK _ _ ⟨Ex.mk _ HE.out, rfl⟩ ?_
          clear hK K
          refine anyC_two (f := 2) (i := 11) (j := 12) (by kernel_rfl) (by decide) (by decide) rfl rfl rfl rfl (fun K hK => ?_) (fun K hK => ?_)
          · go_wp2_with fail
            refine hK _ _ ⟨Ex.mk _ HE.out, rfl⟩ ?_
            clear hK K
            refine anyC_two (f := 1) (i := 12) (j := 13) (by kernel_rfl) (by decide) (by decide) rfl rfl rfl rfl (fun K hK => ?_) (fun K hK => ?_)
            · go_wp2_with fail
              refine hK _ _ ⟨Ex.mk _ HE.out, rfl⟩ ?_
              clear hK K
              refine anyC_one (f := 0) (i := 13) (by kernel_rfl) (by decide) rfl rfl (fun K hK => ?_)
              go_wp2_with fail
              refine hK _ _ ⟨Ex.mk _ HE.out, rfl⟩ ?_
              clear hK K
              refine ⟨by kernel_rfl, ?_⟩
              go_wp2_with fail
              refine NoPanic.normal ?_
              go_wp2_with fail
              go_ret
              exact ⟨rfl, HX.out.trans HE.out⟩
            · go_wp2_with fail
              refine hK _ _ ⟨Ex.mk _ HE.out, rfl⟩ ?_
              clear hK K
              refine anyC_one (f := 0) (i := 12) (by kernel_rfl) (by decide) rfl rfl (fun K hK => ?_)
              go_wp2_with fail
              refine hK _ _ ⟨Ex.mk _ HE.out, rfl⟩ ?_
              clear hK K
              refine ⟨by kernel_rfl, ?_⟩
              go_wp2_with fail
              refine NoPanic.normal ?_
              go_wp2_with fail
              go_ret
              exact ⟨rfl, HX.out.trans HE.out⟩
          · go_wp2_with fail
            refine hK _ _ ⟨Ex.mk _ HE.out, rfl⟩ ?_
            clear hK K
            refine anyC_one (f := 1) (i := 11) (by kernel_rfl) (by decide) rfl rfl (fun K hK => ?_)
            go_wp2_with fail
            refine hK _ _ ⟨Ex.mk _ HE.out, rfl⟩ ?_
            clear hK K
            refine anyC_one (f := 0) (i := 13) (by kernel_rfl) (by decide) rfl rfl (fun K hK => ?_)
            go_wp2_with fail
            refine hK _ _ ⟨Ex.mk _ HE.out, rfl⟩ ?_
            clear hK K
            refine ⟨by kernel_rfl, ?_⟩
            go_wp2_with fail
            refine NoPanic.normal ?_
            go_wp2_with fail
            go_ret
            exact ⟨rfl, HX.out.trans HE.out⟩
      · have b1 := HB1.out
        rw [k1] at b1
        have k2z : ¬ (x0 : Int) / 16 ≤ 7 := by omega
        have hgt := HGT.out false (decide_eq_false (fun h => k2 h.2.1))
        rw [if_neg (by simp)] at hgt
        have hgw := HGW.out
        simp only [hgt] at hgw
        have HG := Lib.hid hgw
        clear hgt hgw
        go_enter Tryz.func3, Tryz.ntmps3
        go_wp2_with fail
        refine (lives11 w).mono ?_
        rintro e w1 ⟨rfl, hx⟩
        have HX := Lib.hid hx
        clear hx
        go_wp2_with fail
        refine (HPW.out w1).mono ?_
        rintro e w2 ⟨rfl, hx⟩
        have HX := Lib.hid (HX.out.trans hx)
        clear hx
        go_wp2_with fail
        refine wp_region_perm (C := fun w' => ∃ x : Ex w2, w' = x.w) [0, 1, 4, 5, 7, 8] 14 (by kernel_rfl) (by kernel_rfl) ⟨Ex.mk _ ((Ext.refl _ w2).drew), rfl⟩ ?_
        simp only [pick, List.getElem?_toArray, List.getElem?_cons_succ, List.getElem?_cons_zero]
        repeat (go_big_quiet_step (fail))
        refine wpQuiet_nil ?_
        rw [HEX.out]
        have HE := Lib.hid ((Ext.refl [] w2).drew)
        refine anyC_one (f := 7) (i := 2) (by kernel_rfl) (by decide) rfl rfl (fun K hK => ?_)
        obtain ⟨hx, hct⟩ := HP2.out w2.drew
        go_wp2_with fail
        have HE := Lib.hid (HE.out.trans hx)
        have HCT := Lib.hid hct
        clear hx hct
        refine hK _ _ ⟨Ex.mk _ HE.out, rfl⟩ ?_
        clear hK K
        refine anyC_one (f := 6) (i := 3) (by kernel_rfl) (by decide) rfl rfl (fun K hK => ?_)
        have hc0 : (convert 28 9 (.slice (some ⟨w2.heap.size, 0, none⟩) 2 2)).run Tryz.prog (w2.alloc (.cells #[.int .u8 (x0 : Nat), .int .u8 (x1 : Nat)] 5)).drew = .ok (.string H) (w2.alloc (.cells #[.int .u8 (x0 : Nat), .int .u8 (x1 : Nat)] 5)).drew := HCT.out _ (Ext.refl _ _)
        go_wp2_with fail
        refine hK _ _ ⟨Ex.mk _ HE.out, rfl⟩ ?_
        clear hK K hc0
        refine anyC_one (f := 5) (i := 6) (by kernel_rfl) (by decide) rfl rfl (fun K hK => ?_)
        go_wp2_with fail
        refine hK _ _ ⟨Ex.mk _ HE.out, rfl⟩ ?_
        clear hK K
        refine anyC_one (f := 4) (i := 9) (by kernel_rfl) (by decide) rfl rfl (fun K hK => ?_)
        go_wp2_with fail
        refine (HG.out _).mono ?_
        rintro e w3 ⟨rfl, hx⟩
        have HE := Lib.hid (HE.out.trans hx)
        clear hx
        go_wp2_with fail
        refine hK _ _ ⟨Ex.mk _ HE.out, rfl⟩ ?_
        clear hK K
        refine anyC_one (f := 3) (i := 10) (by kernel_rfl) (by decide) rfl rfl (fun K hK => ?_)
        go_wp2_with fail
        refine hK _ _ ⟨Ex.mk _ HE.out, rfl⟩ ?_
        clear hK K
        refine anyC_two (f := 2) (i := 11) (j := 12) (by kernel_rfl) (by decide) (by decide) rfl rfl rfl rfl (fun K hK => ?_) (fun K hK => ?_)
        · go_wp2_with fail
          refine hK _ _ ⟨Ex.mk _ HE.out, rfl⟩ ?_
          clear hK K
          refine anyC_two (f := 1) (i := 12) (j := 13) (by kernel_rfl) (by decide) (by decide) rfl rfl rfl rfl (fun K hK => ?_) (fun K hK => ?_)
          · go_wp2_with fail
            refine hK _ _ ⟨Ex.mk _ HE.out, rfl⟩ ?_
            clear hK K
            refine anyC_one (f := 0) (i := 13) (by kernel_rfl) (by decide) rfl rfl (fun K hK => ?_)
            go_wp2_with fail
            refine hK _ _ ⟨Ex.mk _ HE.out, rfl⟩ ?_
            clear hK K
            refine ⟨by kernel_rfl, ?_⟩
            go_wp2_with fail
            refine NoPanic.normal ?_
            go_wp2_with fail
            go_ret
            exact ⟨rfl, HX.out.trans HE.out⟩
          · go_wp2_with fail
            refine hK _ _ ⟨Ex.mk _ HE.out, rfl⟩ ?_
            clear hK K
            refine anyC_one (f := 0) (i := 12) (by kernel_rfl) (by decide) rfl rfl (fun K hK => ?_)
            go_wp2_with fail
            refine hK _ _ ⟨Ex.mk _ HE.out, rfl⟩ ?_
            clear hK K
            refine ⟨by kernel_rfl, ?_⟩
            go_wp2_with fail
            refine NoPanic.normal ?_
            go_wp2_with fail
            go_ret
            exact ⟨rfl, HX.out.trans HE.out⟩
        · go_wp2_with fail
          refine hK _ _ ⟨Ex.mk _ HE.out, rfl⟩ ?_
          clear hK K
          refine anyC_one (f := 1) (i := 11) (by kernel_rfl) (by decide) rfl rfl (fun K hK => ?_)
          go_wp2_with fail
          refine hK _ _ ⟨Ex.mk _ HE.out, rfl⟩ ?_
          clear hK K
          refine anyC_one (f := 0) (i := 13) (by kernel_rfl) (by decide) rfl rfl (fun K hK => ?_)
          go_wp2_with fail
          refine hK _ _ ⟨Ex.mk _ HE.out, rfl⟩ ?_
          clear hK K
          refine ⟨by kernel_rfl, ?_⟩
          go_wp2_with fail
          refine NoPanic.normal ?_
          go_wp2_with fail
          go_ret
          exact ⟨rfl, HX.out.trans HE.out⟩
    · obtain ⟨u, hu⟩ : ∃ u, x0 % 16 = u := ⟨_, rfl⟩
      have b1 := HB1.out
      rw [hu] at b1
      have ul : ((u : Int) == 8) = false := beq_eq_false_iff_ne.2 (by omega)
      have ul2 : ¬ u = 8 := by omega
      have hgt := HGT.out false (decide_eq_false (fun h => k1 h.1))
      rw [if_neg (by simp)] at hgt
      have hgw := HGW.out
      simp only [hgt] at hgw
      have HG := Lib.hid hgw
      clear hgt hgw
      go_enter Tryz.func3, Tryz.ntmps3
      go_wp2_with fail
      refine (lives11 w).mono ?_
      rintro e w1 ⟨rfl, hx⟩
      have HX := Lib.hid hx
      clear hx
      go_wp2_with fail
      refine (HPW.out w1).mono ?_
      rintro e w2 ⟨rfl, hx⟩
      have HX := Lib.hid (HX.out.trans hx)
      clear hx
      go_wp2_with fail
      refine wp_region_perm (C := fun w' => ∃ x : Ex w2, w' = x.w) [0, 1, 4, 5, 7, 8] 14 (by kernel_rfl) (by kernel_rfl) ⟨Ex.mk _ ((Ext.refl _ w2).drew), rfl⟩ ?_
      simp only [pick, List.getElem?_toArray, List.getElem?_cons_succ, List.getElem?_cons_zero]
      repeat (go_big_quiet_step (fail))
      refine wpQuiet_nil ?_
      rw [HEX.out]
      have HE := Lib.hid ((Ext.refl [] w2).drew)
      refine anyC_one (f := 7) (i := 2) (by kernel_rfl) (by decide) rfl rfl (fun K hK => ?_)
      obtain ⟨hx, hct⟩ := HP2.out w2.drew
      go_wp2_with fail
      have HE := Lib.hid (HE.out.trans hx)
      have HCT := Lib.hid hct
      clear hx hct
      refine hK _ _ ⟨Ex.mk _ HE.out, rfl⟩ ?_
      clear hK K
      refine anyC_one (f := 6) (i := 3) (by kernel_rfl) (by decide) rfl rfl (fun K hK => ?_)
      have hc0 : (convert 28 9 (.slice (some ⟨w2.heap.size, 0, none⟩) 2 2)).run Tryz.prog (w2.alloc (.cells #[.int .u8 (x0 : Nat), .int .u8 (x1 : Nat)] 5)).drew = .ok (.string H) (w2.alloc (.cells #[.int .u8 (x0 : Nat), .int .u8 (x1 : Nat)] 5)).drew := HCT.out _ (Ext.refl _ _)
      go_wp2_with fail
      refine hK _ _ ⟨Ex.mk _ HE.out, rfl⟩ ?_
      clear hK K hc0
      refine anyC_one (f := 5) (i := 6) (by kernel_rfl) (by decide) rfl rfl (fun K hK => ?_)
      go_wp2_with fail
      refine hK _ _ ⟨Ex.mk _ HE.out, rfl⟩ ?_
      clear hK K
      refine anyC_one (f := 4) (i := 9) (by kernel_rfl) (by decide) rfl rfl (fun K hK => ?_)
      go_wp2_with fail
      refine (HG.out _).mono ?_
      rintro e w3 ⟨rfl, hx⟩
      have HE := Lib.hid (HE.out.trans hx)
      clear hx
      go_wp2_with fail
      refine hK _ _ ⟨Ex.mk _ HE.out, rfl⟩ ?_
      clear hK K
      refine anyC_one (f := 3) (i := 10) (by kernel_rfl) (by decide) rfl rfl (fun K hK => ?_)
      go_wp2_with fail
      refine hK _ _ ⟨Ex.mk _ HE.out, rfl⟩ ?_
      clear hK K
      refine anyC_two (f := 2) (i := 11) (j := 12) (by kernel_rfl) (by decide) (by decide) rfl rfl rfl rfl (fun K hK => ?_) (fun K hK => ?_)
      · go_wp2_with fail
        refine hK _ _ ⟨Ex.mk _ HE.out, rfl⟩ ?_
        clear hK K
        refine anyC_two (f := 1) (i := 12) (j := 13) (by kernel_rfl) (by decide) (by decide) rfl rfl rfl rfl (fun K hK => ?_) (fun K hK => ?_)
        · go_wp2_with fail
          refine hK _ _ ⟨Ex.mk _ HE.out, rfl⟩ ?_
          clear hK K
          refine anyC_one (f := 0) (i := 13) (by kernel_rfl) (by decide) rfl rfl (fun K hK => ?_)
          go_wp2_with fail
          refine hK _ _ ⟨Ex.mk _ HE.out, rfl⟩ ?_
          clear hK K
          refine ⟨by kernel_rfl, ?_⟩
          go_wp2_with fail
          refine NoPanic.normal ?_
          go_wp2_with fail
          go_ret
          exact ⟨rfl, HX.out.trans HE.out⟩
        · go_wp2_with fail
          refine hK _ _ ⟨Ex.mk _ HE.out, rfl⟩ ?_
          clear hK K
          refine anyC_one (f := 0) (i := 12) (by kernel_rfl) (by decide) rfl rfl (fun K hK => ?_)
          go_wp2_with fail
          refine hK _ _ ⟨Ex.mk _ HE.out, rfl⟩ ?_
          clear hK K
          refine ⟨by kernel_rfl, ?_⟩
          go_wp2_with fail
          refine NoPanic.normal ?_
          go_wp2_with fail
          go_ret
          exact ⟨rfl, HX.out.trans HE.out⟩
      · go_wp2_with fail
        refine hK _ _ ⟨Ex.mk _ HE.out, rfl⟩ ?_
        clear hK K
        refine anyC_one (f := 1) (i := 11) (by kernel_rfl) (by decide) rfl rfl (fun K hK => ?_)
        go_wp2_with fail
        refine hK _ _ ⟨Ex.mk _ HE.out, rfl⟩ ?_
        clear hK K
        refine anyC_one (f := 0) (i := 13) (by kernel_rfl) (by decide) rfl rfl (fun K hK => ?_)
        go_wp2_with fail
        refine hK _ _ ⟨Ex.mk _ HE.out, rfl⟩ ?_
        clear hK K
        refine ⟨by kernel_rfl, ?_⟩
        go_wp2_with fail
        refine NoPanic.normal ?_
        go_wp2_with fail
        go_ret
        exact ⟨rfl, HX.out.trans HE.out⟩
  · have hsn : (500 : Int) < (s.size : Int) := by omega
    go_enter Tryz.func3, Tryz.ntmps3
    go_wp2_with fail
    refine (lives11 w).mono ?_
    rintro e w1 ⟨rfl, hx⟩
    have HX := Lib.hid hx
    clear hx
    go_wp2_with fail
    go_ret
    exact ⟨rfl, HX.out⟩
end Go.Proofs.YtnapnaaejignaaaGreat.De
