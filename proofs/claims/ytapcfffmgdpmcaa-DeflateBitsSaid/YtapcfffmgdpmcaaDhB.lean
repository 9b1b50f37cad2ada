/-
  The law DeflateBits walked.
-/
import Derived.Test.YtapcfffmgdpmcaaDhA
import Derived.Test.YtapcfffmgdpmcaaDgJ
import Derived.Test.YtapcfffmgdpmcaaPkR
namespace Go.Proofs.Ytapcfffmgdpmcaa.De
open Go.RowKit Bt Hu If Mt

theorem short_le (a b : ByteArray) : (shortN a b).size ≤ a.size ∧ (shortN a b).size ≤ b.size := by
  unfold shortN
  split <;> omega
theorem best_le (s : ByteArray) : (bestN s).size ≤ (storedN s).size ∧ (bestN s).size ≤ (fixedN s).size ∧ (bestN s).size ≤ (dynN s).size := by
  unfold bestN
  have h1 := short_le (shortN (storedN s) (fixedN s)) (dynN s)
  have h2 := short_le (storedN s) (fixedN s)
  omega
theorem fixL_rg : ∀ i, 0 ≤ fixL.getD i 0 ∧ fixL.getD i 0 ≤ 9 := by
  have h : ∀ x ∈ fixL, 0 ≤ x ∧ x ≤ 9 := by decide +kernel
  intro i
  rw [List.getD_eq_getElem?_getD]
  cases hi : fixL[i]? with
  | none => decide
  | some x => exact h x (List.mem_of_getElem? hi)
theorem fixD_rg : ∀ i, 0 ≤ fixD.getD i 0 ∧ fixD.getD i 0 ≤ 5 := by
  have h : ∀ x ∈ fixD, 0 ≤ x ∧ x ≤ 5 := by decide +kernel
  intro i
  rw [List.getD_eq_getElem?_getD]
  cases hi : fixD[i]? with
  | none => decide
  | some x => exact h x (List.mem_of_getElem? hi)
theorem fixL_256 : fixL.getD 256 0 = 7 ∧ fixL.length = 288 ∧ fixD.length = 30 := by decide +kernel
set_option maxRecDepth 100000 in
set_option maxHeartbeats 16000000 in
theorem bits10_law (s : ByteArray) (w : World) (_hm : s.size ≤ maxLen) :
    Calls Try.prog 6 #[.string s] w fun e w' => e = .returned (.bool true) ∧ Ext [] w w' := by
  by_cases hs : s.size ≤ 500
  · have hal := allN_len s
    obtain ⟨l, hL⟩ : ∃ l, allN s = l := ⟨_, rfl⟩
    have hbad : badN l = false := by rw [← hL]; exact (chk_zero (allN_chk s)).1
    have hrw := fun w => rAll_walk s w (by omega)
    have hfx := fun w => fixedD_walk s w (by omega)
    have hbs := fun w => best_walk s w (by omega)
    have hle := (best_le s).2.1
    have hfs := fixedN_size s
    have hfb : (fixedB s).length + 7 = 10 + (pcsB fixL fixD l).length := by
      rw [← hL]
      unfold fixedB
      simp only [List.length_append, bitsOf_length]
      omega
    have hup : (pcsB fixL fixD l).length ≤ 48 * l.length + 15 := pcsB_len fixL_15 fixD_15 l hbad
    rw [hL] at hal hrw
    obtain ⟨FB, hFB⟩ : ∃ FB, (fixedB s).length = FB := ⟨_, rfl⟩
    obtain ⟨FN, hFN⟩ : ∃ FN, fixedN s = FN := ⟨_, rfl⟩
    obtain ⟨BN, hBN⟩ : ∃ BN, bestN s = BN := ⟨_, rfl⟩
    rw [hFB] at hfs hfb
    rw [hFN] at hfs hle
    rw [hBN] at hle
    simp only [hFN] at hfx
    simp only [hBN] at hbs
    have HW := Lib.hid (⟨hrw, hfx, hbs⟩ : _ ∧ _ ∧ _)
    have HZ := Lib.hid (⟨hfs, hle, hfb, hup, hbad⟩ : _ ∧ _ ∧ _ ∧ _ ∧ _)
    clear hL hrw hfx hbs hfs hle hfb hup hbad hFB hFN hBN
    obtain ⟨z1, z2, z3⟩ := fixL_256
    have HX3 := Lib.hid (⟨z1, z2, z3⟩ : _ ∧ _ ∧ _)
    clear z1 z2 z3
    go_enter Try.func6, Try.ntmps6
    go_wp2_with fail
    refine (lives10 w).mono ?_
    rintro e w1 ⟨rfl, hx⟩
    have HX := Lib.hid hx
    clear hx
    go_wp2_with fail
    refine (HW.out.1 w1).mono ?_
    rintro e w2 ⟨v, rfl, hx, hP⟩
    have HX := Lib.hid (HX.out.trans hx)
    obtain ⟨ao, cap, rfl, hc⟩ := hP
    have HP := Lib.hid hc
    clear hx hc
    go_wp2_with fail
    refine (dfixed_walk w2).mono ?_
    rintro e w3 ⟨a1, k1, a2, k2, rfl, hx, o1, o2, _, _⟩
    have HX := Lib.hid (HX.out.trans hx)
    have hc3 : 0 < l.length → ∃ b off, ao = some ⟨b, off, none⟩ ∧ ∀ i x, l[i]? = some x → w3.cell? ⟨b, off + i * 3, none⟩ = some (u8v x.1) ∧ w3.cell? ⟨b, off + i * 3 + 1, none⟩ = some (.int .i64 x.2.1) ∧ w3.cell? ⟨b, off + i * 3 + 2, none⟩ = some (.int .i64 x.2.2) := fun h => by
      obtain ⟨b, off, e, h⟩ := HP.out h
      refine ⟨b, off, e, fun i x hi => ?_⟩
      obtain ⟨y0, y1, y2⟩ := h i x hi
      exact ⟨Ext.cell hx y0, Ext.cell hx y1, Ext.cell hx y2⟩
    clear HP
    obtain ⟨q1, c1, hq1⟩ := own_at o1 (by rw [HX3.out.2.1]; decide)
    injection hq1 with e1 _ e3
    subst e1 e3
    obtain ⟨q2, c2, hq2⟩ := own_at o2 (by rw [HX3.out.2.2]; decide)
    injection hq2 with e1 _ e3
    subst e1 e3
    have O1 : (oIs q1 k1 fixL).P w3 := o1
    have O2 : (oIs q2 k2 fixD).P w3 := o2
    have hIA := IntsAt.of_own o1
    have hr1 : ∀ k, k < 288 → w3.cell? ⟨q1, k, none⟩ = some (.int .i64 (fixL.getD k 0)) := fun k hk => row_at O1 (by rw [HX3.out.2.1]; exact hk)
    have hr2 : ∀ k, k < 30 → w3.cell? ⟨q2, k, none⟩ = some (.int .i64 (fixD.getD k 0)) := fun k hk => row_at O2 (by rw [HX3.out.2.2]; exact hk)
    have c256 := hr1 256 (by omega)
    rw [HX3.out.1] at c256
    have HO := Lib.hid (⟨hr1, hr2, hc3, hIA⟩ : _ ∧ _ ∧ _ ∧ _)
    clear hx o1 o2 O1 O2 hr1 hr2 hc3 hIA
    rw [HX3.out.2.1, HX3.out.2.2]
    go_wp2_with fail
    clear c256
    go_loopg [6, 7] l.length (fun g nv iv wr => ∃ (q m : Nat), g + q = l.length ∧ iv = .int .i64 q ∧ nv = .int .i64 m ∧ m + (pcsB fixL fixD (l.drop q)).length = 10 + (pcsB fixL fixD l).length ∧ Ext [] w3 wr)
    case atStart => exact ⟨0, 10, by omega, rfl, rfl, by rw [List.drop_zero], Ext.refl _ _⟩
    case round =>
      obtain ⟨q, m, hgk, rfl, rfl, hm, hx⟩ := hrel
      have hmb : m ≤ 100000 := by have := HZ.out.2.2.2.1; omega
      have HE := Lib.hid hx
      clear hx
      by_cases hlt : q < l.length
      · obtain ⟨g, rfl⟩ : ∃ g, gk = g + 1 := ⟨gk - 1, by omega⟩
        obtain ⟨b, off, rfl, hcell⟩ := HO.out.2.2.1 (by omega)
        obtain ⟨x, hx⟩ : ∃ x, l[q]? = some x := ⟨_, List.getElem?_eq_getElem hlt⟩
        have hm1 : mayP x = true := by
          have h := HZ.out.2.2.2.2
          unfold badN at h
          rw [List.any_eq_false] at h
          simpa using h x (List.mem_of_getElem? hx)
        have hmx := mayP_iff x hm1
        clear hm1
        rw [drop_at hx, pcsB, List.length_append] at hm
        obtain ⟨p0, p1, p2⟩ := hcell q x hx
        have d0 := Ext.cell HE.out p0
        have d1 := Ext.cell HE.out p1
        have d2 := Ext.cell HE.out p2
        clear p0 p1 p2
        have HM := Lib.hid (⟨hm, hmx⟩ : _ ∧ _)
        clear hcell hx hm hmx
        obtain ⟨xb, xn, xk⟩ := x
        simp only at d0 d1 d2 HM
        have hql : (q : Int) < (l.length : Int) := by omega
        by_cases hx0 : xn = 0
        · subst hx0
          have hm := HM.out.1
          rw [show pcB fixL fixD (xb, 0, xk) = cbD fixL xb.toNat from rfl, cbD_len] at hm
          have hx8 := xb.toNat_lt
          have c0 := Ext.cell HE.out (HO.out.1 xb.toNat (by omega))
          have hrg := fixL_rg xb.toNat
          obtain ⟨y, hy⟩ : ∃ y : Nat, fixL.getD xb.toNat 0 = y := ⟨(fixL.getD xb.toNat 0).toNat, by omega⟩
          rw [hy] at c0 hm hrg
          rw [Int.toNat_natCast] at hm
          have HM2 := Lib.hid hm
          clear hm hy HM
          obtain ⟨xx, hxx⟩ : ∃ xx, xb.toNat = xx := ⟨_, rfl⟩
          rw [show (u8v xb : Value) = .int .u8 ((xb.toNat : Nat) : Int) from rfl] at d0
          rw [hxx] at d0 c0 hx8
          clear hxx
          go_wp2_with fail
          go_roundg g
          case measure => omega
          case rel => exact ⟨q + 1, m + y, by omega, by go_num, by go_num, by have := HM2.out; omega, HE.out⟩
        · have hmx := HM.out.2
          obtain ⟨n, rfl⟩ : ∃ n : Nat, xn = n := ⟨xn.toNat, by omega⟩
          obtain ⟨bk, rfl⟩ : ∃ bk : Nat, xk = bk := ⟨xk.toNat, by omega⟩
          have hn1 : 3 ≤ n := by omega
          have hn2 : n ≤ 258 := by omega
          have hk1 : 1 ≤ bk := by omega
          have hk2 : bk ≤ 32768 := by omega
          have hm := HM.out.1
          rw [show pcB fixL fixD (xb, (n : Int), (bk : Int)) = pcM fixL fixD n bk by unfold pcB; rw [if_neg (by show ¬ (n : Int) = 0; omega)]; rfl] at hm
          unfold pcM at hm
          simp only [List.length_append, cbD_len, bitsOf_length] at hm
          obtain ⟨f1, f2, f3, f4, f5⟩ := ls_facts n hn1 hn2
          obtain ⟨b1, b2, b3, b4⟩ := ds_facts bk hk1 hk2
          have HW1 := Lib.hid (fun w => (by have := dlenof_walk (n : Int) w; rw [show lenOfZ (n : Int) = (lsN n : Nat) by unfold lenOfZ lsN; rw [if_neg (by omega), Int.toNat_natCast]] at this; exact this : Calls Try.prog 15 #[.int .i64 (n : Int)] w fun e w' => e = .returned (.int .i64 (lsN n : Nat)) ∧ w = w'))
          have HW2 := Lib.hid (fun w => (by have := ddstof_walk (bk : Int) w; rw [show dstOfZ (bk : Int) = (dsN bk : Nat) by unfold dstOfZ dsN; rw [if_neg (by omega), Int.toNat_natCast]] at this; exact this : Calls Try.prog 16 #[.int .i64 (bk : Int)] w fun e w' => e = .returned (.int .i64 (dsN bk : Nat)) ∧ w = w'))
          have HW3 := Lib.hid (fun w => (by have := dlength_walk (lsN n : Nat) w; rw [(lenBZ_at _ f1 f2).1, (lenBZ_at _ f1 f2).2] at this; exact this : Calls Try.prog 17 #[.int .i64 (lsN n : Nat)] w fun e w' => e = .returned (.tuple #[.int .i64 (lenB (lsN n)), .int .i64 (lenX (lsN n))]) ∧ w = w'))
          have HW4 := Lib.hid (fun w => (by have := ddistance_walk (dsN bk : Nat) w; rw [(dstBZ_at _ b1).1, (dstBZ_at _ b1).2] at this; exact this : Calls Try.prog 18 #[.int .i64 (dsN bk : Nat)] w fun e w' => e = .returned (.tuple #[.int .i64 (dstB (dsN bk)), .int .i64 (dstX (dsN bk))]) ∧ w = w'))
          have hX5 : lenX (lsN n) ≤ 5 := f5
          have hX13 := dstX_13 (dsN bk) b1
          have g1 := HO.out.1 (lsN n) (by omega)
          have g2 := HO.out.2.1 (dsN bk) (by omega)
          have r1 := fixL_rg (lsN n)
          have r2 := fixD_rg (dsN bk)
          obtain ⟨y1, hy1⟩ : ∃ y : Nat, fixL.getD (lsN n) 0 = y := ⟨(fixL.getD (lsN n) 0).toNat, by omega⟩
          obtain ⟨y2, hy2⟩ : ∃ y : Nat, fixD.getD (dsN bk) 0 = y := ⟨(fixD.getD (dsN bk) 0).toNat, by omega⟩
          rw [hy1] at g1 hm r1
          rw [hy2] at g2 hm r2
          rw [Int.toNat_natCast, Int.toNat_natCast] at hm
          have HM2 := Lib.hid hm
          clear HM
          have hls : lsN n < 288 := by omega
          have hds : dsN bk < 30 := by omega
          have hlsl : lsN n < fixL.length := by rw [HX3.out.2.1]; exact hls
          have hdsl : dsN bk < fixD.length := by rw [HX3.out.2.2]; exact hds
          clear hm hy1 hy2 f1 f2 f3 f4 f5 b1 b2 b3 b4 hmx d0
          generalize lenX (lsN n) = ex at *
          generalize dstX (dsN bk) = dx at *
          generalize lenB (lsN n) = eb at *
          generalize dstB (dsN bk) = db at *
          generalize lsN n = ls at *
          generalize dsN bk = ds at *
          have e1 : ∀ y : Ex wr, y.w.cell? ⟨b, off + q * 3 + 1, none⟩ = some (.int .i64 (n : Int)) := fun y => y.cell d1
          have e2 : ∀ y : Ex wr, y.w.cell? ⟨b, off + q * 3 + 2, none⟩ = some (.int .i64 (bk : Int)) := fun y => y.cell d2
          have hn0 : ((n : Int) == 0) = false := beq_eq_false_iff_ne.2 hx0
          go_wp2_with fail
          refine wp_region_quiet_tail (C := fun w' => ∃ x : Ex wr, w' = x.w) 12 (by kernel_rfl) (by kernel_rfl) ⟨Ex.mk _ ((Ext.refl [] wr).drew), rfl⟩ ?_
          simp only [List.take_succ_cons, List.take_zero, List.drop_succ_cons, List.drop_zero]
          repeat (go_big_quiet_step (first | (go_at_call 15; refine Calls.ext_of ((HW1.out _).mono fun _ _ ⟨he, hw⟩ => ⟨he, hw ▸ Ext.refl _ _⟩)) | (go_at_call 16; refine Calls.ext_of ((HW2.out _).mono fun _ _ ⟨he, hw⟩ => ⟨he, hw ▸ Ext.refl _ _⟩))))
          refine wpQuiet_nil ?_
          rintro _ ⟨y, rfl⟩
          obtain ⟨w5, hw5⟩ : ∃ w5, y.w = w5 := ⟨_, rfl⟩
          have hx5 := HE.out.trans y.ext
          rw [hw5] at hx5
          rw [hw5]
          have HE := Lib.hid hx5
          clear hx5 hw5 e1 e2 d1 d2
          go_wp2_with fail
          refine (HW3.out w5).mono ?_
          rintro e w6 ⟨rfl, rfl⟩
          go_wp2_with fail
          refine (HW4.out w5).mono ?_
          rintro e w6 ⟨rfl, rfl⟩
          have e3 : ∀ y : Ex w5, y.w.cell? ⟨q1, ls, none⟩ = some (.int .i64 (y1 : Int)) := fun y => y.cell (Ext.cell HE.out g1)
          have e4 : ∀ y : Ex w5, y.w.cell? ⟨q2, ds, none⟩ = some (.int .i64 (y2 : Int)) := fun y => y.cell (Ext.cell HE.out g2)
          clear g1 g2
          go_wp2_with fail
          refine wp_region_ext (by kernel_rfl) (by kernel_rfl) ?_
          repeat (go_big_quiet_step (fail))
          refine wpQuiet_nil ?_
          rintro _ ⟨y, rfl⟩
          have HE := Lib.hid (HE.out.trans y.ext)
          go_wp2_with fail
          go_roundg g
          case measure => omega
          case rel => exact ⟨q + 1, m + y1 + ex + y2 + dx, by omega, by go_num, by go_num, by have := HM2.out; omega, HE.out⟩
      · obtain rfl : q = l.length := by omega
        rw [List.drop_length, pcsB, cbD_len, HX3.out.1] at hm
        have hmf : m = FB := by have := HZ.out.2.2.1; omega
        subst hmf
        have hIA := HO.out.2.2.2.ext HE.out
        have HI := Lib.hid (rcodes_any _ fixL wr hIA (by rw [HX3.out.2.1]; decide))
        rw [HX3.out.2.1] at HI
        clear hm hIA
        go_wp2_with fail
        refine HI.out.mono ?_
        rintro e w5 ⟨v', rfl, hx, _⟩
        rw [fix_codes.1]
        have HE := Lib.hid (HE.out.trans hx)
        have h1 := HZ.out.1
        have h2 := HZ.out.2.1
        have hq1 : (FN.size : Int) = ((m : Int) + 7) / 8 := by omega
        have hq2 : decide ((BN.size : Int) ≤ ((m : Int) + 7) / 8) = true := decide_eq_true (by omega)
        clear hx h1 h2
        go_wp2_with fail
        refine (HW.out.2.1 w5).mono ?_
        rintro e w6 ⟨rfl, hx⟩
        have HE := Lib.hid (HE.out.trans hx)
        clear hx
        go_wp2_with fail
        refine (HW.out.2.2 w6).mono ?_
        rintro e w7 ⟨rfl, hx⟩
        have HE := Lib.hid (HE.out.trans hx)
        clear hx
        go_wp2_with fail
        go_ret
        exact ⟨rfl, HX.out.trans HE.out⟩
  · go_enter Try.func6, Try.ntmps6
    go_wp2_with fail
    refine (lives10 w).mono ?_
    rintro e w1 ⟨rfl, hx⟩
    have HX := Lib.hid hx
    clear hx
    go_wp2_with fail
    go_ret
    exact ⟨rfl, HX.out⟩
end Go.Proofs.Ytapcfffmgdpmcaa.De
