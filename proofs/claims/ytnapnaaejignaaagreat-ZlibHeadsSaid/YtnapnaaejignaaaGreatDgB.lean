/-
  deflate: pieces walked.
-/
import Derived.Test.YtnapnaaejignaaaGreatDgA
namespace Go.Proofs.YtnapnaaejignaaaGreat.De
open Go.RowKit Bt Hu If Mt

set_option maxRecDepth 100000 in
set_option maxHeartbeats 4000000 in
theorem pieces_walk (v : Value) (l : List Pc) (D1 D2 : List Int) (i1 i2 j k io : Nat) {t1 t2 pb wb : Nat} {F1 F2 Fw bl : List Nat} {o : Ob} {w0 w : World} {L : List Ob} (S : Sep w0 w L) (h1j : i1 ≠ j) (h2j : i2 ≠ j) (hkj : k ≠ j) (hoj : io ≠ j)
    (hK : L[k]? = some (oPk pb wb (pO t1) (pO t2))) (hT1 : L[i1]? = some (oTab t1 F1 D1)) (hT2 : L[i2]? = some (oTab t2 F2 D2)) (hW : L[j]? = some (oW wb Fw false bl)) (hO : L[io]? = some o) (hv : ∀ W, o.P W → PcAt W v l)
    (hD1 : TbW D1) (hD2 : TbW D2) (hbl : bl.length + (pcsB D1 D2 l).length < 50000000000) (hbad : badN l = false) (hl : l.length ≤ 1048576) :
    Calls Tryz.prog 31 #[pO pb, v] w fun e w' => e = .returned (.string (txt (packB false (bl ++ pcsB D1 D2 l)))) ∧ ∃ Fw', Sep w0 w' (L.set j (oW wb Fw' false (bl ++ pcsB D1 D2 l))) := by
  have hjl := (List.getElem?_eq_some_iff.1 hW).1
  obtain ⟨ao, cap, rfl⟩ := (hv _ (S.get io hO)).slice
  obtain ⟨RB, hRB⟩ : ∃ RB, bl ++ pcsB D1 D2 l = RB := ⟨_, rfl⟩
  rw [hRB]
  have hRl : RB.length < 50000000000 := by rw [← hRB, List.length_append]; exact hbl
  have hL1 : ∀ X : Ob, (L.set j X)[k]? = some (oPk pb wb (pO t1) (pO t2)) := fun X => (List.getElem?_set_ne (Ne.symm hkj)).trans hK
  have hL2 : ∀ X : Ob, (L.set j X)[i1]? = some (oTab t1 F1 D1) := fun X => (List.getElem?_set_ne (Ne.symm h1j)).trans hT1
  have hL3 : ∀ X : Ob, (L.set j X)[i2]? = some (oTab t2 F2 D2) := fun X => (List.getElem?_set_ne (Ne.symm h2j)).trans hT2
  have hL4 : ∀ X : Ob, (L.set j X)[io]? = some o := fun X => (List.getElem?_set_ne (Ne.symm hoj)).trans hO
  have hL5 : ∀ X : Ob, (L.set j X)[j]? = some X := fun X => List.getElem?_set_self hjl
  have HL := Lib.hid (⟨hL1, hL2, hL3, hL4, hL5⟩ : _ ∧ _ ∧ _ ∧ _ ∧ _)
  have HV := Lib.hid hv
  have HD := Lib.hid (⟨hD1, hD2, hbad⟩ : _ ∧ _ ∧ _)
  have HR := Lib.hid (⟨hRB, hRl⟩ : _ ∧ _)
  have HJ := Lib.hid (⟨h1j, h2j, hkj, hoj⟩ : _ ∧ _ ∧ _ ∧ _)
  have S : Sep w0 w (L.set j (oW wb Fw false bl)) := by rw [set_same hW]; exact S
  have HS := Lib.hid S
  clear S hL1 hL2 hL3 hL4 hL5 hv hD1 hD2 hbad hRB hRl hK hT1 hT2 hW hO h1j h2j hkj hoj hjl hbl
  go_enter Tryz.func31, Tryz.ntmps31
  go_wp2_with fail
  go_loopg [9] l.length (fun g iv wr => ∃ (q : Nat) (Fw bl : List Nat), g + q = l.length ∧ iv = .int .i64 q ∧ bl ++ pcsB D1 D2 (l.drop q) = RB ∧ Sep w0 wr (L.set j (oW wb Fw false bl)))
  case atStart => exact ⟨0, Fw, bl, by omega, rfl, HR.out.1, HS.out⟩
  case round =>
    clear HS
    obtain ⟨q, Fw, bl, hgk, rfl, hB, S⟩ := hrel
    have hbl : bl.length < 50000000000 := by
      have h1 := HR.out.2
      rw [← hB, List.length_append] at h1
      omega
    have HS := Lib.hid S
    clear S
    by_cases hlt : q < l.length
    · obtain ⟨g, rfl⟩ : ∃ g, gk = g + 1 := ⟨gk - 1, by omega⟩
      obtain ⟨ao2, cap2, he, hc⟩ := HV.out _ (HS.out.get io (HL.out.2.2.2.1 _))
      injection he with he1 he2 he3
      clear he2
      subst he1 he3
      obtain ⟨b, off, rfl, hcell⟩ := hc (by omega)
      obtain ⟨x, hx⟩ : ∃ x, l[q]? = some x := ⟨_, List.getElem?_eq_getElem hlt⟩
      have hm1 : mayP x = true := by
        have h := HD.out.2.2
        unfold badN at h
        rw [List.any_eq_false] at h
        simpa using h x (List.mem_of_getElem? hx)
      have hm := mayP_iff x hm1
      clear hm1
      rw [drop_at hx, pcsB, ← List.append_assoc] at hB
      obtain ⟨c0, c1, c2⟩ := hcell q x hx
      have HB := Lib.hid hB
      have HM := Lib.hid hm
      clear hB hm hcell hc hx
      obtain ⟨xb, xn, xk⟩ := x
      simp only at c0 c1 c2 HB HM
      have hql : (q : Int) < (l.length : Int) := by omega
      go_upto_region 4 with fail
      obtain ⟨W, hW⟩ : ∃ W, wr.alloc (.cells #[.int .u8 (xb.toNat : Nat), .int .i64 xn, .int .i64 xk] 94) = W := ⟨_, rfl⟩
      obtain ⟨pc, hpc⟩ : ∃ pc, wr.heap.size = pc := ⟨_, rfl⟩
      have hpW : W.heap[pc]? = some (.cells #[.int .u8 (xb.toNat : Nat), .int .i64 xn, .int .i64 xk] 94 (0, 0)) := by rw [← hW, ← hpc]; exact heap_alloc_at _
      have HP := Lib.hid (HS.out.new (show Ext [] wr W by rw [← hW]; exact (Ext.refl [] wr).alloc _) (Ob.one pc (.cells #[.int .u8 (xb.toNat : Nat), .int .i64 xn, .int .i64 xk] 94 (0, 0))) hpW (fun k hk => by rw [List.mem_singleton.1 hk, ← hpc]; exact Nat.le_refl _))
      have HS := Lib.hid (HS.out.quiet (show Ext [] wr W by rw [← hW]; exact (Ext.refl [] wr).alloc _))
      simp only [hW, hpc]
      clear hW hpc c0 c1 c2
      have hkW := pk_at k HS.out (HL.out.1 _)
      have d1 := cellOf hpW 1
      have k0 : ∀ y : Ex W, y.w.cell? ⟨pb, 0, none⟩ = some (pO wb) := fun y => cellOf (y.heap hkW) 0
      have k1 : ∀ y : Ex W, y.w.cell? ⟨pb, 1, none⟩ = some (pO t1) := fun y => cellOf (y.heap hkW) 1
      have k2 : ∀ y : Ex W, y.w.cell? ⟨pb, 2, none⟩ = some (pO t2) := fun y => cellOf (y.heap hkW) 2
      have p0 : ∀ y : Ex W, y.w.cell? ⟨pc, 0, none⟩ = some (.int .u8 (xb.toNat : Nat)) := fun y => cellOf (y.heap hpW) 0
      have p1 : ∀ y : Ex W, y.w.cell? ⟨pc, 1, none⟩ = some (.int .i64 xn) := fun y => cellOf (y.heap hpW) 1
      by_cases hx0 : xn = 0
      · subst hx0
        have hB := HB.out
        rw [show pcB D1 D2 (xb, 0, xk) = cbD D1 xb.toNat from rfl] at hB
        have HB := Lib.hid hB
        have hx8 := xb.toNat_lt
        clear hB HM k2 p1 hkW HP
        generalize xb.toNat = xx at *
        go_wp2_with fail
        refine wp_region_quiet_tail (C := fun w' => ∃ x : Ex W, w' = x.w) 11 (by kernel_rfl) (by kernel_rfl) ⟨Ex.mk _ ((Ext.refl [] W).drew), rfl⟩ ?_
        simp only [List.take_succ_cons, List.take_zero, List.drop_succ_cons, List.drop_zero]
        repeat (go_big_quiet_step (fail))
        refine wpQuiet_nil ?_
        rintro _ ⟨y, rfl⟩
        have HS := Lib.hid (HS.out.quiet y.ext)
        go_wp2_with fail
        refine (tw i1 j HJ.out.1 (b := wb) xx HS.out (HL.out.2.1 _) (HL.out.2.2.2.2 _) HD.out.1 (by omega)).mono ?_
        rintro e w2 ⟨_, rfl, Fw2, S⟩
        rw [List.set_set] at S
        have HS := Lib.hid S
        clear S k0 k1 p0 d1 hpW
        go_wp2_with fail
        go_roundg g
        case measure => omega
        case rel => exact ⟨q + 1, Fw2, _, by omega, by go_num, HB.out, HS.out⟩
      · have hm := HM.out
        obtain ⟨n, rfl⟩ : ∃ n : Nat, xn = n := ⟨xn.toNat, by omega⟩
        obtain ⟨bk, rfl⟩ : ∃ bk : Nat, xk = bk := ⟨xk.toNat, by omega⟩
        have hn1 : 3 ≤ n := by omega
        have hn2 : n ≤ 258 := by omega
        have hk1 : 1 ≤ bk := by omega
        have hk2 : bk ≤ 32768 := by omega
        have hB := HB.out
        rw [show pcB D1 D2 (xb, (n : Int), (bk : Int)) = pcM D1 D2 n bk by unfold pcB; rw [if_neg (by show ¬ (n : Int) = 0; omega)]; rfl] at hB
        unfold pcM at hB
        have HB := Lib.hid hB
        obtain ⟨a1, a2, a3, a4, a5⟩ := ls_facts n hn1 hn2
        obtain ⟨b1, b2, b3, b4⟩ := ds_facts bk hk1 hk2
        have HW1 := Lib.hid (fun w => (by have := lenof_walk (n : Int) w; rw [show lenOfZ (n : Int) = (lsN n : Nat) by unfold lenOfZ lsN; rw [if_neg (by omega), Int.toNat_natCast]] at this; exact this : Calls Tryz.prog 48 #[.int .i64 (n : Int)] w fun e w' => e = .returned (.int .i64 (lsN n : Nat)) ∧ w = w'))
        have HW2 := Lib.hid (fun w => (by have := dstof_walk (bk : Int) w; rw [show dstOfZ (bk : Int) = (dsN bk : Nat) by unfold dstOfZ dsN; rw [if_neg (by omega), Int.toNat_natCast]] at this; exact this : Calls Tryz.prog 50 #[.int .i64 (bk : Int)] w fun e w' => e = .returned (.int .i64 (dsN bk : Nat)) ∧ w = w'))
        have HF := Lib.hid (⟨a1, a2, a3, a4, a5, b1, b2, b3, b4⟩ : _ ∧ _ ∧ _ ∧ _ ∧ _ ∧ _ ∧ _ ∧ _ ∧ _)
        clear hB hm HM a1 a2 a3 a4 a5 b1 b2 b3 b4 p0
        generalize lsN n = ls at *
        generalize dsN bk = ds at *
        go_wp2_with fail
        refine wp_region_quiet_tail (C := fun w' => ∃ x : Ex W, w' = x.w) 10 (by kernel_rfl) (by kernel_rfl) ⟨Ex.mk _ ((Ext.refl [] W).drew), rfl⟩ ?_
        simp only [List.take_succ_cons, List.take_zero, List.drop_succ_cons, List.drop_zero]
        repeat (go_big_quiet_step ((go_at_call 48; refine Calls.ext_of ((HW1.out _).mono fun _ _ ⟨he, hw⟩ => ⟨he, hw ▸ Ext.refl _ _⟩))))
        refine wpQuiet_nil ?_
        rintro _ ⟨y, rfl⟩
        have HP := Lib.hid (HP.out.quiet y.ext)
        clear k0 k1 k2 p1 d1 hkW hpW HS
        go_wp2_with fail
        refine (num_len (i1 + 1) (j + 1) (k + 1) (fun h => HJ.out.1 (by omega)) (fun h => HJ.out.2.2.1 (by omega)) n ls HP.out (HL.out.1 _) (HL.out.2.1 _) (HL.out.2.2.2.2 _) HD.out.1 (by omega) HF.out.1 HF.out.2.1 HF.out.2.2.1 HF.out.2.2.2.1).mono ?_
        rintro e w2 ⟨rfl, Fw2, S⟩
        rw [List.set_cons_succ, List.set_set] at S
        have HP := Lib.hid S
        have hcl := cbD_len D1 ls
        have hD15 := getD_15 (fun x hx => (HD.out.1.rg x hx).2) ls
        have hlx := HF.out.2.2.2.2.1
        have hbl2 : (bl ++ (cbD D1 ls ++ bitsOf false (n - lenB ls) (lenX ls))).length < 50000000100 := by simp only [List.length_append, bitsOf_length]; omega
        obtain ⟨bl2, hbl3⟩ : ∃ bl2, bl ++ (cbD D1 ls ++ bitsOf false (n - lenB ls) (lenX ls)) = bl2 := ⟨_, rfl⟩
        have hB := HB.out
        rw [show bl ++ (cbD D1 ls ++ (bitsOf false (n - lenB ls) (lenX ls) ++ (cbD D2 ds ++ bitsOf false (bk - dstB ds) (dstX ds)))) = bl ++ (cbD D1 ls ++ bitsOf false (n - lenB ls) (lenX ls)) ++ (cbD D2 ds ++ bitsOf false (bk - dstB ds) (dstX ds)) by simp only [List.append_assoc]] at hB
        rw [hbl3] at hB hbl2 HP
        have HB := Lib.hid hB
        clear S hB hbl3 hlx hD15 hcl
        have hkW := pk_at (k + 1) HP.out (HL.out.1 _)
        have hpW : w2.heap[pc]? = some (.cells #[.int .u8 (xb.toNat : Nat), .int .i64 (n : Int), .int .i64 (bk : Int)] 94 (0, 0)) := HP.out.get 0 rfl
        have k0 : ∀ y : Ex w2, y.w.cell? ⟨pb, 0, none⟩ = some (pO wb) := fun y => cellOf (y.heap hkW) 0
        have k2 : ∀ y : Ex w2, y.w.cell? ⟨pb, 2, none⟩ = some (pO t2) := fun y => cellOf (y.heap hkW) 2
        have p2 : ∀ y : Ex w2, y.w.cell? ⟨pc, 2, none⟩ = some (.int .i64 (bk : Int)) := fun y => cellOf (y.heap hpW) 2
        go_wp2_with fail
        refine wp_region_quiet_tail (C := fun w' => ∃ x : Ex w2, w' = x.w) 10 (by kernel_rfl) (by kernel_rfl) ⟨Ex.mk _ ((Ext.refl [] w2).drew), rfl⟩ ?_
        simp only [List.take_succ_cons, List.take_zero, List.drop_succ_cons, List.drop_zero]
        repeat (go_big_quiet_step ((go_at_call 50; refine Calls.ext_of ((HW2.out _).mono fun _ _ ⟨he, hw⟩ => ⟨he, hw ▸ Ext.refl _ _⟩))))
        refine wpQuiet_nil ?_
        rintro _ ⟨y, rfl⟩
        have HP := Lib.hid (HP.out.quiet y.ext)
        clear k0 k2 p2 hkW hpW
        go_wp2_with fail
        refine (num_dst (i2 + 1) (j + 1) (k + 1) (fun h => HJ.out.2.1 (by omega)) (fun h => HJ.out.2.2.1 (by omega)) bk ds HP.out (HL.out.1 _) (HL.out.2.2.1 _) (HL.out.2.2.2.2 _) HD.out.2.1 (by omega) HF.out.2.2.2.2.2.1 HF.out.2.2.2.2.2.2.1 HF.out.2.2.2.2.2.2.2.1).mono ?_
        rintro e w3 ⟨rfl, Fw3, S⟩
        rw [List.set_cons_succ, List.set_set] at S
        have HS := Lib.hid S.tl
        clear S HP
        go_wp2_with fail
        go_roundg g
        case measure => omega
        case rel => exact ⟨q + 1, Fw3, _, by omega, by go_num, HB.out, HS.out⟩
    · obtain rfl : q = l.length := by omega
      rw [List.drop_length, pcsB] at hB
      have HB := Lib.hid hB
      clear hB
      have hkW := pk_at k HS.out (HL.out.1 _)
      have k0 : ∀ y : Ex wr, y.w.cell? ⟨pb, 0, none⟩ = some (pO wb) := fun y => cellOf (y.heap hkW) 0
      have k1 : ∀ y : Ex wr, y.w.cell? ⟨pb, 1, none⟩ = some (pO t1) := fun y => cellOf (y.heap hkW) 1
      go_wp2_with fail
      refine wp_region_quiet_tail (C := fun w' => ∃ x : Ex wr, w' = x.w) 8 (by kernel_rfl) (by kernel_rfl) ⟨Ex.mk _ ((Ext.refl [] wr).drew), rfl⟩ ?_
      simp only [List.take_succ_cons, List.take_zero, List.drop_succ_cons, List.drop_zero]
      repeat (go_big_quiet_step (fail))
      refine wpQuiet_nil ?_
      rintro _ ⟨y, rfl⟩
      have HS := Lib.hid (HS.out.quiet y.ext)
      clear k0 k1 hkW
      go_wp2_with fail
      refine (tw i1 j HJ.out.1 (b := wb) 256 HS.out (HL.out.2.1 _) (HL.out.2.2.2.2 _) HD.out.1 (by omega)).mono ?_
      rw [HB.out]
      rintro e w2 ⟨_, rfl, Fw2, S⟩
      rw [List.set_set] at S
      have HS := Lib.hid S
      clear S
      have k0 := cellOf (pk_at k HS.out (HL.out.1 _)) 0
      go_wp2_with fail
      refine (sText j (b := wb) HS.out (HL.out.2.2.2.2 _)).mono ?_
      rintro e w3 ⟨rfl, rfl⟩
      go_wp2_with fail
      go_ret
      exact ⟨rfl, Fw2, HS.out⟩
end Go.Proofs.YtnapnaaejignaaaGreat.De
