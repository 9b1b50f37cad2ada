/-
  deflate: begin, tables, number, pieces walked.
-/
import Derived.Test.YtnapnaaejignaaaGreatDfD
import Derived.Deep.DeepCutAuto
namespace Go.Proofs.YtnapnaaejignaaaGreat.De
open Go.RowKit Bt Hu If Mt

abbrev pO (b : Nat) : Value := .pointer (some ⟨b, 0, none⟩)
def oPk (pb wb : Nat) (x y : Value) : Ob := Ob.one pb (.cells #[pO wb, x, y] 79 (0, 0))
theorem pk_at (k : Nat) {w0 w : World} {L : List Ob} {pb wb : Nat} {x y : Value} (S : Sep w0 w L) (h : L[k]? = some (oPk pb wb x y)) : w.heap[pb]? = some (.cells #[pO wb, x, y] 79 (0, 0)) := S.get k h
theorem wr_bits (D : List Int) (s : Nat) : cbits ((codesN D).getD ((s : Nat) : Int).toNat 0) (sizeZ D (s : Nat)).toNat = cbD D s := by
  unfold cbD sizeZ
  rw [Int.toNat_natCast]
  by_cases h : s < D.length
  · rw [if_neg (by omega)]
  · rw [if_pos (by omega), List.getD_eq_getElem?_getD (l := D), List.getElem?_eq_none (by omega)]
    rfl
/-- a table that may be written with -/
structure TbW (D : List Int) : Prop where
  len : D.length ≤ 288
  rg : ∀ x ∈ D, 0 ≤ x ∧ x ≤ 15
  code : ∀ x ∈ codesN D, x < 65536
theorem TbW.of {D : List Int} (h : badL D = false ∧ kra D ≤ 32768) : TbW D := ⟨(bad_false h.1).1, (bad_false h.1).2, codes_16 D h.1 h.2⟩
section
variable {w0 w : World} {L : List Ob}
theorem tw (i j : Nat) (hij : i ≠ j) {tb : Nat} {F : List Nat} {D : List Int} {b : Nat} {Fw bl : List Nat} (s : Nat) (S : Sep w0 w L) (hT : L[i]? = some (oTab tb F D)) (hW : L[j]? = some (oW b Fw false bl)) (hD : TbW D) (hbl : bl.length < 200000000000) :
    Calls Tryz.prog 41 #[pO tb, pO b, .int .i64 (s : Nat)] w fun e w' => ∃ u, e = .returned (.int .i64 u) ∧ ∃ Fw', Sep w0 w' (L.set j (oW b Fw' false (bl ++ cbD D s))) :=
  (sTWrite i j hij (s : Nat) S hT hW hD.len hD.rg hD.code (by omega)).mono fun e w' ⟨he, Fw', h⟩ => ⟨_, he, Fw', by rw [wr_bits] at h; exact h⟩
theorem pt (j : Nat) {b : Nat} {Fw bl : List Nat} {v n : Nat} (S : Sep w0 w L) (hW : L[j]? = some (oW b Fw false bl)) (hbl : bl.length < 200000000000) (hv : v < 2 ^ n) (hn : n ≤ 32) :
    Calls Tryz.prog 39 #[pO b, .int .u32 (v : Nat), .int .i64 (n : Nat)] w fun e w' => e = .returned (.int .i64 0) ∧ ∃ Fw', Sep w0 w' (L.set j (oW b Fw' false (bl ++ bitsOf false v n))) :=
  sPut j S hW (by omega) (Nat.lt_of_lt_of_le hv (Nat.pow_le_pow_right (by omega) hn)) hn hv
end
set_option maxRecDepth 100000 in
set_option maxHeartbeats 4000000 in
theorem begin_walk (kind : Nat) (hk : kind < 4) {w0 w : World} {L : List Ob} (S : Sep w0 w L) :
    Calls Tryz.prog 28 #[.int .u32 kind] w fun e w' => ∃ pb wb Fw, e = .returned (pO pb) ∧ Sep w0 w' (oPk pb wb (.pointer none) (.pointer none) :: oW wb Fw false (bitsOf false 1 1 ++ bitsOf false kind 2) :: L) := by
  have HS := Lib.hid S
  clear S
  go_enter Tryz.func28, Tryz.ntmps28
  go_wp2_with fail
  refine (sWnew false HS.out).mono ?_
  rintro e w1 ⟨wb, rfl, S⟩
  have S := S.new ((Ext.refl [] w1).alloc (.cells #[pO wb, .pointer none, .pointer none] 79)) (oPk w1.heap.size wb (.pointer none) (.pointer none)) (heap_alloc_at _) (fun k hk => by rw [List.mem_singleton.1 hk]; exact Nat.le_refl _)
  clear HS
  have HS := Lib.hid S
  clear S
  go_upto_region 2 with fail
  obtain ⟨pb, hpb⟩ : ∃ pb, w1.heap.size = pb := ⟨_, rfl⟩
  obtain ⟨W, hW⟩ : ∃ W, w1.alloc (.cells #[pO wb, .pointer none, .pointer none] 79) = W := ⟨_, rfl⟩
  simp only [hpb, hW] at HS ⊢
  clear hpb hW
  have c0 := cellOf (pk_at 0 HS.out rfl) 0
  go_wp2_with fail
  refine (pt 1 (v := 1) (n := 1) HS.out rfl (by simp) (by decide) (by omega)).mono ?_
  rintro e w2 ⟨rfl, Fw, S⟩
  have S : Sep w0 w2 (oPk pb wb (.pointer none) (.pointer none) :: oW wb Fw false (bitsOf false 1 1) :: L) := S
  clear HS c0
  have HS := Lib.hid S
  clear S
  have c0 := cellOf (pk_at 0 HS.out rfl) 0
  go_wp2_with fail
  refine (pt 1 (v := kind) (n := 2) HS.out rfl (by rw [bitsOf_length]; omega) (by omega) (by omega)).mono ?_
  rintro e w3 ⟨rfl, Fw2, S⟩
  have S : Sep w0 w3 (oPk pb wb (.pointer none) (.pointer none) :: oW wb Fw2 false (bitsOf false 1 1 ++ bitsOf false kind 2) :: L) := S
  clear HS c0
  have HS := Lib.hid S
  clear S
  go_wp2_with fail
  go_ret
  exact ⟨pb, wb, Fw2, rfl, HS.out⟩
set_option maxRecDepth 100000 in
set_option maxHeartbeats 4000000 in
theorem tables_walk (u v : Value) (D1 D2 : List Int) (pb wb : Nat) {w0 w : World} {L : List Ob} (S : Sep w0 w (oPk pb wb (.pointer none) (.pointer none) :: L)) (i1 i2 : Nat) {o1 o2 : Ob} (hi1 : L[i1]? = some o1) (hi2 : L[i2]? = some o2)
    (h1 : ∀ W, o1.P W → IntsArg W u D1) (h2 : ∀ W, o2.P W → IntsArg W v D2) (e1 : codesE D1 = 0) (e2 : codesE D2 = 0) :
    Calls Tryz.prog 29 #[pO pb, u, v] w fun e w' => ∃ t1 F1 t2 F2, e = .returned (.tuple #[]) ∧ Sep w0 w' (oTab t2 F2 D2 :: oTab t1 F1 D1 :: oPk pb wb (pO t1) (pO t2) :: L) := by
  have HS := Lib.hid S
  have HA := Lib.hid (⟨h1, h2, e1, e2, hi1, hi2⟩ : _ ∧ _ ∧ _ ∧ _ ∧ _ ∧ _)
  clear S h1 h2 e1 e2 hi1 hi2
  go_enter Tryz.func29, Tryz.ntmps29
  go_wp2_with fail
  refine (new_walk u D1 w (HA.out.1 _ (HS.out.get (i1 + 1) HA.out.2.2.2.2.1)) HA.out.2.2.1).mono ?_
  rintro e w1 ⟨t1, F1, rfl, hx, hp, hf⟩
  have S := HS.out.new hx (oTab t1 F1 D1) hp hf
  clear HS hx hp hf
  have HS := Lib.hid S
  have k0 := pk_at 1 S rfl
  have c0 := cellOf k0 1
  have f0 := freeOf k0 1
  clear S
  go_upto_region 1 with fail
  have S := HS.out.upd 1 (oPk pb wb (pO t1) (.pointer none)) rfl (Ext.setCell (Ext.refl _ _) ⟨pb, 1, none⟩ (pO t1) (.inl (List.mem_singleton.2 rfl))) (Fr.refl _ _) (heap_setCell_same k0 _)
  have S : Sep w0 (w1.setCell ⟨pb, 1, none⟩ (pO t1)) (oTab t1 F1 D1 :: oPk pb wb (pO t1) (.pointer none) :: L) := S
  clear HS k0 c0 f0
  obtain ⟨W, hW⟩ : ∃ W, w1.setCell ⟨pb, 1, none⟩ (pO t1) = W := ⟨_, rfl⟩
  rw [hW] at S ⊢
  have HS := Lib.hid S
  clear hW S
  go_wp2_with fail
  refine (new_walk v D2 W (HA.out.2.1 _ (HS.out.get (i2 + 2) HA.out.2.2.2.2.2)) HA.out.2.2.2.1).mono ?_
  rintro e w2 ⟨t2, F2, rfl, hx, hp, hf⟩
  have S := HS.out.new hx (oTab t2 F2 D2) hp hf
  clear HS hx hp hf
  have HS := Lib.hid S
  have k0 := pk_at 2 S rfl
  have c0 := cellOf k0 2
  have f0 := freeOf k0 2
  clear S
  go_wp2_with fail
  have S := HS.out.upd 2 (oPk pb wb (pO t1) (pO t2)) rfl (Ext.setCell (Ext.refl _ _) ⟨pb, 2, none⟩ (pO t2) (.inl (List.mem_singleton.2 rfl))) (Fr.refl _ _) (heap_setCell_same k0 _)
  go_end0
  exact ⟨t1, F1, t2, F2, rfl, S⟩
theorem lenX_5 : ∀ sy, 257 ≤ sy → sy ≤ 285 → lenX sy ≤ 5 := by
  intro sy h1 h2
  obtain ⟨k, rfl⟩ : ∃ k, sy = 257 + k := ⟨sy - 257, by omega⟩
  have : ∀ k, k < 29 → lenX (257 + k) ≤ 5 := by decide +kernel
  exact this k (by omega)
theorem dstX_13 : ∀ sy, sy ≤ 29 → dstX sy ≤ 13 := by
  intro sy h
  have : ∀ k, k < 30 → dstX k ≤ 13 := by decide +kernel
  exact this sy (by omega)
set_option maxRecDepth 100000 in
set_option maxHeartbeats 4000000 in
theorem num_len (i j k : Nat) (hij : i ≠ j) (hkj : k ≠ j) (n sy : Nat) {tb : Nat} {F : List Nat} {D : List Int} {pb wb : Nat} {Fw bl : List Nat} {x y : Value} {w0 w : World} {L : List Ob} (S : Sep w0 w L)
    (hK : L[k]? = some (oPk pb wb x y)) (hT : L[i]? = some (oTab tb F D)) (hW : L[j]? = some (oW wb Fw false bl)) (hD : TbW D) (hbl : bl.length < 100000000000) (h1 : 257 ≤ sy) (h2 : sy ≤ 285) (f1 : lenB sy ≤ n) (f2 : n - lenB sy < 2 ^ lenX sy) :
    Calls Tryz.prog 47 #[pO pb, pO tb, .int .i64 (n : Nat), .int .i64 (sy : Nat), .func (.func 49) #[] #[]] w fun e w' => e = .returned (.tuple #[]) ∧ ∃ Fw', Sep w0 w' (L.set j (oW wb Fw' false (bl ++ (cbD D sy ++ bitsOf false (n - lenB sy) (lenX sy))))) := by
  have hD15 := getD_15 (fun x hx => (hD.rg x hx).2) sy
  have hcl := cbD_len D sy
  have f3 : lenX sy ≤ 5 := lenX_5 sy h1 h2
  have hjl := (List.getElem?_eq_some_iff.1 hW).1
  have HZ := Lib.hid (⟨hK, hT, hW, hD, fun w => (by have := length_walk (sy : Nat) w; rw [(lenBZ_at sy h1 h2).1, (lenBZ_at sy h1 h2).2] at this; exact this : Calls Tryz.prog 49 #[.int .i64 (sy : Nat)] w fun e w' => e = .returned (.tuple #[.int .i64 (lenB sy), .int .i64 (lenX sy)]) ∧ w = w')⟩ : _ ∧ _ ∧ _ ∧ _ ∧ _)
  obtain ⟨u, hu⟩ : ∃ u, n - lenB sy = u := ⟨_, rfl⟩
  have hui : (n : Int) - (lenB sy : Nat) = (u : Int) := by omega
  rw [hu] at f2 ⊢
  have HF := Lib.hid f2
  have HS := Lib.hid S
  clear S hK hT hW hD hu f2
  generalize lenB sy = bs at *
  generalize lenX sy = ex at *
  have hu32 : u < 32768 := Nat.lt_of_lt_of_le HF.out (Nat.le_trans (Nat.pow_le_pow_right (by omega) (Nat.le_trans f3 (by decide : 5 ≤ 15))) (by decide))
  go_enter Tryz.func47, Tryz.ntmps47
  go_wp2_with fail
  refine (HZ.out.2.2.2.2 w).mono ?_
  rintro e w1 ⟨rfl, rfl⟩
  have c0 := cellOf (pk_at k HS.out HZ.out.1) 0
  go_wp2_with fail
  refine (tw i j hij (b := wb) sy HS.out HZ.out.2.1 HZ.out.2.2.1 HZ.out.2.2.2.1 (by omega)).mono ?_
  rintro e w2 ⟨_, rfl, Fw2, S⟩
  clear HS c0
  have HS := Lib.hid S
  clear S
  have c0 := cellOf (pk_at k HS.out ((List.getElem?_set_ne (Ne.symm hkj)).trans HZ.out.1)) 0
  go_wp2_with fail
  refine (pt j (b := wb) (v := u) (n := ex) HS.out (List.getElem?_set_self hjl) (by rw [List.length_append]; omega) HF.out (by omega)).mono ?_
  rintro e w3 ⟨rfl, Fw3, S⟩
  clear HS c0
  have HS := Lib.hid S
  clear S
  go_wp2_with fail
  go_end0
  refine ⟨rfl, Fw3, ?_⟩
  have S := HS.out
  rw [List.set_set, List.append_assoc] at S
  exact S
set_option maxRecDepth 100000 in
set_option maxHeartbeats 4000000 in
theorem num_dst (i j k : Nat) (hij : i ≠ j) (hkj : k ≠ j) (n sy : Nat) {tb : Nat} {F : List Nat} {D : List Int} {pb wb : Nat} {Fw bl : List Nat} {x y : Value} {w0 w : World} {L : List Ob} (S : Sep w0 w L)
    (hK : L[k]? = some (oPk pb wb x y)) (hT : L[i]? = some (oTab tb F D)) (hW : L[j]? = some (oW wb Fw false bl)) (hD : TbW D) (hbl : bl.length < 100000000000) (h2 : sy ≤ 29) (f1 : dstB sy ≤ n) (f2 : n - dstB sy < 2 ^ dstX sy) :
    Calls Tryz.prog 47 #[pO pb, pO tb, .int .i64 (n : Nat), .int .i64 (sy : Nat), .func (.func 51) #[] #[]] w fun e w' => e = .returned (.tuple #[]) ∧ ∃ Fw', Sep w0 w' (L.set j (oW wb Fw' false (bl ++ (cbD D sy ++ bitsOf false (n - dstB sy) (dstX sy))))) := by
  have hD15 := getD_15 (fun x hx => (hD.rg x hx).2) sy
  have hcl := cbD_len D sy
  have f3 : dstX sy ≤ 13 := dstX_13 sy h2
  have hjl := (List.getElem?_eq_some_iff.1 hW).1
  have HZ := Lib.hid (⟨hK, hT, hW, hD, fun w => (by have := distance_walk (sy : Nat) w; rw [(dstBZ_at sy h2).1, (dstBZ_at sy h2).2] at this; exact this : Calls Tryz.prog 51 #[.int .i64 (sy : Nat)] w fun e w' => e = .returned (.tuple #[.int .i64 (dstB sy), .int .i64 (dstX sy)]) ∧ w = w')⟩ : _ ∧ _ ∧ _ ∧ _ ∧ _)
  obtain ⟨u, hu⟩ : ∃ u, n - dstB sy = u := ⟨_, rfl⟩
  have hui : (n : Int) - (dstB sy : Nat) = (u : Int) := by omega
  rw [hu] at f2 ⊢
  have HF := Lib.hid f2
  have HS := Lib.hid S
  clear S hK hT hW hD hu f2
  generalize dstB sy = bs at *
  generalize dstX sy = ex at *
  have hu32 : u < 32768 := Nat.lt_of_lt_of_le HF.out (Nat.le_trans (Nat.pow_le_pow_right (by omega) (Nat.le_trans f3 (by decide : 13 ≤ 15))) (by decide))
  go_enter Tryz.func47, Tryz.ntmps47
  go_wp2_with fail
  refine (HZ.out.2.2.2.2 w).mono ?_
  rintro e w1 ⟨rfl, rfl⟩
  have c0 := cellOf (pk_at k HS.out HZ.out.1) 0
  go_wp2_with fail
  refine (tw i j hij (b := wb) sy HS.out HZ.out.2.1 HZ.out.2.2.1 HZ.out.2.2.2.1 (by omega)).mono ?_
  rintro e w2 ⟨_, rfl, Fw2, S⟩
  clear HS c0
  have HS := Lib.hid S
  clear S
  have c0 := cellOf (pk_at k HS.out ((List.getElem?_set_ne (Ne.symm hkj)).trans HZ.out.1)) 0
  go_wp2_with fail
  refine (pt j (b := wb) (v := u) (n := ex) HS.out (List.getElem?_set_self hjl) (by rw [List.length_append]; omega) HF.out (by omega)).mono ?_
  rintro e w3 ⟨rfl, Fw3, S⟩
  clear HS c0
  have HS := Lib.hid S
  clear S
  go_wp2_with fail
  go_end0
  refine ⟨rfl, Fw3, ?_⟩
  have S := HS.out
  rw [List.set_set, List.append_assoc] at S
  exact S
end Go.Proofs.YtnapnaaejignaaaGreat.De
