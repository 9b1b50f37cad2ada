/-
  The law DeflateNames walked.
-/
import Derived.Test.YtapcfffmgdpmcaaDhA
import Derived.Test.YtapcfffmgdpmcaaDgJ
namespace Go.Proofs.Ytapcfffmgdpmcaa.De
open Go.RowKit Bt Hu If Mt

theorem exn_1 : storedN ⟨#[]⟩ = ⟨#[1, 0, 0, 255, 255]⟩ := by kernel_rfl
theorem exn_2 : fixedN ⟨#[]⟩ = ⟨#[3, 0]⟩ := by kernel_rfl
theorem exn_3 : bestN ⟨#[]⟩ = ⟨#[3, 0]⟩ := by
  have h := dynN_size ⟨#[]⟩
  have hl : 17 ≤ (dynB8 ⟨#[]⟩).length := by
    unfold dynB8
    simp only [List.length_append, bitsOf_length]
    omega
  unfold bestN
  rw [exn_1, exn_2]
  show shortN (if (2 : Nat) < 5 then _ else _) _ = _
  rw [if_pos (by decide)]
  unfold shortN
  rw [if_neg]
  show ¬ (dynN ⟨#[]⟩).size < 2
  omega
def exC : List Pc := [(97, 0, 0), (0, 258, 1)]
def exD : List Pc := [(0, 258, 1)]
theorem exC_ok : chkN exC = 0 ∧ chkN exD ≠ 0 := by decide +kernel
theorem exC_at : (cntA exC).getD 97 0 = 1 ∧ (cntA exC).getD 285 0 = 1 ∧ (cntA exC).getD 256 0 = 1 ∧ (cntB exC).getD 0 0 = 1 ∧ (cntA exC).length = 286 ∧ (cntB exC).length = 30 := by decide +kernel
theorem exS (z : ByteArray) (hz : z.size = 65536) (h0 : ∀ x ∈ nB (B z), x = 0) : (storedN z).size = 65546 ∧ (storedN z).extract 0 5 = ⟨#[0, 255, 255, 0, 0]⟩ ∧ (storedN z).extract 65540 65546 = ⟨#[1, 1, 0, 254, 255, 0]⟩ := by
  have hl : (nB (B z)).length = 65536 := by rw [nB_len, B_len, hz]
  obtain ⟨L, hL⟩ : ∃ L, nB (B z) = L := ⟨_, rfl⟩
  rw [hL] at hl h0
  have hd1 : (L.drop 65535).length = 1 := by rw [List.length_drop, hl]
  have hd : L.drop 65535 = [0] := by
    match h : L.drop 65535, hd1 with
    | [x], _ => rw [h0 x (List.mem_of_mem_drop (by rw [h]; simp))]
  have e : storedB z = ((0 :: hdS 65535) ++ L.take 65535) ++ ((1 :: hdS 1) ++ [0]) := by
    unfold storedB
    rw [hL, hz, show 65536 / 65535 + 1 = 1 + 1 from rfl, stoF, if_neg (by rw [hl]; omega), hd]
    rfl
  have ht : (L.take 65535).length = 65535 := by rw [List.length_take, hl]; rfl
  obtain ⟨M, hM⟩ : ∃ M, L.take 65535 = M := ⟨_, rfl⟩
  rw [hM] at e ht
  unfold storedN
  rw [e]
  have hx : ∀ (P : List Nat) (a b : Nat) (o : List Nat), (P.take b).drop a = o → (txt P).extract a b = txt o := fun P a b o h => by
    subst h
    apply ByteArray.ext
    apply Array.ext'
    rw [ByteArray.data_extract, Array.toList_extract]
    simp only [txt, List.extract, List.map_drop, List.map_take]
    rw [List.drop_take]
  refine ⟨?_, (hx _ 0 5 [0, 255, 255, 0, 0] ?_).trans rfl, (hx _ 65540 65546 [1, 1, 0, 254, 255, 0] ?_).trans rfl⟩
  · rw [txt_size, List.length_append, List.length_append, ht]
    rfl
  · rw [List.append_assoc]
    rfl
  · rw [List.take_of_length_le (by rw [List.length_append, List.length_append, ht]; decide)]
    rw [show (65540 : Nat) = ((0 :: hdS 65535) ++ M).length by rw [List.length_append, ht]; rfl, List.drop_left]
    rfl
set_option maxRecDepth 100000 in
set_option maxHeartbeats 4000000 in
theorem counts_bad (v : Value) (l : List Pc) (w : World) (hv : PcAt w v l) (hl : l.length ≤ 1048576) (hc : chkN l ≠ 0) :
    Calls Try.prog 9 #[v] w fun e w' => e = .returned (.tuple #[.slice none 0 0, .slice none 0 0]) ∧ Ext [] w w' := by
  have hk := fun w hv => Check_walk v l w hv hl
  obtain ⟨c, hcc⟩ : ∃ c, chkN l = c := ⟨_, rfl⟩
  rw [hcc] at hk hc
  have HK := Lib.hid hk
  have HV := Lib.hid hv
  have hd : (c == 0) = false := by simpa using hc
  clear hk hv hcc
  go_enter Try.func9, Try.ntmps9
  go_wp2_with fail
  refine (HK.out w HV.out).mono ?_
  rintro e w1 ⟨rfl, hx⟩
  have HX := Lib.hid hx
  clear hx
  go_wp2_with fail
  exact bodyPost_ret (results_tmp2 rfl _ _ _) rfl ⟨rfl, HX.out⟩
set_option maxRecDepth 100000 in
set_option maxHeartbeats 16000000 in
theorem names10_law (w : World) : Calls Try.prog 4 #[] w fun e w' => e = .returned (.bool true) ∧ Ext [] w w' := by
  obtain ⟨i0, hi, hz0, hz1, hz2⟩ := info_parts infoByte
  go_enter Try.func4, Try.ntmps4
  go_wp2_with fail
  have hb := heap_alloc_at (w := w) (.cells #[.int .u8 97, .int .i64 0, .int .i64 0, .int .u8 0, .int .i64 258, .int .i64 1] 30)
  have hxa : Ext [] w _ := (Ext.refl [] w).alloc (.cells #[.int .u8 97, .int .i64 0, .int .i64 0, .int .u8 0, .int .i64 258, .int .i64 1] 30)
  have HC := Lib.hid (counts_walk _ exC _ (PcAt.of_block (cap := 2) exC 2 rfl hb rfl) (by decide) exC_ok.1)
  have HXA := Lib.hid hxa
  clear hb hxa
  refine HC.out.mono ?_
  rintro e w1 ⟨g1, g2, rfl, S⟩
  have HX := Lib.hid (HXA.out.trans S.ext)
  have HS := Lib.hid S
  clear S HC HXA
  go_wp2_with fail
  have hb := heap_alloc_at (w := w1) (.cells #[.int .u8 0, .int .i64 258, .int .i64 1] 30)
  have hxa : Ext [] w1 _ := (Ext.refl [] w1).alloc (.cells #[.int .u8 0, .int .i64 258, .int .i64 1] 30)
  have HC := Lib.hid (counts_bad _ exD _ (PcAt.of_block (cap := 1) exD 1 rfl hb rfl) (by decide) exC_ok.2)
  have HXA := Lib.hid hxa
  clear hb hxa
  refine HC.out.mono ?_
  rintro e w2 ⟨rfl, hx⟩
  have HX := Lib.hid ((HX.out.trans HXA.out).trans hx)
  have HS := Lib.hid (HS.out.quiet (HXA.out.trans hx))
  clear hx HC HXA
  obtain ⟨w3, hmk, hown, hgrow⟩ := run_make_full (P := Try.prog) w2 0 32 5 i0 (.int .u8 0) 1 Try.underlying32 hi hz0 hz1 .i64 .i64 65536 (by rw [hz2]; omega) (by unfold maxLen; omega) (by omega)
  replace hmk : (Instr.makeSlice 32 (.int .i64 65536) (.int .i64 65536)).run Try.prog w2 = .ok (.slice (some ⟨w2.heap.size, 0, none⟩) 65536 65536) w3 := hmk
  have hx2 : Ext [] w2 w3 := (Ext.refl [] w2).grown hgrow (fun k hk => by cases hk)
  have hm : (madeCells (Value.int .u8 0).cells (65536 * 1)).toList = (List.replicate 65536 (0 : UInt8)).map u8v := by
    rw [List.map_replicate, Nat.mul_one]
    exact toList_madeCells_one _ _
  have hct := run_text9 (l := List.replicate 65536 (0 : UInt8)) (by rw [← hm]; exact hown)
  have hz6 : (List.replicate 65536 (0 : UInt8)).length = 65536 := List.length_replicate
  have h06 : ∀ x ∈ List.replicate 65536 (0 : UInt8), x = 0 := fun x hx => List.eq_of_mem_replicate hx
  obtain ⟨Z, hZ⟩ : ∃ Z, List.replicate 65536 (0 : UInt8) = Z := ⟨_, rfl⟩
  rw [hZ] at hct hz6 h06
  obtain ⟨z, hz⟩ : ∃ z : ByteArray, (⟨Z.toArray⟩ : ByteArray) = z := ⟨_, rfl⟩
  rw [hz] at hct
  have hzs : z.size = 65536 := by rw [← hz, ← hz6]; simp [ByteArray.size]
  have hz0s : ∀ x ∈ nB (B z), x = 0 := fun x hx => by
    rw [← hz] at hx
    obtain ⟨y, hy, rfl⟩ := List.mem_map.1 hx
    rw [h06 y (by simpa [B] using hy)]
    rfl
  obtain ⟨f1, f2, f3⟩ := exS z hzs hz0s
  have HST := Lib.hid (fun w => stored_walk z w (by omega))
  obtain ⟨P, hP⟩ : ∃ P, storedN z = P := ⟨_, rfl⟩
  rw [hP] at f1 f2 f3
  simp only [hP] at HST
  have HX := Lib.hid (HX.out.trans hx2)
  have HS := Lib.hid (HS.out.quiet hx2)
  have HF := Lib.hid (⟨f1, f2, f3⟩ : _ ∧ _ ∧ _)
  clear hown hgrow hx2 hm hZ hz6 h06 hz hzs hz0s f1 f2 f3 hP
  obtain ⟨gz, hgz⟩ : ∃ gz, w2.heap.size = gz := ⟨_, rfl⟩
  rw [hgz] at hmk hct
  clear hgz
  go_wp2_with fail
  refine (HST.out _).mono ?_
  rintro e w4 ⟨rfl, hx⟩
  have HX := Lib.hid (HX.out.trans hx)
  have HS := Lib.hid (HS.out.quiet hx)
  clear hx hmk hct HST
  go_wp2_with fail
  refine (lives10 w4).mono ?_
  rintro e w5 ⟨rfl, hx⟩
  have HX := Lib.hid (HX.out.trans hx)
  have HS := Lib.hid (HS.out.quiet hx)
  clear hx
  obtain ⟨x1, x2, x3, x4, x5, x6⟩ := exC_at
  have c1 := row_at (g := g1) (HS.out.get 0 rfl) (k := 97) (by rw [x5]; decide)
  have c2 := row_at (g := g1) (HS.out.get 0 rfl) (k := 285) (by rw [x5]; decide)
  have c3 := row_at (g := g1) (HS.out.get 0 rfl) (k := 256) (by rw [x5]; decide)
  have c4 := row_at (g := g2) (HS.out.get 1 rfl) (k := 0) (by rw [x6]; decide)
  rw [x1] at c1
  rw [x2] at c2
  rw [x3] at c3
  rw [x4] at c4
  clear x1 x2 x3 x4 x5 x6
  go_wp2_with fail
  refine (stored_walk ⟨#[]⟩ w5 (by decide)).mono ?_
  rw [exn_1]
  rintro e w6 ⟨rfl, hx⟩
  have HX := Lib.hid (HX.out.trans hx)
  clear hx HS c1 c2 c3 c4
  go_wp2_with fail
  refine (fixedD_walk ⟨#[]⟩ w6 (by decide)).mono ?_
  rw [exn_2]
  rintro e w7 ⟨rfl, hx⟩
  have HX := Lib.hid (HX.out.trans hx)
  clear hx
  go_wp2_with fail
  refine (best_walk ⟨#[]⟩ w7 (by decide)).mono ?_
  rw [exn_3]
  rintro e w8 ⟨rfl, hx⟩
  have HX := Lib.hid (HX.out.trans hx)
  have hp1 := HF.out.1
  have hp2 : ((P.extract 0 5).toList == [0, 255, 255, 0, 0]) = true := by rw [HF.out.2.1, ByteArray.toList_eq]; rfl
  have hp3 : ((P.extract 65540 65546).toList == [1, 1, 0, 254, 255, 0]) = true := by rw [HF.out.2.2, ByteArray.toList_eq]; rfl
  clear hx
  go_wp2_with fail
  go_ret
  exact ⟨rfl, HX.out⟩
end Go.Proofs.Ytapcfffmgdpmcaa.De
