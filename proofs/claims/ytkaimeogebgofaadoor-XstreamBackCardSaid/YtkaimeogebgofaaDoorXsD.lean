/-
  xstream.Put walked, to its end.
-/
import Derived.Test.YtkaimeogebgofaaDoorXsC
namespace Go.Proofs.YtkaimeogebgofaaDoor.Xs
open Go.RowKit
open Go.Proofs.YtkaimeogebgofaaDoor.Tr

theorem rowU_c8 (x : En) : (rowU x).map c8 = [.int .u8 (x.kind % 256), .int .u8 (x.a / 16777216 % 256), .int .u8 (x.a / 65536 % 256), .int .u8 (x.a / 256 % 256), .int .u8 (x.a % 256), .int .u8 (x.b / 256 % 256), .int .u8 (x.b % 256)] := by
  show [c8 _, c8 _, c8 _, c8 _, c8 _, c8 _, c8 _] = _
  rw [u8_val, u8_val, u8_val, u8_val, u8_val, u8_val, u8_val]
theorem rows_put {l : List En} {k : Nat} {y : En} (h : k < l.length) : (rowsU (l.set k y)).map c8 =
    (((((((((rowsU l).map c8).set (7 * k) (.int .u8 (y.kind % 256))).set (7 * k + 1) (.int .u8 (y.a / 16777216 % 256))).set (7 * k + 2) (.int .u8 (y.a / 65536 % 256))).set (7 * k + 3) (.int .u8 (y.a / 256 % 256))).set (7 * k + 4) (.int .u8 (y.a % 256))).set (7 * k + 5) (.int .u8 (y.b / 256 % 256))).set (7 * k + 6) (.int .u8 (y.b % 256))) := by
  rw [← set7 _ _ _ _ _ _ _ (7 * k) ((rowsU l).map c8) (by rw [List.length_map, rowsU_len]; omega), rowsU_set l k y h, List.map_append, List.map_append, rowU_c8, List.map_take, List.map_drop]
theorem st21 {w W : World} {A : Ob} {G M i : Nat} {xs : List Value} {u : Value} (S : Sep w W [A, oSl 5 1 (.slice (some ⟨G, 0, none⟩) M M) M xs]) : Sep w (W.setCell ⟨G, i, none⟩ u) [A, oSl 5 1 (.slice (some ⟨G, 0, none⟩) M M) M (xs.set i u)] :=
  S.upd 1 (oSl 5 1 (.slice (some ⟨G, 0, none⟩) M M) M (xs.set i u)) rfl ((Ext.refl _ W).setCell _ _ (.inl (by simp [oSl, Value.ownBlock]))) (Fr.refl _ _) (row_put (S.get 1 rfl) u)
theorem at21 {w W : World} {A : Ob} {G M : Nat} {xs : List Value} (S : Sep w W [A, oSl 5 1 (.slice (some ⟨G, 0, none⟩) M M) M xs]) (hl : xs.length = M) {i : Nat} (hi : i < M) : W.cell? ⟨G, i, none⟩ = some (xs[i]'(by omega)) ∧ W.frozen? ⟨G, i, none⟩ = false :=
  ⟨row_cell (S.get 1 rfl) (List.getElem?_eq_getElem (by omega)), row_free (S.get 1 rfl) i⟩
theorem ne21 {w W : World} {p : Nat} {O : Obj} {G M : Nat} {xs : List Value} (S : Sep w W [Ob.one p O, oSl 5 1 (.slice (some ⟨G, 0, none⟩) M M) M xs]) : p ≠ G := fun e =>
  S.apart 0 1 _ _ rfl rfl (by omega) p (by simp [Ob.one]) (by simp [oSl, Value.ownBlock, e])
set_option maxRecDepth 100000 in
set_option maxHeartbeats 8000000 in
theorem put21_walk (v : Value) (l : List En) (size : Int) (w : World) (h : EnsAt w v l) (hl : l.length ≤ 1048576) (hs : size ≤ 300) (hsb : -9223372036854775808 ≤ size) :
    Calls Tryd.prog 5 #[v, .int .i64 size] w fun e w' => e = .returned (.tuple #[.string (S8 (putN l size).1), .int .i64 (putN l size).2]) ∧ Ext [] w w' := by
  have HC := Lib.hid (fun W (hx : Ext [] w W) => sec_walk v l W (h.ext hx) (by omega))
  have HB0 := Lib.hid (heap_alloc_at (w := w) (.cells #[.int .i64 size] 3))
  have HX0 := Lib.hid ((Ext.refl [] w).alloc (.cells #[.int .i64 size] 3))
  obtain ⟨q, hq⟩ : ∃ q, w.heap.size = q := ⟨_, rfl⟩
  rw [hq] at HB0
  have hh := Lib.hid h
  cases hsec : secN none l with
  | false =>
    have hR : putN l size = ([], 2) := by rw [putN, hsec]; rfl
    have hc : secC l = 2 := by rw [secC, hsec]; rfl
    rw [hR]
    rw [hc] at HC
    obtain ⟨base, cap, rfl, -, -⟩ := h
    clear hR hc hsec hq
    go_enter Tryd.func5, Tryd.ntmps5
    go_wp2_with fail
    refine (HC.out _ HX0.out).mono ?_
    rintro e w1 ⟨rfl, hx⟩
    have HX := Lib.hid (HX0.out.trans hx)
    clear hx HC
    go_wp2_with fail
    go_ret2
    exact ⟨rfl, HX.out⟩
  | true =>
  have hc : secC l = 0 := by rw [secC, hsec]; rfl
  rw [hc] at HC
  by_cases hneg : size < 0
  · have hR : putN l size = ([], 2) := by rw [putN, hsec, putBad, decide_eq_true hneg]; rfl
    rw [hR]
    obtain ⟨base, cap, rfl, -, -⟩ := h
    clear hR hc hsec
    go_enter Tryd.func5, Tryd.ntmps5
    go_wp2_with fail
    refine (HC.out _ HX0.out).mono ?_
    rintro e w1 ⟨rfl, hx⟩
    have hb := hx.keep HB0.out (by simp)
    have q0 := cellOf hb 0
    have HX := Lib.hid (HX0.out.trans hx)
    clear hx HC hb hq
    go_wp2_with fail
    go_ret2
    exact ⟨rfl, HX.out⟩
  have HCo := Lib.hid (fun W (hx : Ext [] w W) (hw : W.cell? ⟨q, 0, none⟩ = some (.int .i64 size)) => cont21_walk v l size q W (h.ext hx) hw hl)
  have hbig : decide (8388608 < size) = false := decide_eq_false (by omega)
  have hng : decide (size < 0) = false := decide_eq_false hneg
  cases hbad : l.any (badE size) with
  | true =>
    have hR : putN l size = ([], 2) := by
      rw [putN, hsec, putBad, hng, hbig, show (l.any fun x => decide (size ≤ x.num) || decide (4294967295 < x.a)) = true from hbad]
      rfl
    rw [hR]
    rw [hbad] at HCo
    obtain ⟨base, cap, rfl, -, -⟩ := h
    clear hR hc hsec hbad
    go_enter Tryd.func5, Tryd.ntmps5
    go_wp2_with fail
    refine (HC.out _ HX0.out).mono ?_
    rintro e w1 ⟨rfl, hx⟩
    have hb := hx.keep HB0.out (by simp)
    have q0 := cellOf hb 0
    have HX := Lib.hid (HX0.out.trans hx)
    clear hx HC hb hq
    go_wp2_with fail
    refine (HCo.out _ HX.out q0).mono ?_
    rintro e w2 ⟨rfl, hx2⟩
    have HX2 := Lib.hid (HX.out.trans hx2)
    clear hx2 HCo q0
    go_wp2_with fail
    go_ret2
    exact ⟨rfl, HX2.out⟩
  | false =>
  obtain ⟨N, rfl⟩ : ∃ N : Nat, size = (N : Int) := ⟨size.toNat, by omega⟩
  have hR : putN l N = (rowsU (allF N 0 l), 0) := by
    rw [putN, hsec, putBad, hng, hbig, show (l.any fun x => decide ((N : Int) ≤ x.num) || decide (4294967295 < x.a)) = false from hbad, Int.toNat_natCast]
    rfl
  rw [hR]
  rw [hbad] at HCo
  have hup := up_none hsec
  have hmem : ∀ x ∈ l, 0 ≤ x.num ∧ x.num < N ∧ 0 ≤ x.kind ∧ 0 ≤ x.a ∧ 0 ≤ x.b := fun x hx => by
    have h1 := may_facts (secN_mem l none hsec x hx).1
    have h2 := (List.any_eq_false.1 hbad) x hx
    simp [badE] at h2
    omega
  have HM := Lib.hid (⟨hup, hmem⟩ : _ ∧ _)
  have h7 : (7 : Int) * (N : Int) = ((7 * N : Nat) : Int) := by omega
  obtain ⟨M, hM⟩ : ∃ M, 7 * N = M := ⟨_, rfl⟩
  rw [hM] at h7
  have hM3 : M ≤ 2100 := by omega
  obtain ⟨i0, hif, hz0, hz1, hz2⟩ := info_parts infoB21
  have HMk := Lib.hid (fun W => run_make_full (P := Tryd.prog) W 0 38 5 i0 (.int .u8 0) 1 Tryd.underlying38 hif hz0 hz1 .i64 .i64 M (by rw [hz2]; omega) (by unfold maxLen; omega) (by omega))
  obtain ⟨base, cap, rfl, -, hT⟩ := h
  obtain ⟨n, hln⟩ : ∃ n, l.length = n := ⟨_, rfl⟩
  have HH := Lib.hid (⟨hT, hln, hM⟩ : _ ∧ _ ∧ _)
  rw [hln] at HC HCo hl ⊢
  clear hR hc hsec hbad hup hmem hT hln hM hneg hh hbig hng
  go_enter Tryd.func5, Tryd.ntmps5
  go_wp2_with fail
  refine (HC.out _ HX0.out).mono ?_
  rintro e w1 ⟨rfl, hx⟩
  have hb := hx.keep HB0.out (by simp)
  have q0 := cellOf hb 0
  have HX := Lib.hid (HX0.out.trans hx)
  clear hx HC hb hq
  go_wp2_with fail
  refine (HCo.out _ HX.out q0).mono ?_
  rintro e w2 ⟨rfl, hx2⟩
  have q0 := hx2.cell q0
  have HX2 := Lib.hid (HX.out.trans hx2)
  clear hx2 HCo HX
  obtain ⟨w3, hmk, hown, hgrow⟩ := HMk.out w2
  have hx3 : Ext [] w2 w3 := (Ext.refl [] w2).grown hgrow (fun k hk => by cases hk)
  have S := ((Sep.start w).quiet HX2.out).new hx3 (oSl 5 1 (.slice (some ⟨w2.heap.size, 0, none⟩) M M) M ((rowsU (allF N 0 (l.take 0))).map c8)) (by
    have hm : (madeCells (Value.int .u8 0).cells (M * 1)).toList = (rowsU (allF N 0 (l.take 0))).map c8 := by
      rw [List.take_zero, allF_free, List.map_replicate, Nat.mul_one, HH.out.2.2]
      exact toList_madeCells_one _ _
    rw [← hm]; exact hown) (fun k hk => by simp [oSl, Value.ownBlock] at hk; omega)
  obtain ⟨G, hG⟩ : ∃ G, w2.heap.size = G := ⟨_, rfl⟩
  rw [hG] at hmk S
  have HS := Lib.hid S
  clear S hown hgrow hx3 hG HMk
  go_wp2_with fail
  clear hmk q0
  go_loopg [9, 10, 32] n (fun g v9 v10 iv wr => ∃ i : Nat, g + i = n ∧ iv = .int .i64 i ∧ Sep w wr [oSl 5 1 (.slice (some ⟨G, 0, none⟩) M M) M ((rowsU (allF N 0 (l.take i))).map c8)])
  case atStart => exact ⟨0, by omega, rfl, HS.out⟩
  case round =>
    clear HS
    obtain ⟨i, hgi, rfl, S⟩ := hrel
    by_cases hlt : i < n
    case neg =>
      obtain rfl : gk = 0 := by omega
      have hfull : l.take i = l := List.take_of_length_le (by rw [HH.out.2.1]; omega)
      rw [hfull] at S
      have hrow : wr.ownsRow 0 5 1 (.slice (some ⟨G, 0, none⟩) M M) M _ := S.get 0 rfl
      have hct := run_text21 hrow
      have HF := Lib.hid S.ext
      clear S hrow hfull
      go_wp2_with fail
      go_ret2
      exact ⟨rfl, HF.out⟩
    case pos =>
    obtain ⟨g, rfl⟩ : ∃ g, gk = g + 1 := ⟨gk - 1, by omega⟩
    have hltz : (i : Int) < (n : Int) := by omega
    have hil : i < l.length := by rw [HH.out.2.1]; exact hlt
    obtain ⟨b, o, rfl, n1, n2, n3, n4⟩ := HH.out.1.ext S.ext i hil
    obtain ⟨hx1, hx2, hx3, hx4, hx5⟩ := HM.out.2 _ (List.getElem_mem hil)
    have htk : l.take (i + 1) = l.take i ++ [l[i]'hil] := by rw [List.take_succ_eq_append_getElem hil]
    have hupk := up_take l 0 (i + 1) HM.out.1
    rw [htk] at hupk
    generalize l[i]'hil = x at *
    obtain ⟨z, hz⟩ : ∃ z : Nat, x.num = (z : Int) := ⟨x.num.toNat, by omega⟩
    have hsn := allF_snoc N 0 (l.take i) x z hupk (by rw [hz]; omega) (by omega)
    have hrp := rows_put (l := allF N 0 (l.take i)) (k := z) (y := x) (by rw [allF_len]; omega)
    rw [← hsn, ← htk] at hrp
    have HQ := Lib.hid (⟨hrp, S⟩ : _ ∧ _)
    clear hrp hsn hupk htk S
    obtain ⟨P, hP⟩ : ∃ P, 7 * z = P := ⟨_, rfl⟩
    rw [hP] at HQ
    have hP7 : (7 : Int) * x.num = (P : Int) := by rw [hz]; omega
    have hPM : P + 7 ≤ M := by have := HH.out.2.2; omega
    have hPMz : (P : Int) + 7 ≤ (M : Int) := by omega
    have hPz : (0 : Int) ≤ (P : Int) := by omega
    clear hP hz
    go_upto_region 10 with (fail)
    obtain ⟨W, hW⟩ : ∃ W, wr.alloc (Obj.cells #[.int .i64 x.num, .int .i64 x.kind, .int .i64 x.a, .int .i64 x.b] 32) = W := ⟨_, rfl⟩
    have hxW : Ext [] wr W := by rw [← hW]; exact (Ext.refl [] wr).alloc _
    have hb := heap_alloc_at (w := wr) (Obj.cells #[.int .i64 x.num, .int .i64 x.kind, .int .i64 x.a, .int .i64 x.b] 32)
    rw [hW] at hb ⊢
    obtain ⟨p, hp⟩ : ∃ p, wr.heap.size = p := ⟨_, rfl⟩
    have S := HQ.out.2.new hxW (Ob.one p (.cells #[.int .i64 x.num, .int .i64 x.kind, .int .i64 x.a, .int .i64 x.b] 32)) (by rw [← hp]; exact hb) (fun k hk => by simp [Ob.one] at hk; omega)
    rw [hp] at hb ⊢
    have k0 := cellOf hb 0
    have HSW := Lib.hid S
    clear hW hxW hb hp S n1 n2 n3 n4
    go_upto_region 11 with (fail)
    rw [show P + 7 - P = 7 from by omega]
    obtain ⟨cp, hcp⟩ : ∃ cp, M - P = cp := ⟨_, rfl⟩
    rw [hcp]
    obtain ⟨xs, hxs⟩ : ∃ xs, (rowsU (allF N 0 (l.take i))).map c8 = xs := ⟨_, rfl⟩
    rw [hxs] at HSW HQ
    have hlen : xs.length = M := by rw [← hxs, List.length_map, rowsU_len, allF_len]; exact HH.out.2.2
    have HL := Lib.hid hlen
    clear hxs hlen hcp k0
    have hb : W.heap[p]? = some _ := HSW.out.get 0 rfl
    have k1 := cellOf hb 1
    obtain ⟨g0, f0⟩ := at21 HSW.out HL.out (i := P) (by omega)
    clear hb
    go_upto_region 12 with (fail)
    obtain ⟨W1, hW1⟩ : ∃ W1, W.setCell ⟨G, P, none⟩ (.int .u8 (x.kind % 256)) = W1 := ⟨_, rfl⟩
    have S1 := st21 (i := P) (u := .int .u8 (x.kind % 256)) HSW.out
    rw [hW1] at S1 ⊢
    have HS1 := Lib.hid S1
    clear hW1 S1 g0 f0 k1
    obtain ⟨xs1, hxs1⟩ : ∃ xs1, xs.set P (.int .u8 (x.kind % 256)) = xs1 := ⟨_, rfl⟩
    rw [hxs1] at HS1
    have HL1 := Lib.hid (show xs1.length = M by rw [← hxs1, List.length_set]; exact HL.out)
    have HE1 := Lib.hid hxs1
    clear hxs1
    have hb : W1.heap[p]? = some _ := HS1.out.get 0 rfl
    have k2 : ∀ y : ExS [G] W1, y.w.cell? ⟨p, 2, none⟩ = some (.int .i64 x.a) := fun y => cellOf (y.heap hb (by simpa using ne21 HS1.out)) 2
    clear hb
    refine wp_region_perm (C := fun w' => ∃ y : ExS [G] W1, w' = y.w) [0, 1, 2, 3, 4, 5, 6, 7, 8, 9, 10, 11, 12, 13, 14, 15, 16, 17, 18] 25 (by kernel_rfl) (by kernel_rfl) ⟨ExS.mk _ ((Ext.refl _ W1).drew), rfl⟩ ?_
    simp only [pick, List.getElem?_toArray, List.getElem?_cons_zero, List.getElem?_cons_succ, List.drop_succ_cons, List.drop_zero]
    repeat (go_big_quiet_step (fail))
    refine wpQuiet_nil ?_
    clear k2
    have hx0 : Ext [G] W1 W1.drew := (Ext.refl _ W1).drew
    have HSa := Lib.hid (HS1.out.quiet ((Ext.refl [] W1).drew))
    obtain ⟨V1, hV⟩ : ∃ V, W1.drew = V := ⟨_, rfl⟩
    rw [hV] at HSa hx0 ⊢
    clear HS1
    have HS1 := HSa
    clear HSa
    have HX1 := Lib.hid hx0
    clear hx0 hV
    refine anyC_one (f := 5) (i := 19) (by kernel_rfl) (by decide) rfl rfl (fun K9 hK9 => ?_)
    go_wp2_with fail
    refine hK9 _ _ ⟨ExS.mk V1 HX1.out, rfl⟩ ?_
    clear hK9 K9
    refine anyC_one (f := 4) (i := 20) (by kernel_rfl) (by decide) rfl rfl (fun K9 hK9 => ?_)
    obtain ⟨g0, f0⟩ := at21 HS1.out HL1.out (i := P + 1) (by omega)
    go_wp2_with fail
    have hx0 : Ext [G] W1 (V1.setCell ⟨G, P + 1, none⟩ (.int .u8 (x.a / 16777216 % 256))) := HX1.out.setCell _ _ (.inl (by simp))
    refine hK9 _ _ ⟨ExS.mk _ hx0, rfl⟩ ?_
    clear hK9 K9 g0 f0
    have S0 := st21 (i := P + 1) (u := .int .u8 (x.a / 16777216 % 256)) HS1.out
    obtain ⟨V2, hV⟩ : ∃ V, V1.setCell ⟨G, P + 1, none⟩ (.int .u8 (x.a / 16777216 % 256)) = V := ⟨_, rfl⟩
    rw [hV] at S0 hx0 ⊢
    obtain ⟨xs2, hxs⟩ : ∃ ys, xs1.set (P + 1) (.int .u8 (x.a / 16777216 % 256)) = ys := ⟨_, rfl⟩
    rw [hxs] at S0
    have HS2 := Lib.hid S0
    have HX2 := Lib.hid hx0
    have HL2 := Lib.hid (show xs2.length = M by rw [← hxs, List.length_set]; exact HL1.out)
    have HE2 := Lib.hid hxs
    clear S0 hx0 hV hxs
    refine anyC_one (f := 3) (i := 21) (by kernel_rfl) (by decide) rfl rfl (fun K9 hK9 => ?_)
    go_wp2_with fail
    refine hK9 _ _ ⟨ExS.mk V2 HX2.out, rfl⟩ ?_
    clear hK9 K9
    refine anyC_one (f := 2) (i := 22) (by kernel_rfl) (by decide) rfl rfl (fun K9 hK9 => ?_)
    obtain ⟨g0, f0⟩ := at21 HS2.out HL2.out (i := P + 2) (by omega)
    go_wp2_with fail
    have hx0 : Ext [G] W1 (V2.setCell ⟨G, P + 2, none⟩ (.int .u8 (x.a / 65536 % 256))) := HX2.out.setCell _ _ (.inl (by simp))
    refine hK9 _ _ ⟨ExS.mk _ hx0, rfl⟩ ?_
    clear hK9 K9 g0 f0
    have S0 := st21 (i := P + 2) (u := .int .u8 (x.a / 65536 % 256)) HS2.out
    obtain ⟨V3, hV⟩ : ∃ V, V2.setCell ⟨G, P + 2, none⟩ (.int .u8 (x.a / 65536 % 256)) = V := ⟨_, rfl⟩
    rw [hV] at S0 hx0 ⊢
    obtain ⟨xs3, hxs⟩ : ∃ ys, xs2.set (P + 2) (.int .u8 (x.a / 65536 % 256)) = ys := ⟨_, rfl⟩
    rw [hxs] at S0
    have HS3 := Lib.hid S0
    have HX3 := Lib.hid hx0
    have HL3 := Lib.hid (show xs3.length = M by rw [← hxs, List.length_set]; exact HL2.out)
    have HE3 := Lib.hid hxs
    clear S0 hx0 hV hxs
    refine anyC_one (f := 1) (i := 23) (by kernel_rfl) (by decide) rfl rfl (fun K9 hK9 => ?_)
    go_wp2_with fail
    refine hK9 _ _ ⟨ExS.mk V3 HX3.out, rfl⟩ ?_
    clear hK9 K9
    refine anyC_one (f := 0) (i := 24) (by kernel_rfl) (by decide) rfl rfl (fun K9 hK9 => ?_)
    obtain ⟨g0, f0⟩ := at21 HS3.out HL3.out (i := P + 3) (by omega)
    go_wp2_with fail
    have hx0 : Ext [G] W1 (V3.setCell ⟨G, P + 3, none⟩ (.int .u8 (x.a / 256 % 256))) := HX3.out.setCell _ _ (.inl (by simp))
    refine hK9 _ _ ⟨ExS.mk _ hx0, rfl⟩ ?_
    clear hK9 K9 g0 f0
    have S0 := st21 (i := P + 3) (u := .int .u8 (x.a / 256 % 256)) HS3.out
    obtain ⟨V4, hV⟩ : ∃ V, V3.setCell ⟨G, P + 3, none⟩ (.int .u8 (x.a / 256 % 256)) = V := ⟨_, rfl⟩
    rw [hV] at S0 hx0 ⊢
    obtain ⟨xs4, hxs⟩ : ∃ ys, xs3.set (P + 3) (.int .u8 (x.a / 256 % 256)) = ys := ⟨_, rfl⟩
    rw [hxs] at S0
    have HS4 := Lib.hid S0
    have HX4 := Lib.hid hx0
    have HL4 := Lib.hid (show xs4.length = M by rw [← hxs, List.length_set]; exact HL3.out)
    have HE4 := Lib.hid hxs
    clear S0 hx0 hV hxs
    refine ⟨by kernel_rfl, ?_⟩
    obtain ⟨g0, f0⟩ := at21 HS4.out HL4.out (i := P + 4) (by omega)
    go_wp2_with fail
    refine NoPanic.normal ?_
    have S0 := st21 (i := P + 4) (u := .int .u8 (x.a % 256)) HS4.out
    clear g0 f0
    obtain ⟨U5, hV⟩ : ∃ V, V4.setCell ⟨G, P + 4, none⟩ (.int .u8 (x.a % 256)) = V := ⟨_, rfl⟩
    rw [hV] at S0 ⊢
    obtain ⟨xs5, hxs⟩ : ∃ ys, xs4.set (P + 4) (.int .u8 (x.a % 256)) = ys := ⟨_, rfl⟩
    rw [hxs] at S0
    have HT5 := Lib.hid S0
    have HL5' := Lib.hid (show xs5.length = M by rw [← hxs, List.length_set]; exact HL4.out)
    have HE5 := Lib.hid hxs
    clear S0 hV hxs
    go_upto_region 13 with (fail)
    have hb : U5.heap[p]? = some _ := HT5.out.get 0 rfl
    have k2 : ∀ y : ExS [G] U5, y.w.cell? ⟨p, 3, none⟩ = some (.int .i64 x.b) := fun y => cellOf (y.heap hb (by simpa using ne21 HT5.out)) 3
    clear hb
    refine wp_region_perm (C := fun w' => ∃ y : ExS [G] U5, w' = y.w) [0, 1, 2, 3, 4, 5, 6, 7, 8] 11 (by kernel_rfl) (by kernel_rfl) ⟨ExS.mk _ ((Ext.refl _ U5).drew), rfl⟩ ?_
    simp only [pick, List.getElem?_toArray, List.getElem?_cons_zero, List.getElem?_cons_succ, List.drop_succ_cons, List.drop_zero]
    repeat (go_big_quiet_step (fail))
    refine wpQuiet_nil ?_
    clear k2
    have hx0 : Ext [G] U5 U5.drew := (Ext.refl _ U5).drew
    have HS5 := Lib.hid (HT5.out.quiet ((Ext.refl [] U5).drew))
    obtain ⟨V5, hV⟩ : ∃ V, U5.drew = V := ⟨_, rfl⟩
    rw [hV] at HS5 hx0 ⊢
    have HX5 := Lib.hid hx0
    clear hx0 hV
    have HL5 := Lib.hid HL5'.out
    refine anyC_one (f := 1) (i := 9) (by kernel_rfl) (by decide) rfl rfl (fun K9 hK9 => ?_)
    go_wp2_with fail
    refine hK9 _ _ ⟨ExS.mk V5 HX5.out, rfl⟩ ?_
    clear hK9 K9
    refine anyC_one (f := 0) (i := 10) (by kernel_rfl) (by decide) rfl rfl (fun K9 hK9 => ?_)
    obtain ⟨g0, f0⟩ := at21 HS5.out HL5.out (i := P + 5) (by omega)
    go_wp2_with fail
    have hx0 : Ext [G] U5 (V5.setCell ⟨G, P + 5, none⟩ (.int .u8 (x.b / 256 % 256))) := HX5.out.setCell _ _ (.inl (by simp))
    refine hK9 _ _ ⟨ExS.mk _ hx0, rfl⟩ ?_
    clear hK9 K9 g0 f0
    have S0 := st21 (i := P + 5) (u := .int .u8 (x.b / 256 % 256)) HS5.out
    obtain ⟨V6, hV⟩ : ∃ V, V5.setCell ⟨G, P + 5, none⟩ (.int .u8 (x.b / 256 % 256)) = V := ⟨_, rfl⟩
    rw [hV] at S0 hx0 ⊢
    obtain ⟨xs6, hxs⟩ : ∃ ys, xs5.set (P + 5) (.int .u8 (x.b / 256 % 256)) = ys := ⟨_, rfl⟩
    rw [hxs] at S0
    have HS6 := Lib.hid S0
    have HX6 := Lib.hid hx0
    have HL6 := Lib.hid (show xs6.length = M by rw [← hxs, List.length_set]; exact HL5.out)
    have HE6 := Lib.hid hxs
    clear S0 hx0 hV hxs
    refine ⟨by kernel_rfl, ?_⟩
    obtain ⟨g0, f0⟩ := at21 HS6.out HL6.out (i := P + 6) (by omega)
    go_wp2_with fail
    refine NoPanic.normal ?_
    have S0 := st21 (i := P + 6) (u := .int .u8 (x.b % 256)) HS6.out
    clear g0 f0
    obtain ⟨U7, hV⟩ : ∃ V, V6.setCell ⟨G, P + 6, none⟩ (.int .u8 (x.b % 256)) = V := ⟨_, rfl⟩
    rw [hV] at S0 ⊢
    obtain ⟨xs7, hxs⟩ : ∃ ys, xs6.set (P + 6) (.int .u8 (x.b % 256)) = ys := ⟨_, rfl⟩
    rw [hxs] at S0
    have HT7 := Lib.hid S0
    have HL7' := Lib.hid (show xs7.length = M by rw [← hxs, List.length_set]; exact HL6.out)
    have HE7 := Lib.hid hxs
    clear S0 hV hxs
    go_wp2_with fail
    go_roundg g
    case measure => omega
    case rel =>
      refine ⟨i + 1, by omega, by go_num, ?_⟩
      have S9 := Sep.tail HT7.out
      rw [← HE7.out, ← HE6.out, ← HE5.out, ← HE4.out, ← HE3.out, ← HE2.out, ← HE1.out, ← HQ.out.1] at S9
      exact S9
end Go.Proofs.YtkaimeogebgofaaDoor.Xs
