/-
  inflate: the argument []Step; spelt walked.
-/
import Derived.Test.YtgjenpdppobpkaaIqA
import Derived.Deep.DeepCutAuto
namespace Go.Proofs.Ytgjenpdppobpkaa.If
open Go.RowKit Bt Hu
open Go.ChangeShapes Go.WideShapes

theorem cellsStep : Try.prog.cellsOf 54 = 3 := by kernel_rfl
theorem cellsByteS : Try.prog.cellsOf 5 = 1 := by kernel_rfl
theorem cellsIntS : Try.prog.cellsOf 3 = 1 := by kernel_rfl
/-- the value v is a slice of the steps l -/
def SxAt (w : World) (v : Value) (l : List Sx) : Prop :=
  ∃ ao cap, v = .slice ao l.length cap ∧ (0 < l.length → ∃ b off, ao = some ⟨b, off, none⟩ ∧ ∀ i x, l[i]? = some x → w.cell? ⟨b, off + i * 3, none⟩ = some (.int .u8 (x.1.toNat : Int)) ∧ w.cell? ⟨b, off + i * 3 + 1, none⟩ = some (.int .i64 x.2.1) ∧ w.cell? ⟨b, off + i * 3 + 2, none⟩ = some (.int .i64 x.2.2))
theorem SxAt.ext {w w' : World} {v : Value} {l : List Sx} (h : SxAt w v l) (hx : Ext [] w w') : SxAt w' v l := by
  obtain ⟨ao, cap, rfl, hc⟩ := h
  refine ⟨ao, cap, rfl, fun hn => ?_⟩
  obtain ⟨b, off, rfl, h⟩ := hc hn
  exact ⟨b, off, rfl, fun i x hi => ⟨Ext.cell hx (h i x hi).1, Ext.cell hx (h i x hi).2.1, Ext.cell hx (h i x hi).2.2⟩⟩
def SxArg (w : World) (v : Value) (l : List Sx) : Prop := SxAt w v l ∧ (∃ ao cap, v = .slice ao l.length cap ∧ l.length ≤ cap ∧ cap ≤ maxLen ∧ (ao = none → cap = 0)) ∧ ∀ x ∈ l, (-9223372036854775808 ≤ x.2.1 ∧ x.2.1 ≤ 9223372036854775807) ∧ (-9223372036854775808 ≤ x.2.2 ∧ x.2.2 ≤ 9223372036854775807)
set_option maxRecDepth 100000 in
theorem open_sxs {H : Type} {enc : TypeId × Value → H} {w : World} {base : Nat} {sp : Nat → Bool} {held : Bool} {r : Reach} {b0 : Nat} {v : Value} {d : DataW H} {ps : List MemPlace} (hval : Value.okWide Try.prog w r b0 22 v) (hd : DataW.Trod enc Try.prog w base sp held 22 v d ps) :
    ∃ l, SxArg w v l := by
  obtain ⟨a0, len0, cap0, rfl⟩ := okWide_slice Try.underlying22 hval
  obtain ⟨fuel, hf⟩ := hd
  simp only [Value.cells] at hf
  rcases Go.Deep.open_slice Try.underlying22 hf with ⟨hc, _⟩ | ⟨a, len, cap, m, n, D, Pl, hc, _, hl, hm, hmm, _, hx⟩
  · obtain ⟨rfl, rfl, rfl⟩ : a0 = none ∧ len0 = 0 ∧ cap0 = 0 := by simpa using hc
    exact ⟨[], ⟨none, 0, rfl, fun h => absurd h (Nat.lt_irrefl 0)⟩, ⟨none, 0, rfl, Nat.le_refl _, by unfold maxLen; omega, fun _ => rfl⟩, fun x h => by cases h⟩
  · obtain ⟨rfl, rfl, rfl⟩ : a0 = some a ∧ len0 = len ∧ cap0 = cap := by simpa using hc
    have hlm : len0 ≤ m := by rw [hmm]; split <;> omega
    have each : ∀ i, i < len0 → ∃ q : Sx, w.cell? (a.add (i * 3)) = some (.int .u8 (q.1.toNat : Int)) ∧ w.cell? ((a.add (i * 3)).add 1) = some (.int .i64 q.2.1) ∧ w.cell? ((a.add (i * 3)).add 2) = some (.int .i64 q.2.2) ∧ (-9223372036854775808 ≤ q.2.1 ∧ q.2.1 ≤ 9223372036854775807) ∧ (-9223372036854775808 ≤ q.2.2 ∧ q.2.2 ≤ 9223372036854775807) := by
      intro i hi
      obtain ⟨cs', h1, h2⟩ := hx i (by omega)
      rw [cellsStep] at h1
      obtain ⟨_, hlen, hcell⟩ := World.cells?_some h1
      obtain ⟨y0, y1, y2, k, _, _, g0, g1, g2⟩ := Go.Deep.trod_struct3 Try.underlying54 h2
      match cs', hlen with
      | [v0, v1, v2], _ =>
        have e0 := hcell 0 (by omega)
        have e1 := hcell 1 (by omega)
        have e2 := hcell 2 (by omega)
        simp [cellsByteS, cellsIntS] at g0 g1 g2
        obtain ⟨p, hp, _, hpw⟩ := DataW.trod_int Try.underlying5 g0
        obtain ⟨q, hq, _, hqw⟩ := DataW.trod_int Try.underlying3 g1
        obtain ⟨s, hs, _, hsw⟩ := DataW.trod_int Try.underlying3 g2
        obtain ⟨x, rfl⟩ := Kt.wf_u8 hpw
        simp only [List.cons.injEq, and_true] at hp hq hs
        subst hp hq hs
        exact ⟨(x, q, s), by rw [show (a.add (i * 3)).add 0 = a.add (i * 3) from by simp [Addr.add]] at e0; simpa using e0, by simpa using e1, by simpa using e2, Kt.wf_i64 hqw, Kt.wf_i64 hsw⟩
    obtain ⟨f, hf⟩ := Go.Deep.choose_lt each
    have hfl : ((List.range len0).map f).length = len0 := by simp
    refine ⟨(List.range len0).map f, ⟨some a, cap0, by rw [hfl], fun hn => ?_⟩, ⟨some a, cap0, by rw [hfl], by rw [hfl]; exact hl, hm, fun h => by cases h⟩, fun x hx => ?_⟩
    · rw [hfl] at hn
      have hspot : a.spot = none := by simpa [Addr.add] using World.cell?_spot (hf 0 hn).1
      obtain ⟨b, off, sp0⟩ := a
      obtain rfl : sp0 = none := hspot
      refine ⟨b, off, rfl, fun i x hi => ?_⟩
      have hi0 : i < len0 := by have := (List.getElem?_eq_some_iff.1 hi).1; omega
      rw [List.getElem?_map, List.getElem?_range hi0] at hi
      obtain rfl : f i = x := by simpa using hi
      obtain ⟨h0, h1, h2, _⟩ := hf i hi0
      have ad : ∀ k, (⟨b, off, none⟩ : Addr).add k = ⟨b, off + k, none⟩ := fun k => by unfold Addr.add; split <;> simp_all
      have ad2 : ∀ o k, (⟨b, o, none⟩ : Addr).add k = ⟨b, o + k, none⟩ := fun o k => by unfold Addr.add; split <;> simp_all
      rw [ad] at h0
      rw [ad, ad2] at h1 h2
      exact ⟨h0, h1, h2⟩
    · obtain ⟨i, hi, rfl⟩ := List.mem_map.1 hx
      exact (hf i (List.mem_range.1 hi)).2.2.2
theorem SxAt.take {w : World} {ao : Option Addr} {n cap : Nat} {l : List Sx} (h : SxAt w (.slice ao n cap) l) (c : Nat) (hc : c ≤ l.length) (cap2 : Nat) : SxAt w (.slice ao c cap2) (l.take c) := by
  obtain ⟨ao2, cap3, he, h⟩ := h
  injection he with h1 h2 h3
  subst h1
  have hl : (l.take c).length = c := by rw [List.length_take]; omega
  refine ⟨ao, cap2, by rw [hl], fun hn => ?_⟩
  obtain ⟨b, off, rfl, h2⟩ := h (by omega)
  refine ⟨b, off, rfl, fun i x hi => h2 i x ?_⟩
  rw [List.getElem?_take] at hi
  split at hi
  · exact hi
  · cases hi
theorem SxAt.drop {w : World} {b off n cap : Nat} {l : List Sx} (h : SxAt w (.slice (some ⟨b, off, none⟩) n cap) l) (c : Nat) (hc : c ≤ l.length) (cap2 : Nat) : SxAt w (.slice (some ⟨b, off + c * 3, none⟩) (l.length - c) cap2) (l.drop c) := by
  obtain ⟨ao2, cap3, he, h⟩ := h
  injection he with h1 h2 h3
  subst h1
  have hl : (l.drop c).length = l.length - c := by rw [List.length_drop]
  refine ⟨_, cap2, by rw [hl], fun hn => ?_⟩
  obtain ⟨b', off', e, h2⟩ := h (by omega)
  injection e with e
  injection e with e1 e2 _
  subst e1 e2
  refine ⟨b, off + c * 3, rfl, fun i x hi => ?_⟩
  rw [List.getElem?_drop] at hi
  have := h2 (c + i) x hi
  rw [show off + (c + i) * 3 = off + c * 3 + i * 3 by omega] at this
  exact this
abbrev oBy (ao : Option Addr) (cap : Nat) (o : List Nat) : Ob := oSl 5 1 (.slice ao o.length cap) o.length (o.map b8)
theorem wrL_bits (s : Nat) (h : s < 288) : cbits ((codesN fixL).getD ((s : Int)).toNat 0) (sizeZ fixL s).toNat = cbD fixL s := by
  have hl : fixL.length = 288 := by decide +kernel
  unfold cbD sizeZ
  rw [Int.toNat_natCast, if_neg (by omega)]
theorem sizeL_ne (s : Nat) (h : s < 288) : ¬ sizeZ fixL s = 0 := by
  have hl : fixL.length = 288 := by decide +kernel
  have := fixL_pos s h
  unfold sizeZ
  rw [Int.toNat_natCast, if_neg (by omega)]
  omega
theorem sizeD_ne (s : Nat) (h : s < 30) : ¬ sizeZ fixD s = 0 := by
  have hl : fixD.length = 30 := by decide +kernel
  have := fixD_pos s h
  unfold sizeZ
  rw [Int.toNat_natCast, if_neg (by omega)]
  omega
theorem wrD_bits (s : Nat) (h : s < 30) : cbits ((codesN fixD).getD ((s : Int)).toNat 0) (sizeZ fixD s).toNat = cbD fixD s := by
  have hl : fixD.length = 30 := by decide +kernel
  unfold cbD sizeZ
  rw [Int.toNat_natCast, if_neg (by omega)]
set_option maxRecDepth 100000 in
set_option maxHeartbeats 64000000 in
theorem spelt_walk (v : Value) (l : List Sx) (last wb : Nat) (Fw bl o : List Nat) (ao : Option Addr) (cap : Nat) {w0 w : World} (hlast : last ≤ 1) (hv : SxAt w0 v l) (hr : ∀ x ∈ l, (-9223372036854775808 ≤ x.2.1 ∧ x.2.1 ≤ 9223372036854775807) ∧ (-9223372036854775808 ≤ x.2.2 ∧ x.2.2 ≤ 9223372036854775807)) (hl : l.length ≤ 100) (hbl : bl.length ≤ 100000) (hol : o.length ≤ 100000) (S : Sep w0 w [oRw wb Fw bl, oBy ao cap o]) :
    Calls Try.prog 11 #[.pointer (some ⟨wb, 0, none⟩), .slice ao o.length cap, v, .int .u32 last] w fun e w' => ∃ ao' cap' Fw', e = .returned (.slice ao' (allO l o).length cap') ∧ Sep w0 w' [oRw wb Fw' (bl ++ blkS last l o), oBy ao' cap' (allO l o)] := by
  obtain ⟨i0, hif, hz0, hz1, hz2⟩ := info_parts infoByte
  have hL : fixL.length = 288 := by decide +kernel
  have hDl : fixD.length = 30 := by decide +kernel
  have eL : codesE fixL = 0 := by decide +kernel
  have eD : codesE fixD = 0 := by decide +kernel
  have HZ := Lib.hid (⟨hL, hDl, eL, eD, fun x hx => ((bad_false fixL_bad.1).2 x hx), fun x hx => ((bad_false fixD_bad.1).2 x hx)⟩ : _ ∧ _ ∧ _ ∧ _ ∧ (∀ x ∈ fixL, 0 ≤ x ∧ x ≤ 15) ∧ (∀ x ∈ fixD, 0 ≤ x ∧ x ≤ 15))
  obtain ⟨RB, hRB⟩ : ∃ RB, bl ++ blkS last l o = RB := ⟨_, rfl⟩
  obtain ⟨RO, hRO⟩ : ∃ RO, allO l o = RO := ⟨_, rfl⟩
  rw [hRB, hRO]
  have hb1 : RB.length ≤ 200000 := by
    have := (allS_facts l o).1
    rw [← hRB]
    unfold blkS
    simp only [List.length_append, bitsOf_length]
    omega
  have hb2 : RO.length ≤ 200000 := by
    have := (allO_len l o).2
    rw [← hRO]
    omega
  have HR := Lib.hid (⟨hRB, hRO, hb1, hb2⟩ : _ ∧ _ ∧ _ ∧ _)
  obtain ⟨ao0, cap0, rfl, hc⟩ := hv
  have HC := Lib.hid hc
  have HRG := Lib.hid hr
  have HS := Lib.hid S
  clear hL hDl eL eD hRB hRO hc hr S hb1 hb2
  go_enter Try.func11, Try.ntmps11
  go_wp2_with fail
  refine (dfixed_walk w).mono ?_
  rintro e w4 ⟨a1, c1, a2, c2, rfl, hx, o1, o2, _, _⟩
  have HS := Lib.hid (HS.out.quiet hx)
  have HO := Lib.hid (⟨IntsArg.of_own o1, IntsArg.of_own o2⟩ : _ ∧ _)
  clear hx o1 o2
  go_wp2_with fail
  refine (rnew_walk _ fixL w4 HO.out.1 HZ.out.2.2.1).mono ?_
  rintro e w5 ⟨tb1, Ft1, rfl, hx, hp1, hf1⟩
  have HS := Lib.hid (HS.out.new hx (oDT tb1 Ft1 fixL) hp1 hf1)
  have HO := Lib.hid (HO.out.2.ext hx)
  clear hx hp1 hf1
  go_wp2_with fail
  refine (rnew_walk _ fixD w5 HO.out HZ.out.2.2.2.1).mono ?_
  rintro e w6 ⟨tb2, Ft2, rfl, hx, hp1, hf1⟩
  have HS := Lib.hid (HS.out.new hx (oDT tb2 Ft2 fixD) hp1 hf1)
  clear hx hp1 hf1 HO
  go_wp2_with fail
  refine (sRfPutL 2 (b := wb) (F := Fw) (l := bl) (v := last) (n := 1) HS.out rfl (by omega) (by omega) (by omega) (by omega)).mono ?_
  rintro e w7 ⟨rfl, Fw1, S⟩
  have HS := Lib.hid (show Sep w0 w7 [oDT tb2 Ft2 fixD, oDT tb1 Ft1 fixL, oRw wb Fw1 (bl ++ bitsOf false last 1), oBy ao cap o] from S)
  clear S
  go_wp2_with fail
  refine (sRfPutL 2 (b := wb) (F := Fw1) (l := bl ++ bitsOf false last 1) (v := 1) (n := 2) HS.out rfl (by rw [List.length_append, bitsOf_length]; omega) (by omega) (by omega) (by omega)).mono ?_
  rintro e w8 ⟨rfl, Fw2, S⟩
  have HS := Lib.hid (show Sep w0 w8 [oDT tb2 Ft2 fixD, oDT tb1 Ft1 fixL, oRw wb Fw2 (bl ++ bitsOf false last 1 ++ bitsOf false 1 2), oBy ao cap o] from S)
  clear S
  go_wp2_with fail
  go_loopg [1, 15] l.length (fun g ov iv wr => ∃ (k : Nat) (F' bl o : List Nat) (ao : Option Addr) (cap : Nat), g + k = l.length ∧ ov = .slice ao o.length cap ∧ iv = .int .i64 k ∧ bl ++ allS (l.drop k) o = RB ∧ allO (l.drop k) o = RO ∧ Sep w0 wr [oDT tb2 Ft2 fixD, oDT tb1 Ft1 fixL, oRw wb F' bl, oBy ao cap o])
  case atStart => exact ⟨0, Fw2, _, o, ao, cap, by omega, rfl, rfl, by rw [← HR.out.1]; simp [blkS], HR.out.2.1, HS.out⟩
  case round =>
    clear HS hbl hol
    obtain ⟨k, F', bl, o, ao, cap, hgk, rfl, rfl, hB, hO, S⟩ := hrel
    have hbl : bl.length ≤ 200000 := by
      have h1 := HR.out.2.2.1
      rw [← hB, List.length_append] at h1
      omega
    have hol : o.length ≤ 200000 := by
      have h1 := HR.out.2.2.2
      have h2 := (allO_len (l.drop k) o).1
      rw [hO] at h2
      omega
    have HS := Lib.hid S
    clear S
    by_cases hlt : k < l.length
    · obtain ⟨g, rfl⟩ : ∃ g, gk = g + 1 := ⟨gk - 1, by omega⟩
      obtain ⟨b, off, rfl, hcell⟩ := HC.out (by omega)
      obtain ⟨x, hx⟩ : ∃ x, l[k]? = some x := ⟨_, List.getElem?_eq_getElem hlt⟩
      have hdr : l.drop k = x :: l.drop (k + 1) := by
        rw [List.drop_eq_getElem_cons hlt]
        congr 1
        have := (List.getElem?_eq_some_iff.1 hx).2
        exact this
      rw [hdr, allS, ← List.append_assoc] at hB
      rw [hdr, allO] at hO
      obtain ⟨h0, h1, h2⟩ := hcell k x hx
      have c0 := Ext.cell HS.out.ext h0
      have c1 := Ext.cell HS.out.ext h1
      have c2 := Ext.cell HS.out.ext h2
      obtain ⟨⟨rg1, rg2⟩, rg3, rg4⟩ := HRG.out x (List.mem_of_getElem? hx)
      have hm := (rfl : isM o.length x = isM o.length x)
      unfold isM at hm
      have HIM := Lib.hid (show isM o.length x = decide (3 ≤ x.2.1 ∧ x.2.1 ≤ 258 ∧ 1 ≤ x.2.2 ∧ x.2.2 ≤ (o.length : Int) ∧ x.2.2 ≤ 32768) from rfl)
      have HST := Lib.hid (⟨fun h => if_pos h, fun h => if_neg h, fun h => if_pos h, fun h => if_neg h⟩ : (isM o.length x = true → stO o x = cpL x.2.2.toNat x.2.1.toNat o) ∧ (¬ isM o.length x = true → stO o x = o ++ [x.1.toNat]) ∧ (isM o.length x = true → stpB o x = stM x.2.1.toNat x.2.2.toNat) ∧ (¬ isM o.length x = true → stpB o x = cbD fixL x.1.toNat))
      have HBO := Lib.hid (⟨hB, hO⟩ : _ ∧ _)
      have HC0 := Lib.hid h0
      clear hm hB hO h0 h1 h2 hdr hcell hx
      obtain ⟨xb, xn, xk⟩ := x
      simp only at HC0 c0 c1 c2 rg1 rg2 rg3 rg4 HIM HST HBO
      have d1 : ∀ y : Ex wr, y.w.cell? ⟨b, off + k * 3 + 1, none⟩ = some (.int .i64 xn) := fun y => y.cell c1
      have d2 : ∀ y : Ex wr, y.w.cell? ⟨b, off + k * 3 + 2, none⟩ = some (.int .i64 xk) := fun y => y.cell c2
      have hkl : (k : Int) < (l.length : Int) := by omega
      go_wp2_with fail
      refine wp_region_ext (by kernel_rfl) (by kernel_rfl) ?_
      repeat (go_big_quiet_step (fail))
      refine wpQuiet_nil ?_
      rintro _ ⟨y, rfl⟩
      have HS := Lib.hid (HS.out.quiet y.ext)
      have c0 := y.cell c0
      clear d1 d2 c1 c2
      obtain ⟨W, hW⟩ : ∃ W, y.w = W := ⟨_, rfl⟩
      rw [hW] at HS c0 ⊢
      clear hW y
      obtain ⟨X, hX⟩ : ∃ X, isM o.length (xb, xn, xk) = X := ⟨_, rfl⟩
      have hXd : decide (3 ≤ xn ∧ xn ≤ 258 ∧ 1 ≤ xk ∧ xk ≤ (o.length : Int) ∧ xk ≤ 32768) = X := by rw [← hX]; exact HIM.out.symm
      have HXD := Lib.hid hXd
      rw [hX] at HST
      clear hX HIM hXd
      go_upto_region 10 with fail
      go_cut [77] (fun c wx => c = .bool (!X) ∧ W = wx)
      case first =>
        have hX := HXD.out
        clear HXD HST HBO
        by_cases q1 : xn < 3
        · rw [decide_eq_false (by omega)] at hX
          subst hX
          go_wp2_with fail
          go_meet
          exact ⟨rfl, rfl⟩
        by_cases q2 : 258 < xn
        · rw [decide_eq_false (by omega)] at hX
          subst hX
          go_wp2_with fail
          go_meet
          exact ⟨rfl, rfl⟩
        by_cases q3 : xk < 1
        · rw [decide_eq_false (by omega)] at hX
          subst hX
          go_wp2_with fail
          go_meet
          exact ⟨rfl, rfl⟩
        by_cases q4 : (o.length : Int) < xk
        · rw [decide_eq_false (by omega)] at hX
          subst hX
          go_wp2_with fail
          go_meet
          exact ⟨rfl, rfl⟩
        by_cases q5 : 32768 < xk
        · rw [decide_eq_false (by omega)] at hX
          subst hX
          go_wp2_with fail
          go_meet
          exact ⟨rfl, rfl⟩
        rw [decide_eq_true (by omega)] at hX
        subst hX
        go_wp2_with fail
        go_meet
        exact ⟨rfl, rfl⟩
      case rest =>
      obtain ⟨rfl, hw9⟩ := hcut
      subst hw9
      cases X with
      | false =>
        have hO := HBO.out.2
        have hB := HBO.out.1
        rw [HST.out.2.1 (by decide)] at hO hB
        rw [HST.out.2.2.2 (by decide)] at hB
        have HBO := Lib.hid (⟨hB, hO⟩ : _ ∧ _)
        have hx8 := xb.toNat_lt
        clear hO hB HST HXD
        generalize xb.toNat = xx at *
        go_wp2_with fail
        refine (sDWrite 1 2 (by decide) (l := fixL) (b := wb) (bl := bl) (xx : Int) HS.out rfl rfl (by have := HZ.out.1; omega) HZ.out.2.2.2.2.1 fixL_codes (by omega)).mono ?_
        rw [if_neg (sizeL_ne xx (by omega)), wrL_bits xx (by omega)]
        rintro e w9 ⟨rfl, Fw3, S⟩
        have S : Sep w0 w9 [oDT tb2 Ft2 fixD, oDT tb1 Ft1 fixL, oRw wb Fw3 (bl ++ cbD fixL xx), oBy ao cap o] := S
        have hown : w9.ownsRow 0 5 1 (.slice ao o.length cap) o.length (o.map b8) := S.get 3 rfl
        have c9 := Ext.cell S.ext HC0.out
        have HS := Lib.hid S
        clear S c0
        go_wp2_with (at_builtin; refine wpList_append_lies _ rfl _ _ 26 rfl 0 5 i0 _ 1 1 Try.underlying26 hif hz0 hz1 hz2 rfl (by decide) (.slice ao o.length cap) o.length (o.map b8) rfl (World.ownsRow.alloc hown _) ⟨w9.heap.size, 0, none⟩ 1 1 [.int .u8 (xx : Int)] rfl rfl (cell_one_new _ _ _) (by simp [Value.oneCell']) (by decide) (by unfold maxLen; omega) (by omega) (by omega) (w9.heap.size + 1) (by simp) ?_; intro g1 cap1 w2 hown1 hgrow1 hat1 hlt1; have P1 := push_local (cap := cap1) (n := o.length + 1) hgrow1 hat1; have H2 := Lib.hid (HS.out.upd 3 (oBy (some ⟨g1, 0, none⟩) cap1 (o ++ [xx])) rfl P1.1 (by have := P1.2; simpa only [oBy, oSl, List.length_append, List.length_singleton] using this) (show w2.ownsRow 0 5 1 (.slice (some ⟨g1, 0, none⟩) (o ++ [xx]).length cap1) (o ++ [xx]).length ((o ++ [xx]).map b8) by rw [List.map_append, List.length_append]; exact hown1)); clear P1 hown1 hgrow1 hat1 hown)
        go_roundg g
        case measure => omega
        case rel => exact ⟨k + 1, Fw3, _, o ++ [xx], _, cap1, by omega, by rw [List.length_append]; rfl, by go_num, HBO.out.1, HBO.out.2, H2.out⟩
      | true =>
        have hm := of_decide_eq_true HXD.out
        obtain ⟨n, rfl⟩ : ∃ n : Nat, xn = n := ⟨xn.toNat, by omega⟩
        obtain ⟨bk, rfl⟩ : ∃ bk : Nat, xk = bk := ⟨xk.toNat, by omega⟩
        have hO := HBO.out.2
        have hB := HBO.out.1
        rw [HST.out.1 rfl] at hO hB
        rw [HST.out.2.2.1 rfl] at hB
        rw [Int.toNat_natCast, Int.toNat_natCast] at hO hB
        unfold stM at hB
        have hn1 : 3 ≤ n := by omega
        have hn2 : n ≤ 258 := by omega
        have hk1 : 1 ≤ bk := by omega
        have hk2 : bk ≤ o.length := by omega
        have hk3 : bk ≤ 32768 := by omega
        obtain ⟨a1, a2, a3, a4, a5⟩ := ls_facts n hn1 hn2
        obtain ⟨b1, b2, b3, b4⟩ := ds_facts bk hk1 hk3
        have HW1 := Lib.hid (fun w => (by have := dlenof_walk (n : Int) w; rw [show lenOfZ (n : Int) = (lsN n : Nat) by unfold lenOfZ lsN; rw [if_neg (by omega), Int.toNat_natCast]] at this; exact this : Calls Try.prog 24 #[.int .i64 (n : Int)] w fun e w' => e = .returned (.int .i64 (lsN n : Nat)) ∧ w = w'))
        have HW2 := Lib.hid (fun w => (by have := ddstof_walk (bk : Int) w; rw [show dstOfZ (bk : Int) = (dsN bk : Nat) by unfold dstOfZ dsN; rw [if_neg (by omega), Int.toNat_natCast]] at this; exact this : Calls Try.prog 25 #[.int .i64 (bk : Int)] w fun e w' => e = .returned (.int .i64 (dsN bk : Nat)) ∧ w = w'))
        have HW3 := Lib.hid (fun w => (by have := dlength_walk (lsN n : Nat) w; rw [(lenBZ_at (lsN n) a1 a2).1, (lenBZ_at (lsN n) a1 a2).2] at this; exact this : Calls Try.prog 21 #[.int .i64 (lsN n : Nat)] w fun e w' => e = .returned (.tuple #[.int .i64 (lenB (lsN n)), .int .i64 (lenX (lsN n))]) ∧ w = w'))
        have HW4 := Lib.hid (fun w => (by have := ddistance_walk (dsN bk : Nat) w; rw [(dstBZ_at (dsN bk) b1).1, (dstBZ_at (dsN bk) b1).2] at this; exact this : Calls Try.prog 22 #[.int .i64 (dsN bk : Nat)] w fun e w' => e = .returned (.tuple #[.int .i64 (dstB (dsN bk)), .int .i64 (dstX (dsN bk))]) ∧ w = w'))
        obtain ⟨u, hu⟩ : ∃ u, n - lenB (lsN n) = u := ⟨_, rfl⟩
        obtain ⟨v, hv⟩ : ∃ v, bk - dstB (dsN bk) = v := ⟨_, rfl⟩
        have hui : (n : Int) - (lenB (lsN n) : Nat) = (u : Int) := by omega
        have hvi : (bk : Int) - (dstB (dsN bk) : Nat) = (v : Int) := by omega
        rw [hu] at hB a4
        rw [hv] at hB b3
        clear hu hv HST HXD HBO hm
        generalize lenB (lsN n) = lb at *
        generalize lenX (lsN n) = lx at *
        generalize lsN n = ls at *
        generalize dstB (dsN bk) = db at *
        generalize dstX (dsN bk) = dx at *
        generalize dsN bk = ds at *
        have hu32 : u < 32 := Nat.lt_of_lt_of_le a4 (Nat.le_trans (Nat.pow_le_pow_right (by omega) a5) (by decide))
        have hv32 : v < 8192 := Nat.lt_of_lt_of_le b3 (Nat.le_trans (Nat.pow_le_pow_right (by omega) b4) (by decide))
        have hrc : (cpL bk n o).length ≤ 200000 := by
          have h1 := HR.out.2.2.2
          have h2 := (allO_len (l.drop (k + 1)) (cpL bk n o)).1
          rw [hO] at h2
          omega
        have hlb : lb ≤ n := a3
        have hdb : db ≤ bk := b2
        have HPW := Lib.hid (⟨a4, b3⟩ : _ ∧ _)
        have HBO := Lib.hid (⟨hB, hO⟩ : _ ∧ _)
        have hlx : (cbD fixL ls).length ≤ 9 := (cbL_len ls (by omega)).2
        have hdl : (cbD fixD ds).length ≤ 9 := (cbD_len ds (by omega)).2
        clear a4 b3 hB hO a3 b2 c0
        go_wp2_with fail
        refine (HW1.out _).mono ?_
        rintro e w9 ⟨rfl, rfl⟩
        go_wp2_with fail
        refine (HW3.out _).mono ?_
        rintro e w9 ⟨rfl, rfl⟩
        go_wp2_with fail
        refine (sDWrite 1 2 (by decide) (l := fixL) (b := wb) (bl := bl) (ls : Int) HS.out rfl rfl (by have := HZ.out.1; omega) HZ.out.2.2.2.2.1 fixL_codes (by omega)).mono ?_
        rw [if_neg (sizeL_ne ls (by omega)), wrL_bits ls (by omega)]
        rintro e w9 ⟨rfl, Fw3, S⟩
        have HS := Lib.hid (show Sep w0 w9 [oDT tb2 Ft2 fixD, oDT tb1 Ft1 fixL, oRw wb Fw3 (bl ++ cbD fixL ls), oBy ao cap o] from S)
        clear S
        go_wp2_with fail
        refine (sRfPutL 2 (b := wb) (F := Fw3) (l := bl ++ cbD fixL ls) (v := u) (n := lx) HS.out rfl (by rw [List.length_append]; omega) (by omega) (by omega) HPW.out.1).mono ?_
        rintro e w10 ⟨rfl, Fw4, S⟩
        have HS := Lib.hid (show Sep w0 w10 [oDT tb2 Ft2 fixD, oDT tb1 Ft1 fixL, oRw wb Fw4 (bl ++ cbD fixL ls ++ bitsOf false u lx), oBy ao cap o] from S)
        clear S hui
        go_wp2_with fail
        refine (HW2.out _).mono ?_
        rintro e w11 ⟨rfl, rfl⟩
        go_wp2_with fail
        refine (HW4.out _).mono ?_
        rintro e w11 ⟨rfl, rfl⟩
        go_wp2_with fail
        refine (sDWrite 0 2 (by decide) (l := fixD) (b := wb) (bl := bl ++ cbD fixL ls ++ bitsOf false u lx) (ds : Int) HS.out rfl rfl (by have := HZ.out.2.1; omega) HZ.out.2.2.2.2.2 fixD_codes (by simp only [List.length_append, bitsOf_length]; omega)).mono ?_
        rw [if_neg (sizeD_ne ds (by omega)), wrD_bits ds (by omega)]
        rintro e w11 ⟨rfl, Fw5, S⟩
        have HS := Lib.hid (show Sep w0 w11 [oDT tb2 Ft2 fixD, oDT tb1 Ft1 fixL, oRw wb Fw5 (bl ++ cbD fixL ls ++ bitsOf false u lx ++ cbD fixD ds), oBy ao cap o] from S)
        clear S
        go_wp2_with fail
        refine (sRfPutL 2 (b := wb) (F := Fw5) (l := bl ++ cbD fixL ls ++ bitsOf false u lx ++ cbD fixD ds) (v := v) (n := dx) HS.out rfl (by simp only [List.length_append, bitsOf_length]; omega) (by omega) (by omega) HPW.out.2).mono ?_
        rintro e w12 ⟨rfl, Fw6, S⟩
        have HBO := Lib.hid (show bl ++ cbD fixL ls ++ bitsOf false u lx ++ cbD fixD ds ++ bitsOf false v dx ++ allS (l.drop (k + 1)) (cpL bk n o) = RB ∧ allO (l.drop (k + 1)) (cpL bk n o) = RO from ⟨by rw [← HBO.out.1]; simp only [List.append_assoc], HBO.out.2⟩)
        obtain ⟨bl2, hbl2⟩ : ∃ bl2, bl ++ cbD fixL ls ++ bitsOf false u lx ++ cbD fixD ds ++ bitsOf false v dx = bl2 := ⟨_, rfl⟩
        have S : Sep w0 w12 [oDT tb2 Ft2 fixD, oDT tb1 Ft1 fixL, oRw wb Fw6 (bl ++ cbD fixL ls ++ bitsOf false u lx ++ cbD fixD ds ++ bitsOf false v dx), oBy ao cap o] := S
        rw [hbl2] at S HBO
        obtain ⟨RC, hRC⟩ : ∃ RC, cpL bk n o = RC := ⟨_, rfl⟩
        rw [hRC] at HBO hrc
        have HRC := Lib.hid hRC
        have HS := Lib.hid S
        clear S hbl2 hRC hvi HW1 HW2 HW3 HW4 HPW
        go_wp2_with fail
        obtain ⟨G, hG⟩ : ∃ G, g = G := ⟨_, rfl⟩
        subst hG
        go_loopg [1, 22] n (fun g2 ov iv wr => ∃ (j : Nat) (ao : Option Addr) (cap : Nat) (o : List Nat), g2 + j = n ∧ ov = .slice ao o.length cap ∧ iv = .int .i64 j ∧ cpL bk g2 o = RC ∧ bk ≤ o.length ∧ Sep w0 wr [oDT tb2 Ft2 fixD, oDT tb1 Ft1 fixL, oRw wb Fw6 bl2, oBy ao cap o])
        case atStart => exact ⟨0, ao, cap, o, by omega, rfl, by go_num, HRC.out, hk2, HS.out⟩
        case round =>
          clear HS HRC
          obtain ⟨j, ao, cap, o, hj, rfl, rfl, hRC, hk2, S⟩ := hrel
          have HS := Lib.hid S
          clear S
          cases gk with
          | zero =>
            obtain rfl : j = n := by omega
            rw [cpL] at hRC
            subst hRC
            go_wp2_with fail
            go_roundg g
            case measure => omega
            case rel => exact ⟨k + 1, Fw6, bl2, o, ao, cap, by omega, rfl, by go_num, HBO.out.1, HBO.out.2, HS.out⟩
          | succ g2 =>
            have hjn : (j : Int) < (n : Int) := by omega
            have hol2 : o.length ≤ 200000 := by
              have := cpL_len bk (g2 + 1) o
              rw [hRC] at this
              omega
            rw [cpL] at hRC
            have hown : wr.ownsRow 0 5 1 (.slice ao o.length cap) o.length (o.map b8) := HS.out.get 3 rfl
            obtain ⟨gb, cap2, hgb⟩ := own_at hown (by omega)
            injection hgb with e1 _ e3
            subst e1 e3
            obtain ⟨idx, hidx⟩ : ∃ idx, o.length - bk = idx := ⟨_, rfl⟩
            rw [hidx] at hRC
            have hix : (o.length : Int) - (bk : Int) = (idx : Int) := by omega
            have hio : (idx : Int) < (o.length : Int) := by omega
            obtain ⟨y, hy⟩ : ∃ y, o[idx]? = some y := ⟨_, List.getElem?_eq_getElem (by omega)⟩
            rw [List.getD_eq_getElem?_getD, hy, Option.getD_some] at hRC
            have c2 : wr.cell? ⟨gb, idx, none⟩ = some (.int .u8 (y : Int)) := ownsRow_at hown (by rw [List.getElem?_map, hy]; rfl)
            have HRC := Lib.hid hRC
            clear hRC hy hidx
            go_wp2_with (at_builtin; refine wpList_append_lies _ rfl _ _ 26 rfl 0 5 i0 _ 1 1 Try.underlying26 hif hz0 hz1 hz2 rfl (by decide) (.slice (some ⟨gb, 0, none⟩) o.length cap) o.length (o.map b8) rfl (World.ownsRow.alloc hown _) ⟨wr.heap.size, 0, none⟩ 1 1 [.int .u8 (y : Int)] rfl rfl (cell_one_new _ _ _) (by simp [Value.oneCell']) (by decide) (by unfold maxLen; omega) (by omega) (by omega) (wr.heap.size + 1) (by simp) ?_; intro g1 cap1 w2 hown1 hgrow1 hat1 hlt1; have P1 := push_local (cap := cap1) (n := o.length + 1) hgrow1 hat1; have H2 := Lib.hid (HS.out.upd 3 (oBy (some ⟨g1, 0, none⟩) cap1 (o ++ [y])) rfl P1.1 (by have := P1.2; simpa only [oBy, oSl, List.length_append, List.length_singleton] using this) (show w2.ownsRow 0 5 1 (.slice (some ⟨g1, 0, none⟩) (o ++ [y]).length cap1) (o ++ [y]).length ((o ++ [y]).map b8) by rw [List.map_append, List.length_append]; exact hown1)); clear P1 hown1 hgrow1 hat1 hown)
            go_roundg g2
            case measure => omega
            case rel => exact ⟨j + 1, _, cap1, o ++ [y], by omega, by rw [List.length_append]; rfl, by go_num, HRC.out, by rw [List.length_append]; omega, H2.out⟩
    · obtain rfl : k = l.length := by omega
      rw [List.drop_length, allS] at hB
      rw [List.drop_length, allO] at hO
      subst hO
      have HB := Lib.hid hB
      clear hB
      go_wp2_with fail
      refine (sDWrite 1 2 (by decide) (l := fixL) (b := wb) (bl := bl) (256 : Int) HS.out rfl rfl (by have := HZ.out.1; omega) HZ.out.2.2.2.2.1 fixL_codes (by omega)).mono ?_
      rw [show (256 : Int) = ((256 : Nat) : Int) from rfl, if_neg (sizeL_ne 256 (by omega)), wrL_bits 256 (by omega), HB.out]
      rintro e w9 ⟨rfl, Fw3, S⟩
      have HS := Lib.hid (show Sep w0 w9 [oDT tb2 Ft2 fixD, oDT tb1 Ft1 fixL, oRw wb Fw3 RB, oBy ao cap o] from S)
      clear S
      go_wp2_with fail
      go_ret
      exact ⟨ao, cap, Fw3, rfl, HS.out.tl.tl⟩
end Go.Proofs.Ytgjenpdppobpkaa.If
