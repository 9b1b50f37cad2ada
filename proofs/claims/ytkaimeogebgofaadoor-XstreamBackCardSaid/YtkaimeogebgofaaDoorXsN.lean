/-
  The argument []api.Entry; law21.XstreamBack walked.
-/
import Derived.Test.YtkaimeogebgofaaDoorXsM
import Derived.Deep.Strs
import Derived.Deep.Slices
import Derived.OpenShut
import Derived.ChangeArms
namespace Go.Proofs.YtkaimeogebgofaaDoor.Xs
open Go.RowKit
open Go.Proofs.YtkaimeogebgofaaDoor.Tr
open Go.ChangeShapes Go.WideShapes

theorem cellsInt21 : Tryd.prog.cellsOf 3 = 1 := by kernel_rfl
theorem cellsEn21 : Tryd.prog.cellsOf 32 = 4 := by kernel_rfl
theorem ad21 (b o k : Nat) : (⟨b, o, none⟩ : Addr).add k = ⟨b, o + k, none⟩ := by unfold Addr.add; split <;> simp_all
theorem trod_struct4 {H : Type} {enc : TypeId × Value → H} {w : World} {base : Nat} {sp : Nat → Bool} {held : Bool} {P : Program} {t : TypeId} {f0 f1 f2 f3 : Field} {fuel : Nat} {cs : List Value} {x : DataW H × List MemPlace} (ht : P.underlying t = some (.struct #[f0, f1, f2, f3])) (h : DataW.trod enc P w base sp held fuel t cs = some x) :
    ∃ y0 y1 y2 y3 n, cs.length = P.cellsOf t ∧ DataW.trod enc P w base sp held n f0.type ((cs.drop f0.offset).take (P.cellsOf f0.type)) = some y0 ∧
      DataW.trod enc P w base sp held n f1.type ((cs.drop f1.offset).take (P.cellsOf f1.type)) = some y1 ∧ DataW.trod enc P w base sp held n f2.type ((cs.drop f2.offset).take (P.cellsOf f2.type)) = some y2 ∧
      DataW.trod enc P w base sp held n f3.type ((cs.drop f3.offset).take (P.cellsOf f3.type)) = some y3 := by
  obtain ⟨xs, n, _, rfl, hl, hlen, hf⟩ := DataW.trod_struct ht h
  match xs, hlen with
  | [y0, y1, y2, y3], _ => exact ⟨y0, y1, y2, y3, n, hl, by simpa using hf 0 f0 rfl, by simpa using hf 1 f1 rfl, by simpa using hf 2 f2 rfl, by simpa using hf 3 f3 rfl⟩
def EnArg (w : World) (v : Value) (l : List En) : Prop := EnsAt w v l ∧ l.length ≤ 9223372036854775807 ∧ ∀ x ∈ l, EnWf x
set_option maxRecDepth 100000 in
theorem open_ents {H : Type} {enc : TypeId × Value → H} {w : World} {base : Nat} {sp : Nat → Bool} {held : Bool} {r : Reach} {b0 : Nat} {v : Value} {d : DataW H} {ps : List MemPlace} (hval : Value.okWide Tryd.prog w r b0 22 v) (hd : DataW.Trod enc Tryd.prog w base sp held 22 v d ps) :
    ∃ l, EnArg w v l := by
  obtain ⟨a0, len0, cap0, rfl⟩ := okWide_slice Tryd.underlying22 hval
  obtain ⟨fuel, hf⟩ := hd
  simp only [Value.cells] at hf
  rcases Go.Deep.open_slice Tryd.underlying22 hf with ⟨hc, _⟩ | ⟨a, len, cap, m, n, D, Pl, hc, _, hl, hm, hmm, _, hx⟩
  · obtain ⟨rfl, rfl, rfl⟩ : a0 = none ∧ len0 = 0 ∧ cap0 = 0 := by simpa using hc
    exact ⟨[], ⟨none, 0, rfl, Nat.le_refl _, fun i hi => (by cases hi)⟩, by simp, fun x hx => by cases hx⟩
  · obtain ⟨rfl, rfl, rfl⟩ : a0 = some a ∧ len0 = len ∧ cap0 = cap := by simpa using hc
    have hlm : len0 ≤ m := by rw [hmm]; split <;> omega
    have each : ∀ i, i < len0 → ∃ q : En, w.cell? (a.add (i * 4)) = some (.int .i64 q.num) ∧ w.cell? ((a.add (i * 4)).add 1) = some (.int .i64 q.kind) ∧ w.cell? ((a.add (i * 4)).add 2) = some (.int .i64 q.a) ∧ w.cell? ((a.add (i * 4)).add 3) = some (.int .i64 q.b) ∧ EnWf q := by
      intro i hi
      obtain ⟨cs', h1, h2⟩ := hx i (by omega)
      rw [cellsEn21] at h1
      obtain ⟨_, hlen, hcell⟩ := World.cells?_some h1
      obtain ⟨y0, y1, y2, y3, k, _, g0, g1, g2, g3⟩ := trod_struct4 Tryd.underlying32 h2
      match cs', hlen with
      | [v0, v1, v2, v3], _ =>
        have e0 := hcell 0 (by omega)
        have e1 := hcell 1 (by omega)
        have e2 := hcell 2 (by omega)
        have e3 := hcell 3 (by omega)
        simp [cellsInt21] at g0 g1 g2 g3
        obtain ⟨n0, hn0, _, w0⟩ := DataW.trod_int Tryd.underlying3 g0
        obtain ⟨n1, hn1, _, w1⟩ := DataW.trod_int Tryd.underlying3 g1
        obtain ⟨n2, hn2, _, w2⟩ := DataW.trod_int Tryd.underlying3 g2
        obtain ⟨n3, hn3, _, w3⟩ := DataW.trod_int Tryd.underlying3 g3
        simp only [List.cons.injEq, and_true] at hn0 hn1 hn2 hn3
        subst hn0 hn1 hn2 hn3
        exact ⟨⟨n0, n1, n2, n3⟩, by rw [show (a.add (i * 4)).add 0 = a.add (i * 4) from by simp [Addr.add]] at e0; simpa using e0, by simpa using e1, by simpa using e2, by simpa using e3, ⟨Kt.wf_i64 w0, Kt.wf_i64 w1, Kt.wf_i64 w2, Kt.wf_i64 w3⟩⟩
    obtain ⟨f, hf⟩ := Go.Deep.choose_lt each
    have hfl : ((List.range len0).map f).length = len0 := by simp
    refine ⟨(List.range len0).map f, ⟨some a, cap0, by rw [hfl], by rw [hfl]; exact hl, fun i hi => ?_⟩, by rw [hfl]; unfold maxLen at hm; omega, fun x hx => ?_⟩
    · rw [hfl] at hi
      have hspot : a.spot = none := by simpa [Addr.add] using World.cell?_spot (hf 0 (by omega)).1
      obtain ⟨b, off, sp0⟩ := a
      obtain rfl : sp0 = none := hspot
      obtain ⟨h0, h1, h2, h3, -⟩ := hf i hi
      simp only [ad21] at h0 h1 h2 h3
      refine ⟨b, off, rfl, ?_⟩
      rw [List.getElem_map, List.getElem_range]
      exact ⟨h0, h1, h2, h3⟩
    · obtain ⟨i, hi, rfl⟩ := List.mem_map.1 hx
      exact (hf i (List.mem_range.1 hi)).2.2.2.2
theorem putN_bad {l : List En} {size : Int} (h : (putN l size).2 ≠ 0) : (putN l size).1 = [] := by
  unfold putN at h ⊢
  split
  · rfl
  · split
    · rfl
    · rename_i h1 h2
      rw [if_neg h1, if_neg h2] at h
      exact absurd rfl h
theorem putN_ok {l : List En} {size : Int} (h : (putN l size).2 = 0) : ∃ N : Nat, size = (N : Int) ∧ secN none l = true ∧ (∀ x ∈ l, FitE x ∧ 0 ≤ x.num ∧ x.num < size) ∧ putN l size = (rowsU (allF N 0 l), 0) := by
  unfold putN at h
  split at h
  · cases h
  · split at h
    · cases h
    · rename_i h1 h2
      have h1 : secN none l = true := by simpa using h1
      have hb : putBad l size = false := by simpa using h2
      unfold putBad at hb
      rw [Bool.or_eq_false_iff, Bool.or_eq_false_iff] at hb
      obtain ⟨b1, b2, b3⟩ := hb
      have b1 := of_decide_eq_false b1
      have b2 := of_decide_eq_false b2
      refine ⟨size.toNat, by omega, h1, fun x hx => ?_, ?_⟩
      · have h3 := (secN_mem l none h1 x hx).1
        have h4 := (List.any_eq_false.1 b3) x hx
        simp at h4
        exact ⟨⟨h3, by omega⟩, (may_facts h3).1, by omega⟩
      · unfold putN
        rw [if_neg (by rw [h1]; decide), if_neg (by rw [putBad, decide_eq_false b1, decide_eq_false b2, b3]; decide)]
/-! ### the law -/
theorem allF_nil (g i : Nat) : allF (g + 1) i [] = freeE i :: allF g (i + 1) [] := rfl
theorem allF_hit {g i : Nat} {y : En} {r : List En} (h : y.num = i) : allF (g + 1) i (y :: r) = y :: allF g (i + 1) r := by rw [allF, if_pos h]
theorem allF_miss {g i : Nat} {y : En} {r : List En} (h : ¬ y.num = i) : allF (g + 1) i (y :: r) = freeE i :: allF g (i + 1) (y :: r) := by rw [allF, if_neg h]
theorem drop_more {α : Type} {l r : List α} {i : Nat} {x : α} (h : l.drop i = x :: r) : ∃ hi : i < l.length, l[i]'hi = x ∧ l.drop (i + 1) = r := by
  have hi : i < l.length := by
    have := congrArg List.length h
    rw [List.length_drop, List.length_cons] at this
    omega
  have h2 := List.drop_eq_getElem_cons hi
  rw [h] at h2
  injection h2 with h3 h4
  exact ⟨hi, h3.symm, h4.symm⟩
set_option maxRecDepth 100000 in
set_option maxHeartbeats 16000000 in
theorem back_law (v : Value) (size : Int) (l : List En) (hsz : -9223372036854775808 ≤ size ∧ size ≤ 9223372036854775807) (w : World) (h : EnArg w v l) :
    Calls Tryd.prog 3 #[v, .int .i64 size] w fun e w' => e = .returned (.bool true) ∧ Ext [] w w' := by
  obtain ⟨h, hlen, hwf⟩ := h
  have HLv := Lib.hid lives21_walk
  by_cases hbig : 60 < l.length
  · obtain ⟨base, cap, rfl, -, -⟩ := id h
    have hbz : (60 : Int) < (l.length : Int) := by omega
    obtain ⟨n, hn⟩ : ∃ n, l.length = n := ⟨_, rfl⟩
    rw [hn] at hbz ⊢
    clear h hlen hwf hn
    go_enter Tryd.func3, Tryd.ntmps3
    go_wp2_with fail
    refine (HLv.out _).mono ?_
    rintro e w1 ⟨rfl, hx⟩
    have HX := Lib.hid hx
    clear hx HLv
    go_wp2_with fail
    go_ret
    exact ⟨rfl, HX.out⟩
  have hbz : ¬ (60 : Int) < (l.length : Int) := by omega
  by_cases hs3 : 300 < size
  · obtain ⟨base, cap, rfl, -, -⟩ := id h
    obtain ⟨n, hn⟩ : ∃ n, l.length = n := ⟨_, rfl⟩
    rw [hn] at hbz ⊢
    clear h hlen hwf hn
    go_enter Tryd.func3, Tryd.ntmps3
    go_wp2_with fail
    refine (HLv.out _).mono ?_
    rintro e w1 ⟨rfl, hx⟩
    have HX := Lib.hid hx
    clear hx HLv
    go_wp2_with fail
    go_ret
    exact ⟨rfl, HX.out⟩
  have HPut := Lib.hid (fun W (hx : Ext [] w W) => put21_walk v l size W (h.ext hx) (by omega) (by omega) hsz.1)
  by_cases hp : (putN l size).2 = 0
  case neg =>
    have hp1 := putN_bad hp
    obtain ⟨c, hc⟩ : ∃ c, (putN l size).2 = c := ⟨_, rfl⟩
    rw [hp1, hc] at HPut
    rw [hc] at hp
    have hcb : (c != 0) = true := bne_iff_ne.2 hp
    unfold S8 at HPut
    obtain ⟨base, cap, rfl, -, -⟩ := id h
    obtain ⟨n, hn⟩ : ∃ n, l.length = n := ⟨_, rfl⟩
    rw [hn] at hbz HPut ⊢
    clear h hlen hwf hn hp1 hc
    go_enter Tryd.func3, Tryd.ntmps3
    go_wp2_with fail
    refine (HLv.out _).mono ?_
    rintro e w1 ⟨rfl, hx⟩
    have HX := Lib.hid hx
    have HPu := Lib.hid (HPut.out _ hx)
    clear hx HLv HPut
    go_wp2_with fail
    refine HPu.out.mono ?_
    rintro e w2 ⟨rfl, hx⟩
    have HX2 := Lib.hid (HX.out.trans hx)
    clear hx HPu HX
    go_wp2_with fail
    go_ret
    exact ⟨rfl, HX2.out⟩
  case pos =>
  obtain ⟨N, rfl, hsec, hfit, hput⟩ := putN_ok hp
  rw [hput] at HPut
  have HDi := Lib.hid (fun W => dict21_walk N hsz W)
  have HRd := Lib.hid (fun dv W (hv : NodesAt W dv (dictD N)) => back_walk dv N l W hv (by omega) (fun x hx => (hfit x hx).1))
  have hS : (S8 (rowsU (allF N 0 l))).size = 7 * N := by rw [S8_size, rowsU_len, allF_len]
  obtain ⟨T, hT⟩ : ∃ T, S8 (rowsU (allF N 0 l)) = T := ⟨_, rfl⟩
  simp only [hT] at HPut HRd hS
  have hXl := allF_len N 0 l
  have hup := up_none hsec
  obtain ⟨X, hX⟩ : ∃ X, allF N 0 l = X := ⟨_, rfl⟩
  rw [hX] at HRd hXl
  have hS7 : (T.size : Int) = 7 * (N : Int) := by omega
  obtain ⟨base, cap, rfl, -, hI⟩ := id h
  obtain ⟨n, hn⟩ : ∃ n, l.length = n := ⟨_, rfl⟩
  have HH := Lib.hid (⟨hI, hn, fun x hx => (hfit x hx).2, hX, hXl, hup⟩ : EnsIn w base l ∧ _ ∧ (∀ x ∈ l, 0 ≤ x.num ∧ x.num < (N : Int)) ∧ _ ∧ _ ∧ _)
  rw [hn] at hbz HPut ⊢
  have hn60 : n ≤ 60 := by omega
  have hbN : ((N : Int) != (N : Int)) = false := bne_self_eq_false _
  have hbT : ((T.size : Int) != 7 * (N : Int)) = false := by rw [hS7]; exact bne_self_eq_false _
  clear h hlen hwf hn hp hsec hfit hput hT hS hX hup hI hbig
  go_enter Tryd.func3, Tryd.ntmps3
  go_wp2_with fail
  refine (HLv.out _).mono ?_
  rintro e w1 ⟨rfl, hx⟩
  have HX := Lib.hid hx
  have HPu := Lib.hid (HPut.out _ hx)
  clear hx HLv HPut
  go_wp2_with fail
  refine HPu.out.mono ?_
  rintro e w2 ⟨rfl, hx⟩
  have HX2 := Lib.hid (HX.out.trans hx)
  clear hx HPu HX
  go_wp2_with fail
  refine (HDi.out _).mono ?_
  rintro e w3 ⟨dv, rfl, hx, hN⟩
  have HX3 := Lib.hid (⟨HX2.out.trans hx, hN⟩ : _ ∧ _)
  clear hx hN HDi HX2
  go_wp2_with fail
  refine (HRd.out _ _ HX3.out.2).mono ?_
  rintro e w4 ⟨v4, rfl, hx, hE⟩
  obtain ⟨eb, ec, rfl, -, hEI⟩ := hE
  have HX4 := Lib.hid (⟨HX3.out.1.trans hx, hEI⟩ : _ ∧ _)
  rw [hXl]
  clear hx HRd HX3 hEI
  go_wp2_with fail
  clear hbN hbT
  have H4 := Lib.hid (Ext.refl [] w4)
  go_loopg [9, 10, 11] N (fun g kv iv v11 wr => ∃ i k : Nat, g + i = N ∧ iv = .int .i64 i ∧ kv = .int .i64 k ∧ k ≤ n ∧ X.drop i = allF g i (l.drop k) ∧ Up (i : Int) (l.drop k) ∧ Ext [] w4 wr)
  case atStart => exact ⟨0, 0, by omega, rfl, rfl, by omega, HH.out.2.2.2.1.symm, HH.out.2.2.2.2.2, H4.out⟩
  case round =>
    clear H4
    obtain ⟨i, k, hgi, rfl, rfl, hkn, hXd, hUp, hx0⟩ := hrel
    by_cases hlt : i < N
    case neg =>
      obtain rfl : gk = 0 := by omega
      have hkN : k = n := by
        by_cases hk : k < l.length
        · rw [drop_at l k hk] at hUp
          have h1 := hUp.1
          have h2 := (HH.out.2.2.1 _ (List.getElem_mem hk)).2
          omega
        · have := HH.out.2.1; omega
      subst hkN
      have HF := Lib.hid (HX4.out.1.trans hx0)
      clear hx0 hXd hUp
      go_wp2_with fail
      go_ret
      exact ⟨rfl, HF.out⟩
    case pos =>
    obtain ⟨g, rfl⟩ : ∃ g, gk = g + 1 := ⟨gk - 1, by omega⟩
    have hltz : (i : Int) < (N : Int) := by omega
    have hiX : i < X.length := by omega
    obtain ⟨xb, xo, rfl, d0, d1, d2, d3⟩ := HX4.out.2 i hiX
    have hx4 := hx0
    by_cases hk : k < n
    case neg =>
      have hkl : l.drop k = [] := List.drop_eq_nil_of_le (by rw [HH.out.2.1]; omega)
      rw [hkl, allF_nil] at hXd
      obtain ⟨_, hXi, hXr⟩ := drop_more hXd
      rw [hXi] at d0 d1 d2 d3
      have hkz : ¬ (k : Int) < (n : Int) := by omega
      have HR := Lib.hid (show X.drop (i + 1) = allF g (i + 1) (l.drop k) ∧ Up (((i + 1 : Nat)) : Int) (l.drop k) from ⟨by rw [hkl]; exact hXr, by rw [hkl]; trivial⟩)
      have HD := Lib.hid (⟨hx4, d0, d1, d2, d3⟩ : _ ∧ _ ∧ _ ∧ _ ∧ _)
      clear hXd hXi hXr hUp hkl hx0 hx4 d0 d1 d2 d3
      go_upto_region 16 with (fail)
      obtain ⟨W, hW⟩ : ∃ W, wr.alloc (Obj.cells #[.int .i64 i, .int .i64 0, .int .i64 0, .int .i64 0] 32) = W := ⟨_, rfl⟩
      have hxW : Ext [] wr W := by rw [← hW]; exact (Ext.refl [] wr).alloc _
      have hb : W.heap[wr.heap.size]? = some (.cells #[.int .i64 i, .int .i64 0, .int .i64 0, .int .i64 0] 32 (0, 0)) := by rw [← hW]; exact heap_alloc_at _
      rw [hW]
      obtain ⟨p, hp⟩ : ∃ p, wr.heap.size = p := ⟨_, rfl⟩
      rw [hp] at hb ⊢
      have HW := Lib.hid (⟨hxW, hp⟩ : _ ∧ _)
      clear hxW hW hp
      have q0 := cellOf hb 0
      have q1 := cellOf hb 1
      have q2 := cellOf hb 2
      have q3 := cellOf hb 3
      have hxB := HD.out.1.trans HW.out.1
      have HD := Lib.hid (show Ext [] w4 wr ∧ w4.cell? _ = some (.int .i64 (i : Int)) ∧ w4.cell? _ = some (.int .i64 0) ∧ w4.cell? _ = some (.int .i64 0) ∧ w4.cell? _ = some (.int .i64 0) from HD.out)
      have t0 := hxB.cell HD.out.2.1
      have t1 := hxB.cell HD.out.2.2.1
      have t2 := hxB.cell HD.out.2.2.2.1
      have t3 := hxB.cell HD.out.2.2.2.2
      have HB := Lib.hid hxB
      clear hb hxB HD HW
      go_upto_region 19 with (fail)
      go_quiet (fail)
      clear q0 q1 q2 q3 t0 t1 t2 t3
      go_wp2_with fail
      go_roundg g
      case measure => omega
      case rel => exact ⟨i + 1, k, by omega, by go_num, rfl, by omega, HR.out.1, HR.out.2, HB.out.drewN _⟩
    case pos =>
      have hkl : k < l.length := by rw [HH.out.2.1]; exact hk
      have hkz : (k : Int) < (n : Int) := by omega
      obtain ⟨yb, yo, rfl, c0, c1, c2, c3⟩ := HH.out.1.ext (HX4.out.1.trans hx0) k hkl
      rw [drop_at l k hkl] at hXd hUp
      have hdk := drop_at l k hkl
      generalize l[k]'hkl = y at *
      have HC := Lib.hid (⟨c0, c1, c2, c3⟩ : _ ∧ _ ∧ _ ∧ _)
      clear c0 c1 c2 c3
      by_cases hy : y.num = (i : Int)
      case neg =>
        have hyb : (y.num == (i : Int)) = false := beq_eq_false_iff_ne.2 hy
        rw [allF_miss hy] at hXd
        obtain ⟨_, hXi, hXr⟩ := drop_more hXd
        rw [hXi] at d0 d1 d2 d3
        have HR := Lib.hid (show X.drop (i + 1) = allF g (i + 1) (l.drop k) ∧ Up (((i + 1 : Nat)) : Int) (l.drop k) from ⟨by rw [hdk]; exact hXr, by rw [hdk]; exact ⟨by have := hUp.1; omega, hUp.2⟩⟩)
        have HD := Lib.hid (⟨hx4, d0, d1, d2, d3⟩ : _ ∧ _ ∧ _ ∧ _ ∧ _)
        clear hXd hXi hXr hUp hdk hx0 hx4 d0 d1 d2 d3
        go_upto_region 16 with (fail)
        obtain ⟨W, hW⟩ : ∃ W, wr.alloc (Obj.cells #[.int .i64 i, .int .i64 0, .int .i64 0, .int .i64 0] 32) = W := ⟨_, rfl⟩
        have hxW : Ext [] wr W := by rw [← hW]; exact (Ext.refl [] wr).alloc _
        have hb : W.heap[wr.heap.size]? = some (.cells #[.int .i64 i, .int .i64 0, .int .i64 0, .int .i64 0] 32 (0, 0)) := by rw [← hW]; exact heap_alloc_at _
        rw [hW]
        obtain ⟨p, hp⟩ : ∃ p, wr.heap.size = p := ⟨_, rfl⟩
        rw [hp] at hb ⊢
        have HW := Lib.hid (⟨hxW, hp⟩ : _ ∧ _)
        clear hxW hW hp
        have c0 := HW.out.1.cell HC.out.1
        have c1 := HW.out.1.cell HC.out.2.1
        have c2 := HW.out.1.cell HC.out.2.2.1
        have c3 := HW.out.1.cell HC.out.2.2.2
        clear HC
        have q0 := cellOf hb 0
        have q1 := cellOf hb 1
        have q2 := cellOf hb 2
        have q3 := cellOf hb 3
        have hxB := HD.out.1.trans HW.out.1
        have HD := Lib.hid (show Ext [] w4 wr ∧ w4.cell? _ = some (.int .i64 (i : Int)) ∧ w4.cell? _ = some (.int .i64 0) ∧ w4.cell? _ = some (.int .i64 0) ∧ w4.cell? _ = some (.int .i64 0) from HD.out)
        have t0 := hxB.cell HD.out.2.1
        have t1 := hxB.cell HD.out.2.2.1
        have t2 := hxB.cell HD.out.2.2.2.1
        have t3 := hxB.cell HD.out.2.2.2.2
        have HB := Lib.hid hxB
        clear hb hxB HD HW
        go_upto_region 19 with (fail)
        go_quiet (fail)
        clear q0 q1 q2 q3 t0 t1 t2 t3
        go_wp2_with fail
        go_roundg g
        case measure => omega
        case rel => exact ⟨i + 1, k, by omega, by go_num, rfl, by omega, HR.out.1, HR.out.2, HB.out.drewN _⟩
      case pos =>
        rw [allF_hit hy] at hXd
        obtain ⟨_, hXi, hXr⟩ := drop_more hXd
        rw [hXi] at d0 d1 d2 d3
        have HR := Lib.hid (show X.drop (i + 1) = allF g (i + 1) (l.drop (k + 1)) ∧ Up (((i + 1 : Nat)) : Int) (l.drop (k + 1)) from ⟨hXr, by have := hUp.2; rw [hy] at this; exact this⟩)
        have HD := Lib.hid (⟨hx4, d0, d1, d2, d3⟩ : _ ∧ _ ∧ _ ∧ _ ∧ _)
        clear hXd hXi hXr hUp hdk hx0 hx4 d0 d1 d2 d3
        go_upto_region 16 with (fail)
        obtain ⟨W, hW⟩ : ∃ W, wr.alloc (Obj.cells #[.int .i64 i, .int .i64 0, .int .i64 0, .int .i64 0] 32) = W := ⟨_, rfl⟩
        have hxW : Ext [] wr W := by rw [← hW]; exact (Ext.refl [] wr).alloc _
        have hb : W.heap[wr.heap.size]? = some (.cells #[.int .i64 i, .int .i64 0, .int .i64 0, .int .i64 0] 32 (0, 0)) := by rw [← hW]; exact heap_alloc_at _
        rw [hW]
        obtain ⟨p, hp⟩ : ∃ p, wr.heap.size = p := ⟨_, rfl⟩
        rw [hp] at hb ⊢
        have HW := Lib.hid (⟨hxW, hp⟩ : _ ∧ _)
        clear hxW hW hp
        have c0 := HW.out.1.cell HC.out.1
        have c1 := HW.out.1.cell HC.out.2.1
        have c2 := HW.out.1.cell HC.out.2.2.1
        have c3 := HW.out.1.cell HC.out.2.2.2
        clear HC
        have f0 := freeOf hb 0
        have f1 := freeOf hb 1
        have f2 := freeOf hb 2
        have f3 := freeOf hb 3
        have q0 := cellOf hb 0
        have q1 := cellOf hb 1
        have q2 := cellOf hb 2
        have q3 := cellOf hb 3
        have hb1 := heap_setCell_same (i := 0) hb (.int .i64 (i : Int))
        have hb2 := heap_setCell_same (i := 1) hb1 (.int .i64 y.kind)
        have hb3 := heap_setCell_same (i := 2) hb2 (.int .i64 y.a)
        have f1a := freeOf hb1 1
        have q1a := cellOf hb1 1
        have f2a := freeOf hb2 2
        have q2a := cellOf hb2 2
        have f3a := freeOf hb3 3
        have q3a := cellOf hb3 3
        have HBW := Lib.hid hb
        clear hb hb1 hb2 hb3
        go_upto_region 18 with (fail)
        clear q0 q1 q2 q3 f0 f1 f2 f3 q1a f1a q2a f2a q3a f3a c0 c1 c2 c3
        obtain ⟨W2, hW2⟩ : ∃ W2, (((W.setCell ⟨p, 0, none⟩ (.int .i64 (i : Int))).setCell ⟨p, 1, none⟩ (.int .i64 y.kind)).setCell ⟨p, 2, none⟩ (.int .i64 y.a)).setCell ⟨p, 3, none⟩ (.int .i64 y.b) = W2 := ⟨_, rfl⟩
        rw [hW2]
        have hb : W2.heap[p]? = some (.cells #[.int .i64 (i : Int), .int .i64 y.kind, .int .i64 y.a, .int .i64 y.b] 32 (0, 0)) := by rw [← hW2]; exact heap_setCell_same (i := 3) (heap_setCell_same (i := 2) (heap_setCell_same (i := 1) (heap_setCell_same (i := 0) HBW.out _) _) _) _
        have hpW := Nat.le_of_eq HW.out.2
        have hxB : Ext [] w4 W2 := by rw [← hW2]; exact HD.out.1.trans ((((HW.out.1.setCell _ _ (.inr hpW)).setCell _ _ (.inr hpW)).setCell _ _ (.inr hpW)).setCell _ _ (.inr hpW))
        clear hW2 hpW HBW
        have q0 := cellOf hb 0
        have q1 := cellOf hb 1
        have q2 := cellOf hb 2
        have q3 := cellOf hb 3
        have t0 := hxB.cell HD.out.2.1
        have t1 := hxB.cell HD.out.2.2.1
        have t2 := hxB.cell HD.out.2.2.2.1
        have t3 := hxB.cell HD.out.2.2.2.2
        have HB := Lib.hid hxB
        clear hb hxB HD HW
        go_upto_region 19 with (fail)
        go_quiet (fail)
        clear q0 q1 q2 q3 t0 t1 t2 t3
        go_wp2_with fail
        go_roundg g
        case measure => omega
        case rel => exact ⟨i + 1, k + 1, by omega, by go_num, by go_num, by omega, HR.out.1, HR.out.2, HB.out.drewN _⟩
theorem back_card (v : Value) (size : Int) (w : World) (h : ∃ l, EnArg w v l) (hs : (Lit.int .i64 size).wf = true) : Calls Tryd.prog 3 #[v, .int .i64 size] w fun e w' => e = .returned (.bool true) ∧ Ext [] w w' := by
  obtain ⟨l, h⟩ := h
  exact back_law v size l (Kt.wf_i64 hs) w h
end Go.Proofs.YtkaimeogebgofaaDoor.Xs
