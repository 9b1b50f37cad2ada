/-
  RcJ, RcK, RcL, RcT, RcU, in one text.
-/
import Derived.Test.YtgpgamohcafklaaGreatDoorRdB
import Derived.Test.YtgpgamohcafklaaGreatDoorTuC
import Derived.Test.YtgpgamohcafklaaGreatDoorRcI
import Derived.Laws.StructEq
/-! RcJ: reach: the chapter's example, plainly. -/
namespace Go.Proofs.YtgpgamohcafklaaGreatDoor.Rc
open Go.RowKit
open Go.Proofs.YtgpgamohcafklaaGreatDoor.Tr

def rfNd (n : Int) : Nd := ⟨9, n, 0, ⟨#[]⟩, []⟩
def nuNd : Nd := ⟨1, 0, 0, ⟨#[]⟩, []⟩
def aL27 : List Nd := [⟨7, 0, 0, ⟨#[]⟩, [1, 2]⟩, rfNd 2, rfNd 9]
def dL27 : List Nd := [⟨8, 0, 0, ⟨#[]⟩, [1, 2]⟩, ⟨6, 0, 0, ⟨#[65]⟩, []⟩, ⟨7, 0, 0, ⟨#[]⟩, [3, 4]⟩, rfNd 2, rfNd 9]
def ob27 (n g : Int) (v : Value) (t : List Nd) : Om := ⟨n, g, v, false, ⟨#[]⟩, t⟩
def ex27 (a b c : Value) : List Om := [ob27 1 0 a dL27, ob27 2 0 b [nuNd], ob27 3 0 c [rfNd 1]]
theorem ex27_arr : arrayN [[rfNd 2], [rfNd 9]] = (aL27, 0) := by kernel_rfl
theorem ex27_refs : refsN dL27 = [(2, 0), (9, 0)] := by kernel_rfl
theorem ex27_all (a b c : Value) : allN (1, 0) (ex27 a b c) = [(1, 0), (2, 0)] := by kernel_rfl
theorem ex27_most (a b c : Value) : mostN (1, 0) (ex27 a b c) = 9 := by kernel_rfl
theorem ex27_reach (a b c : Value) : reachN (1, 0) (ex27 a b c) = [ob27 1 0 a dL27, ob27 2 0 b [nuNd]] := by kernel_rfl
theorem ex27_none : allN (0, 0) [] = [] ∧ mostN (0, 0) [] = 0 := ⟨by kernel_rfl, by kernel_rfl⟩
theorem ex27_put (a b c d : Value) : allN (1, 0) [ob27 1 0 a dL27, ob27 2 0 b [nuNd], ob27 3 0 c [rfNd 1], ob27 9 0 d [rfNd 3]] = [(1, 0), (2, 0), (9, 0), (3, 0)] := by kernel_rfl
theorem ex27_lt : Lt dL27 ∧ Lt [nuNd] ∧ Lt [rfNd 1] := ⟨⟨by decide, by decide⟩, ⟨by decide, by decide⟩, ⟨by decide, by decide⟩⟩
end Go.Proofs.YtgpgamohcafklaaGreatDoor.Rc

/-! RcK: kit.Same of refs, where they are the same; law27.ref walked. -/
namespace Go.Proofs.YtgpgamohcafklaaGreatDoor.Rc
open Go.RowKit
open Go.Proofs.YtgpgamohcafklaaGreatDoor.Tr

set_option maxRecDepth 100000 in
set_option maxHeartbeats 2000000 in
theorem sameQ_walk (u v : Value) (a : List (Int × Int)) (w : World) (hu : RefsAt w u a) (hv : RefsAt w v a) (ha : a.length ≤ 9223372036854775807) :
    Calls Tryz.prog 19 #[u, v] w fun e w' => e = .returned (.bool true) ∧ Ext [] w w' := by
  obtain ⟨ub, uc, rfl, -, hU⟩ := hu
  obtain ⟨vb, vc, rfl, -, hV⟩ := hv
  obtain ⟨n, hn⟩ : ∃ n, a.length = n := ⟨_, rfl⟩
  have HH := Lib.hid (⟨hU, hV, hn⟩ : _ ∧ _ ∧ _)
  rw [hn] at ha ⊢
  have hbb : ((n : Int) != (n : Int)) = false := bne_self_eq_false _
  clear hU hV hn
  go_enter Tryz.func19, Tryz.ntmps19
  go_wp2_with fail
  clear hbb
  go_loopg [4, 5] n (fun g v4 iv wr => ∃ i : Nat, g + i = n ∧ iv = .int .i64 i ∧ Ext [] w wr)
  case atStart => exact ⟨0, by omega, rfl, Ext.refl _ _⟩
  case round =>
    obtain ⟨i, hgi, rfl, hx⟩ := hrel
    by_cases hlt : i < n
    case neg =>
      obtain rfl : gk = 0 := by omega
      have HX := Lib.hid hx
      clear hx
      go_wp2_with fail
      go_ret
      exact ⟨rfl, HX.out⟩
    case pos =>
    obtain ⟨g, rfl⟩ : ∃ g, gk = g + 1 := ⟨gk - 1, by omega⟩
    have hltz : (i : Int) < (n : Int) := by omega
    have hia : i < a.length := by rw [HH.out.2.2]; exact hlt
    obtain ⟨b1, o1, rfl, x1, x2⟩ := HH.out.1 i hia
    obtain ⟨b2, o2, rfl, y1, y2⟩ := HH.out.2.1 i hia
    have x1 := hx.cell x1
    have x2 := hx.cell x2
    have y1 := hx.cell y1
    have y2 := hx.cell y2
    generalize a[i]'hia = p at *
    have HX := Lib.hid hx
    clear hx
    go_upto_region 6 with (fail)
    go_quiet (fail)
    go_wp2_with fail
    go_roundg g
    case measure => omega
    case rel => exact ⟨i + 1, by omega, by go_num, HX.out.drewN _⟩
set_option maxRecDepth 100000 in
set_option maxHeartbeats 1000000 in
theorem lref_walk (n : Int) (hn : -9223372036854775808 ≤ n ∧ n ≤ 9223372036854775807) (w : World) : Calls Tryz.prog 7 #[.int .i64 n] w fun e w' => ∃ b c, e = .returned (.slice b 1 c) ∧ Ext [] w w' ∧ NodesAt w' (.slice b 1 c) [rfNd n] := by
  go_enter Tryz.func7, Tryz.ntmps7
  go_wp2_with fail
  go_ret
  exact ⟨_, _, rfl, (Ext.refl [] w).alloc _, one_nodes (x := rfNd n) (heap_alloc_at _) rfl hn (by show (0 : Nat) ≤ _; omega)⟩
end Go.Proofs.YtgpgamohcafklaaGreatDoor.Rc

/-! RcL: law27.example walked. -/
namespace Go.Proofs.YtgpgamohcafklaaGreatDoor.Rc
open Go.RowKit
open Go.Proofs.YtgpgamohcafklaaGreatDoor.Tr

theorem strs27 {w : World} {g : Nat} {a : ByteArray} {t : TypeId} {f : Nat × Nat} (h : w.heap[g]? = some (.cells #[.string a] t f)) : StrsAt w (.slice (some ⟨g, 0, none⟩) 1 1) [a] :=
  ⟨_, 1, rfl, Nat.le_refl _, fun i hi => by
    match i, hi with
    | 0, _ => exact ⟨g, 0, rfl, cellOf h 0⟩⟩
theorem trees27 {w : World} {g : Nat} {u : Value} {a : List Nd} {t : TypeId} {f : Nat × Nat} (h : w.heap[g]? = some (.cells #[u] t f)) (hu : NodesAt w u a) : TreesAt w (.slice (some ⟨g, 0, none⟩) 1 1) [a] :=
  ⟨_, 1, rfl, Nat.le_refl _, fun i hi => by
    match i, hi with
    | 0, _ => exact ⟨g, 0, u, rfl, cellOf h 0, hu⟩⟩
theorem trees27b {w : World} {g : Nat} {u v : Value} {a b : List Nd} {t : TypeId} {f : Nat × Nat} (h : w.heap[g]? = some (.cells #[u, v] t f)) (hu : NodesAt w u a) (hv : NodesAt w v b) : TreesAt w (.slice (some ⟨g, 0, none⟩) 2 2) [a, b] :=
  ⟨_, 2, rfl, Nat.le_refl _, fun i hi => by
    match i, hi with
    | 0, _ => exact ⟨g, 0, u, rfl, cellOf h 0, hu⟩
    | 1, _ => exact ⟨g, 0, v, rfl, cellOf h 1, hv⟩⟩
theorem oms27 {w : World} {g : Nat} {x y z : Om} {t : TypeId} {f : Nat × Nat} (h : w.heap[g]? = some (.cells #[.int .i64 x.num, .int .i64 x.gen, x.tv, .bool x.stream, .string x.data, .int .i64 y.num, .int .i64 y.gen, y.tv, .bool y.stream, .string y.data, .int .i64 z.num, .int .i64 z.gen, z.tv, .bool z.stream, .string z.data] t f))
    (hx : NodesAt w x.tv x.tree) (hy : NodesAt w y.tv y.tree) (hz : NodesAt w z.tv z.tree) : OmsAt w (.slice (some ⟨g, 0, none⟩) 3 3) [x, y, z] :=
  ⟨_, 3, rfl, Nat.le_refl _, fun i hi => by
    match i, hi with
    | 0, _ => exact ⟨g, 0, rfl, cellOf h 0, cellOf h 1, cellOf h 2, cellOf h 3, cellOf h 4, hx⟩
    | 1, _ => exact ⟨g, 0, rfl, cellOf h 5, cellOf h 6, cellOf h 7, cellOf h 8, cellOf h 9, hy⟩
    | 2, _ => exact ⟨g, 0, rfl, cellOf h 10, cellOf h 11, cellOf h 12, cellOf h 13, cellOf h 14, hz⟩⟩
/-- a tree of other blocks than a graph's that is nought -/
theorem nodes_past {w w' : World} {b : Nat} {v : Value} {l : List Nd} {t : TypeId} {f : Nat × Nat} (h : NodesAt w v l) (hk : ∀ x ∈ l, ∀ k ∈ x.kids, k ≠ 0) (hb : w.heap[b]? = some (.cells #[.slice none 0 0, .int .i64 0, .int .i64 0] t f)) (hx : Ext [b] w w') : NodesAt w' v l := by
  obtain ⟨base, cap, h1, h2, h3⟩ := h
  refine ⟨base, cap, h1, h2, fun i hi => ?_⟩
  obtain ⟨p, o, hp, n1, n2, n3, n4, nw, kb, kc, n5, hI⟩ := h3 i hi
  have hpb : p ≠ b := fun e => by
    subst e
    rw [cellOf hb] at n5
    simp [show o + i * 5 + 4 = (o + i * 5 + 1) + 3 by omega] at n5
  have hS : p ∉ [b] := by simpa using hpb
  refine ⟨p, o, hp, (ExS.mk _ hx).cell n1 hS, (ExS.mk _ hx).cell n2 hS, (ExS.mk _ hx).cell n3 hS, (ExS.mk _ hx).cell n4 hS, nw, kb, kc, (ExS.mk _ hx).cell n5 hS, fun j hj => ?_⟩
  obtain ⟨q, r, hq, c1⟩ := hI j hj
  have hne := hk _ (List.getElem_mem hi) _ (List.getElem_mem hj)
  have hqb : q ≠ b := fun e => by
    subst e
    rw [cellOf hb] at c1
    match hr : r + j with
    | 0 => rw [hr] at c1; simp at c1
    | 1 => rw [hr] at c1; simp at c1; exact hne c1.symm
    | 2 => rw [hr] at c1; simp at c1; exact hne c1.symm
    | m + 3 => rw [hr] at c1; simp at c1
  exact ⟨q, r, hq, (ExS.mk _ hx).cell c1 (by simpa using hqb)⟩
theorem kids27 : (∀ x ∈ dL27, ∀ k ∈ x.kids, k ≠ 0) ∧ (∀ x ∈ [nuNd], ∀ k ∈ x.kids, k ≠ 0) ∧ (∀ x ∈ [rfNd 1], ∀ k ∈ x.kids, k ≠ 0) := ⟨by decide, by decide, by decide⟩
theorem ex27_dict : dictionN [⟨#[65]⟩] [aL27] = (dL27, 0) := by kernel_rfl
set_option maxRecDepth 100000 in
set_option maxHeartbeats 8000000 in
theorem example_walk27 (w : World) : Calls Tryz.prog 5 #[] w fun e w' => ∃ v a b c, e = .returned (.agg #[v, .int .i64 1, .int .i64 0]) ∧ Ext [] w w' ∧ OmsAt w' v (ex27 a b c) := by
  have H2 := Lib.hid (fun W => lref_walk 2 (by decide) W)
  have H9 := Lib.hid (fun W => lref_walk 9 (by decide) W)
  have H1 := Lib.hid (fun W => lref_walk 1 (by decide) W)
  have HA := Lib.hid (fun v W (hv : TreesAt W v [[rfNd 2], [rfNd 9]]) => array17_walk v _ W hv (by decide) (fun l hl => by
    simp only [List.mem_cons, List.not_mem_nil, or_false] at hl
    rcases hl with rfl | rfl <;> exact ⟨by decide, by decide⟩))
  simp only [ex27_arr] at HA
  have HD := Lib.hid (fun u v W (hu : StrsAt W u [⟨#[65]⟩]) (hv : TreesAt W v [aL27]) => dict17X_walk u v _ _ W hu hv (by decide) (by decide) (by decide) (fun l hl => by
    obtain rfl := List.mem_singleton.1 hl
    exact ⟨by decide, by decide⟩))
  simp only [ex27_dict] at HD
  have hbR := heap_alloc_at (w := w) (.cells #[.slice none 0 0, .int .i64 0, .int .i64 0] 26)
  obtain ⟨W0, hW0⟩ : ∃ W0, w.alloc (Obj.cells #[.slice none 0 0, .int .i64 0, .int .i64 0] 26) = W0 := ⟨_, rfl⟩
  have hx0 : Ext [] w W0 := by rw [← hW0]; exact (Ext.refl [] w).alloc _
  rw [hW0] at hbR
  have HB := Lib.hid (⟨hx0, hbR⟩ : _ ∧ _)
  clear hx0 hbR
  go_enter Tryz.func5, Tryz.ntmps5
  go_upto_region 1 with (fail)
  clear hW0
  go_wp2_with fail
  refine (H2.out _).mono ?_
  rintro e w1 ⟨b1, q1, rfl, hx, hN⟩
  have HX1 := Lib.hid (⟨hx, hN⟩ : _ ∧ _)
  clear hx hN H2
  go_wp2_with fail
  refine (H9.out _).mono ?_
  rintro e w2 ⟨b2, q2, rfl, hx, hN⟩
  have HX2 := Lib.hid (⟨HX1.out.1.trans hx, HX1.out.2.ext hx, hN⟩ : _ ∧ _ ∧ _)
  clear hx hN H9 HX1
  go_wp2_with fail
  refine (HA.out _ _ (trees27b (heap_alloc_at _) (HX2.out.2.1.ext ((Ext.refl [] w2).alloc _)) (HX2.out.2.2.ext ((Ext.refl [] w2).alloc _)))).mono ?_
  rintro e w3 ⟨v3, rfl, hx, hN⟩
  have HX3 := Lib.hid (⟨(HX2.out.1.alloc _).trans hx, hN⟩ : _ ∧ _)
  obtain ⟨ab, ac, rfl, -⟩ := hN
  clear hx HA HX2
  have hbS := heap_alloc_old (.cells #[.slice ab aL27.length ac] 30) (heap_alloc_at (w := w3) (.cells #[.string ⟨#[65]⟩] 9))
  have hbT := heap_alloc_at (w := w3.alloc (.cells #[.string ⟨#[65]⟩] 9)) (.cells #[.slice ab aL27.length ac] 30)
  rw [show (w3.alloc (.cells #[.string ⟨#[65]⟩] 9)).heap.size = w3.heap.size + 1 from by simp] at hbT
  have hxS : Ext [] w3 ((w3.alloc (.cells #[.string ⟨#[65]⟩] 9)).alloc (.cells #[.slice ab aL27.length ac] 30)) := ((Ext.refl [] w3).alloc _).alloc _
  have HD2 := Lib.hid (HD.out _ _ _ (strs27 hbS) (trees27 hbT (HX3.out.2.ext hxS)))
  have HXS := Lib.hid hxS
  clear hbS hbT hxS HD
  go_wp2_with fail
  refine HD2.out.mono ?_
  rintro e w4 ⟨v4, rfl, hx, hN⟩
  have HX4 := Lib.hid (⟨(HX3.out.1.trans HXS.out).trans hx, hN⟩ : _ ∧ _)
  obtain ⟨db, dc, rfl, -⟩ := hN
  clear hx HD2 HXS HX3
  go_wp2_with fail
  refine (H1.out _).mono ?_
  rintro e w5 ⟨b5, q5, rfl, hx, hN⟩
  have hb4 := hx.keep (heap_alloc_at (w := w4) (.cells #[.int .i64 1, .int .i64 0, .int .i64 0, .string ⟨#[]⟩, .slice none 0 0] 47)) (by simp)
  have HX5 := Lib.hid (⟨HX4.out.1.trans (((Ext.refl [] w4).alloc _).trans hx), HX4.out.2.ext (((Ext.refl [] w4).alloc _).trans hx), one_nodes (x := nuNd) hb4 rfl (by decide) (by decide), hN⟩ : _ ∧ _ ∧ _ ∧ _)
  have hbR := (HX4.out.1.trans (((Ext.refl [] w4).alloc (.cells #[.int .i64 1, .int .i64 0, .int .i64 0, .string ⟨#[]⟩, .slice none 0 0] 47)).trans hx)).keep HB.out.2 (by simp)
  obtain ⟨p4, hp4⟩ : ∃ p4, w4.heap.size = p4 := ⟨_, rfl⟩
  rw [hp4] at HX5 ⊢
  clear hx hN hb4 H1 HX4 hp4
  have hbR6 := heap_alloc_old (.cells #[.int .i64 1, .int .i64 0, .slice db dL27.length dc, .bool false, .string ⟨#[]⟩, .int .i64 2, .int .i64 0, .slice (some ⟨p4, 0, none⟩) 1 1, .bool false, .string ⟨#[]⟩, .int .i64 3, .int .i64 0, .slice b5 1 q5, .bool false, .string ⟨#[]⟩] 33) hbR
  have hbO := heap_alloc_at (w := w5) (.cells #[.int .i64 1, .int .i64 0, .slice db dL27.length dc, .bool false, .string ⟨#[]⟩, .int .i64 2, .int .i64 0, .slice (some ⟨p4, 0, none⟩) 1 1, .bool false, .string ⟨#[]⟩, .int .i64 3, .int .i64 0, .slice b5 1 q5, .bool false, .string ⟨#[]⟩] 33)
  have hxO : Ext [] w5 (w5.alloc (.cells #[.int .i64 1, .int .i64 0, .slice db dL27.length dc, .bool false, .string ⟨#[]⟩, .int .i64 2, .int .i64 0, .slice (some ⟨p4, 0, none⟩) 1 1, .bool false, .string ⟨#[]⟩, .int .i64 3, .int .i64 0, .slice b5 1 q5, .bool false, .string ⟨#[]⟩] 33)) := (Ext.refl [] w5).alloc _
  have l0 := cellOf hbR6 0
  have l1 := cellOf hbR6 1
  have l2 := cellOf hbR6 2
  have f0 := freeOf hbR6 0
  have f1 := freeOf hbR6 1
  have f2 := freeOf hbR6 2
  have HZ := Lib.hid (⟨hbR6, hbO, hxO⟩ : _ ∧ _ ∧ _)
  clear hbR hbR6 hbO hxO
  go_wp2_with fail
  (try simp only [Exit.inBlock, Exit.then])
  refine bodyPost_ret (results_cell_row rfl _ _ w.heap.size 26 #[.slice (some ⟨w5.heap.size, 0, none⟩) 3 3, .int .i64 1, .int .i64 0] (0, 0) _ rfl (heap_setCell_same (heap_setCell_same (heap_setCell_same HZ.out.1 _) _) _) Tryz.underlying26 rfl sizeGraph) rfl ?_
  have hlt : w.heap.size < w5.heap.size := Nat.lt_of_lt_of_le (lt_of_block HB.out.2) HX5.out.1.size
  have hin : w.heap.size ∈ [w.heap.size] := by simp
  have hq := (((Ext.refl [w.heap.size] (w5.alloc (.cells #[.int .i64 1, .int .i64 0, .slice db dL27.length dc, .bool false, .string ⟨#[]⟩, .int .i64 2, .int .i64 0, .slice (some ⟨p4, 0, none⟩) 1 1, .bool false, .string ⟨#[]⟩, .int .i64 3, .int .i64 0, .slice b5 1 q5, .bool false, .string ⟨#[]⟩] 33))).setCell ⟨w.heap.size, 0, none⟩ (.slice (some ⟨w5.heap.size, 0, none⟩) 3 3) (.inl hin)).setCell ⟨w.heap.size, 1, none⟩ (.int .i64 1) (.inl hin)).setCell ⟨w.heap.size, 2, none⟩ (.int .i64 0) (.inl hin)
  have hle : w.heap.size ≤ w.heap.size := Nat.le_refl _
  have hxF := ((((HB.out.1.trans HX5.out.1).trans HZ.out.2.2).setCell ⟨w.heap.size, 0, none⟩ (.slice (some ⟨w5.heap.size, 0, none⟩) 3 3) (.inr hle)).setCell ⟨w.heap.size, 1, none⟩ (.int .i64 1) (.inr hle)).setCell ⟨w.heap.size, 2, none⟩ (.int .i64 0) (.inr hle)
  refine ⟨_, .slice db dL27.length dc, .slice (some ⟨p4, 0, none⟩) 1 1, .slice b5 1 q5, rfl, hxF, oms27 (x := ob27 1 0 (.slice db dL27.length dc) dL27) (y := ob27 2 0 (.slice (some ⟨p4, 0, none⟩) 1 1) [nuNd]) (z := ob27 3 0 (.slice b5 1 q5) [rfNd 1]) (hq.keep HZ.out.2.1 (by simp; omega)) (nodes_past (HX5.out.2.1.ext HZ.out.2.2) kids27.1 HZ.out.1 hq) (nodes_past (HX5.out.2.2.1.ext HZ.out.2.2) kids27.2.1 HZ.out.1 hq) (nodes_past (HX5.out.2.2.2.ext HZ.out.2.2) kids27.2.2 HZ.out.1 hq)⟩
end Go.Proofs.YtgpgamohcafklaaGreatDoor.Rc

/-! RcT: law27.lives walked. -/
namespace Go.Proofs.YtgpgamohcafklaaGreatDoor.Rc
open Go.RowKit
open Go.Proofs.YtgpgamohcafklaaGreatDoor.Tr
open Go.Proofs.YtgpgamohcafklaaGreatDoor.So

theorem refs_ext {w w' : World} {v : Value} {l : List (Int × Int)} (h : RefsAt w v l) (hx : Ext [] w w') : RefsAt w' v l := by
  obtain ⟨base, cap, h1, h2, h3⟩ := h
  refine ⟨base, cap, h1, h2, fun i hi => ?_⟩
  obtain ⟨b, o, e, c1, c2⟩ := h3 i hi
  exact ⟨b, o, e, hx.cell c1, hx.cell c2⟩
theorem cells_refs {w : World} {v : Value} {E : List Rf} (h : Cells w 2 encRf v E) : RefsAt w v E := by
  obtain ⟨base, cap, h1, h2, h3⟩ := h
  refine ⟨base, cap, h1, h2, fun i hi => ?_⟩
  obtain ⟨b, o, e, hc⟩ := h3 i hi
  exact ⟨b, o, e, hc 0 _ rfl, hc 1 _ rfl⟩
theorem lit_refs1 {w : World} {g : Nat} {a b : Int} {t : TypeId} {f : Nat × Nat} (h : w.heap[g]? = some (.cells #[.int .i64 a, .int .i64 b] t f)) : RefsAt w (.slice (some ⟨g, 0, none⟩) 1 1) [(a, b)] :=
  ⟨_, 1, rfl, Nat.le_refl _, fun i hi => by
    match i, hi with
    | 0, _ => exact ⟨g, 0, rfl, cellOf h 0, cellOf h 1⟩⟩
theorem lit_refs2 {w : World} {g : Nat} {a b c d : Int} {t : TypeId} {f : Nat × Nat} (h : w.heap[g]? = some (.cells #[.int .i64 a, .int .i64 b, .int .i64 c, .int .i64 d] t f)) : RefsAt w (.slice (some ⟨g, 0, none⟩) 2 2) [(a, b), (c, d)] :=
  ⟨_, 2, rfl, Nat.le_refl _, fun i hi => by
    match i, hi with
    | 0, _ => exact ⟨g, 0, rfl, cellOf h 0, cellOf h 1⟩
    | 1, _ => exact ⟨g, 0, rfl, cellOf h 2, cellOf h 3⟩⟩
theorem om_wf (n g : Int) (v : Value) (t : List Nd) (hn : -9223372036854775808 ≤ n ∧ n ≤ 9223372036854775807) (hg : -9223372036854775808 ≤ g ∧ g ≤ 9223372036854775807) (ht : Lt t) : OmWf (ob27 n g v t) := ⟨hn, hg, ht⟩
theorem ex27_wf (a b c : Value) : ∀ x ∈ ex27 a b c, OmWf x := by
  intro x hx
  simp only [ex27, List.mem_cons, List.not_mem_nil, or_false] at hx
  rcases hx with rfl | rfl | rfl
  · exact om_wf _ _ _ _ ⟨by decide, by decide⟩ ⟨by decide, by decide⟩ ex27_lt.1
  · exact om_wf _ _ _ _ ⟨by decide, by decide⟩ ⟨by decide, by decide⟩ ex27_lt.2.1
  · exact om_wf _ _ _ _ ⟨by decide, by decide⟩ ⟨by decide, by decide⟩ ex27_lt.2.2
theorem rf10 : RfWf (1, 0) := ⟨⟨by decide, by decide⟩, ⟨by decide, by decide⟩⟩
theorem ex27_refsL (a b c : Value) : refsL (1, 0) (ex27 a b c) = [(1, 0), (2, 0), (9, 0), (1, 0)] := by kernel_rfl
theorem ex27_lost (a b c : Value) : ∀ r : Rf, r ∈ [((9, 0) : Rf)] ↔ r ∈ refsL (1, 0) (ex27 a b c) ∧ hasO (ex27 a b c) r = false := by
  intro r
  rw [ex27_refsL]
  constructor
  · intro h
    obtain rfl := List.mem_singleton.1 h
    exact ⟨by simp, by kernel_rfl⟩
  · rintro ⟨h1, h2⟩
    simp only [List.mem_cons, List.not_mem_nil, or_false] at h1
    rcases h1 with rfl | rfl | rfl | rfl
    · have h3 : hasO (ex27 a b c) (1, 0) = true := by kernel_rfl
      rw [h3] at h2; cases h2
    · have h3 : hasO (ex27 a b c) (2, 0) = true := by kernel_rfl
      rw [h3] at h2; cases h2
    · simp
    · have h3 : hasO (ex27 a b c) (1, 0) = true := by kernel_rfl
      rw [h3] at h2; cases h2
set_option maxRecDepth 100000 in
set_option maxHeartbeats 8000000 in
theorem lives_walk27 (w : World) : Calls Tryz.prog 8 #[] w fun e w' => e = .returned (.bool true) ∧ Ext [] w w' := by
  have HE := Lib.hid (fun W => example_walk27 W)
  have HA := Lib.hid (fun v a b c W (h : OmsAt W v (ex27 a b c)) => all_walk v (ex27 a b c) (1, 0) W h (ex27_wf a b c) rf10 (by simp [ex27]))
  simp only [ex27_all] at HA
  have HL := Lib.hid (fun v a b c W (h : OmsAt W v (ex27 a b c)) => lost_walk v (ex27 a b c) (1, 0) W h (ex27_wf a b c) rf10 (by simp [ex27]) [(9, 0)] (by simp) (ex27_lost a b c) (by simp) (by rw [ex27_refsL]; simp))
  have HB := Lib.hid (fun v a b c W (h : OmsAt W v (ex27 a b c)) => above_walk v (ex27 a b c) (1, 0) W h (ex27_wf a b c) rf10 (by simp [ex27]) (by rw [ex27_most]; decide))
  simp only [ex27_most] at HB
  have HS2 := Lib.hid (fun u v W (hu : RefsAt W u [(1, 0), (2, 0)]) (hv : RefsAt W v [(1, 0), (2, 0)]) => sameQ_walk u v _ W hu hv (by simp))
  have HS1 := Lib.hid (fun u v W (hu : RefsAt W u [(9, 0)]) (hv : RefsAt W v [(9, 0)]) => sameQ_walk u v _ W hu hv (by simp))
  go_enter Tryz.func8, Tryz.ntmps8
  go_wp2_with fail
  refine (HE.out _).mono ?_
  rintro e w1 ⟨v, a, b, c, rfl, hx1, hO⟩
  have HO := Lib.hid (⟨hx1.alloc (.cells #[v, .int .i64 1, .int .i64 0] 26), hO.ext ((Ext.refl [] w1).alloc (.cells #[v, .int .i64 1, .int .i64 0] 26)), heap_alloc_at (w := w1) (.cells #[v, .int .i64 1, .int .i64 0] 26)⟩ : _ ∧ _ ∧ _)
  obtain ⟨vb, vc, rfl, -⟩ := hO
  clear hx1 HE
  have h3 : (ex27 a b c).length = 3 := rfl
  rw [h3] at HO ⊢
  clear h3
  go_upto_region 2 with (fail)
  obtain ⟨W, hW⟩ : ∃ W, w1.alloc (.cells #[.slice vb 3 vc, .int .i64 1, .int .i64 0] 26) = W := ⟨_, rfl⟩
  obtain ⟨p, hp⟩ : ∃ p, w1.heap.size = p := ⟨_, rfl⟩
  rw [hW, hp] at HO
  rw [hW, hp]
  have c0 := cellOf HO.out.2.2 0
  have c1 := cellOf HO.out.2.2 1
  have c2 := cellOf HO.out.2.2 2
  clear hW hp
  go_wp2_with fail
  refine (HA.out _ a b c _ HO.out.2.1).mono ?_
  rintro e w2 ⟨v2, rfl, S2⟩
  have hr2 := refs_own (S2.get 0 rfl)
  have HR2 := Lib.hid (⟨HO.out.1.trans S2.ext, HO.out.2.1.ext S2.ext, S2.ext.keep HO.out.2.2 (by simp), hr2⟩ : _ ∧ _ ∧ _ ∧ _)
  obtain ⟨rb, rc, rfl, -⟩ := hr2
  clear S2 HA c0 c1 c2
  go_wp2_with fail
  have hx3 : Ext [] w2 (w2.alloc (.cells #[.int .i64 1, .int .i64 0, .int .i64 2, .int .i64 0] 24)) := (Ext.refl [] w2).alloc _
  refine (HS2.out _ _ _ (refs_ext HR2.out.2.2.2 hx3) (lit_refs2 (heap_alloc_at _))).mono ?_
  rintro e w4 ⟨rfl, hx4⟩
  have hb4 := (hx3.trans hx4).keep HR2.out.2.2.1 (by simp)
  have HX4 := Lib.hid (⟨HR2.out.1.trans (hx3.trans hx4), HR2.out.2.1.ext (hx3.trans hx4), hb4⟩ : _ ∧ _ ∧ _)
  have c0 := cellOf hb4 0
  have c1 := cellOf hb4 1
  have c2 := cellOf hb4 2
  clear hx3 hx4 hb4 HS2 HR2 HO
  go_wp2_with fail
  refine (HL.out _ a b c _ HX4.out.2.1).mono ?_
  rintro e w5 ⟨v5, rfl, hx5, hc5⟩
  have hr5 := cells_refs hc5
  have HX5 := Lib.hid (⟨HX4.out.1.trans hx5, HX4.out.2.1.ext hx5, hx5.keep HX4.out.2.2 (by simp), hr5⟩ : _ ∧ _ ∧ _ ∧ _)
  obtain ⟨rb5, rc5, rfl, -⟩ := hr5
  clear hx5 hc5 c0 c1 c2 HX4 HL
  go_wp2_with fail
  have hx6 : Ext [] w5 (w5.alloc (.cells #[.int .i64 9, .int .i64 0] 24)) := (Ext.refl [] w5).alloc _
  refine (HS1.out _ _ _ (refs_ext HX5.out.2.2.2 hx6) (lit_refs1 (heap_alloc_at _))).mono ?_
  rintro e w7 ⟨rfl, hx7⟩
  have hb7 := (hx6.trans hx7).keep HX5.out.2.2.1 (by simp)
  have HX7 := Lib.hid (⟨HX5.out.1.trans (hx6.trans hx7), HX5.out.2.1.ext (hx6.trans hx7), hb7⟩ : _ ∧ _ ∧ _)
  have c0 := cellOf hb7 0
  have c1 := cellOf hb7 1
  have c2 := cellOf hb7 2
  clear hx6 hx7 hb7 HS1 HX5
  go_wp2_with fail
  refine (HB.out _ a b c _ HX7.out.2.1).mono ?_
  rintro e w8 ⟨rfl, hx8⟩
  have HX8 := Lib.hid (HX7.out.1.trans hx8)
  clear hx8 c0 c1 c2 HB HX7
  go_wp2_with fail
  go_ret
  exact ⟨rfl, HX8.out⟩
end Go.Proofs.YtgpgamohcafklaaGreatDoor.Rc

/-! RcU: law27.ReachNames walked. -/
namespace Go.Proofs.YtgpgamohcafklaaGreatDoor.Rc
open Go.RowKit
open Go.Proofs.YtgpgamohcafklaaGreatDoor.Tr
open Go.Proofs.YtgpgamohcafklaaGreatDoor.So

theorem oms_nil (w : World) : OmsAt w (.slice none 0 0) [] := ⟨none, 0, rfl, Nat.le_refl _, fun i hi => by simp at hi⟩
theorem rf00 : RfWf (0, 0) := ⟨⟨by decide, by decide⟩, ⟨by decide, by decide⟩⟩
abbrev oA (v : Value) : Om := ⟨2, 5, v, false, ⟨#[]⟩, [rfNd 1]⟩
abbrev oB (v : Value) : Om := ⟨9, 0, v, false, ⟨#[]⟩, [rfNd 3]⟩
theorem put27_wf (a b c d : Value) : ∀ x ∈ [ob27 1 0 a dL27, ob27 2 0 b [nuNd], ob27 3 0 c [rfNd 1], oB d], OmWf x := by
  intro x hx
  simp only [List.mem_cons, List.not_mem_nil, or_false] at hx
  rcases hx with rfl | rfl | rfl | rfl
  · exact om_wf _ _ _ _ ⟨by decide, by decide⟩ ⟨by decide, by decide⟩ ex27_lt.1
  · exact om_wf _ _ _ _ ⟨by decide, by decide⟩ ⟨by decide, by decide⟩ ex27_lt.2.1
  · exact om_wf _ _ _ _ ⟨by decide, by decide⟩ ⟨by decide, by decide⟩ ex27_lt.2.2
  · exact om_wf 9 0 d [rfNd 3] ⟨by decide, by decide⟩ ⟨by decide, by decide⟩ ⟨by decide, by decide⟩
theorem eqR (w : World) : (binOp .eql 24 (.agg #[.int .i64 1, .int .i64 0]) (.agg #[.int .i64 1, .int .i64 0])).run Tryz.prog w = .ok (.bool true) w := by kernel_rfl
set_option maxRecDepth 100000 in
set_option maxHeartbeats 16000000 in
theorem names27_law (w : World) : Calls Tryz.prog 3 #[] w fun e w' => e = .returned (.bool true) ∧ Ext [] w w' := by
  have HE := Lib.hid (fun W => example_walk27 W)
  have H1 := Lib.hid (fun W => lref_walk 1 (by decide) W)
  have H3 := Lib.hid (fun W => lref_walk 3 (by decide) W)
  have HLv := Lib.hid (fun W => lives_walk27 W)
  have HR := Lib.hid (fun v a b c W (h : OmsAt W v (ex27 a b c)) => reach_walk v (ex27 a b c) (1, 0) W h (ex27_wf a b c) rf10 (by simp [ex27]))
  simp only [ex27_reach] at HR
  have HPm := Lib.hid (fun v a b c tv W (h : OmsAt W v (ex27 a b c)) (ho : NodesAt W tv [rfNd 1]) => put_mid v (ob27 1 0 a dL27) (ob27 2 0 b [nuNd]) (ob27 3 0 c [rfNd 1]) (oA tv) 1 0 W h ho (by show (1 : Int) < 2; decide) rfl (by show (2 : Int) < 3; decide))
  have HPe := Lib.hid (fun v a b c tv W (h : OmsAt W v (ex27 a b c)) (ho : NodesAt W tv [rfNd 3]) => put_end v (ob27 1 0 a dL27) (ob27 2 0 b [nuNd]) (ob27 3 0 c [rfNd 1]) (oB tv) 1 0 W h ho (by show (1 : Int) < 9; decide) (by show (2 : Int) < 9; decide) (by show (3 : Int) < 9; decide))
  have HA := Lib.hid (fun v a b c d W (h : OmsAt W v [ob27 1 0 a dL27, ob27 2 0 b [nuNd], ob27 3 0 c [rfNd 1], oB d]) => all_walk v _ (1, 0) W h (put27_wf a b c d) rf10 (by simp))
  simp only [show ∀ a b c d, allN (1, 0) [ob27 1 0 a dL27, ob27 2 0 b [nuNd], ob27 3 0 c [rfNd 1], oB d] = [(1, 0), (2, 0), (9, 0), (3, 0)] from fun a b c d => ex27_put a b c d] at HA
  have HA0 := Lib.hid (fun W => all_walk (.slice none 0 0) [] (0, 0) W (oms_nil W) (fun x hx => by cases hx) rf00 (by simp))
  simp only [ex27_none.1] at HA0
  have HB0 := Lib.hid (fun W => above_walk (.slice none 0 0) [] (0, 0) W (oms_nil W) (fun x hx => by cases hx) rf00 (by simp) (by rw [ex27_none.2]; decide))
  simp only [ex27_none.2] at HB0
  go_enter Tryz.func3, Tryz.ntmps3
  go_wp2_with fail
  refine (HE.out _).mono ?_
  rintro e w1 ⟨v1, a1, b1, c1, rfl, hx1, hO1⟩
  have HX1 := Lib.hid (⟨hx1, hO1⟩ : _ ∧ _)
  obtain ⟨vb1, vc1, rfl, -⟩ := hO1
  clear hx1
  go_wp2_with fail
  refine (HR.out _ a1 b1 c1 _ HX1.out.2).mono ?_
  rintro e w2 ⟨v2, rfl, hx2, hO2⟩
  have HX2 := Lib.hid (⟨HX1.out.1.trans hx2, hO2⟩ : _ ∧ _)
  obtain ⟨vb2, vc2, rfl, -⟩ := hO2
  clear hx2 HX1 HR
  simp only [List.length_cons, List.length_nil, Nat.zero_add, Nat.reduceAdd] at HX2 ⊢
  go_wp2_with fail
  refine (HE.out _).mono ?_
  rintro e w3 ⟨v3, a3, b3, c3, rfl, hx3, hO3⟩
  have hxa : Ext [] w2 (w2.alloc (.cells #[.slice vb2 2 vc2, .int .i64 1, .int .i64 0] 26)) := (Ext.refl [] w2).alloc _
  have hp1 := hx3.keep (heap_alloc_at (w := w2) (.cells #[.slice vb2 2 vc2, .int .i64 1, .int .i64 0] 26)) (by simp)
  obtain ⟨p1, hq1⟩ : ∃ p1, w2.heap.size = p1 := ⟨_, rfl⟩
  rw [hq1] at hp1 ⊢
  have HX3 := Lib.hid (⟨HX2.out.1.trans (hxa.trans hx3), hp1, hO3⟩ : _ ∧ _ ∧ _)
  obtain ⟨vb3, vc3, rfl, -⟩ := hO3
  clear hx3 hxa hp1 hq1 HX2
  have h3 : (ex27 a3 b3 c3).length = 3 := rfl
  rw [h3] at HX3 ⊢
  clear h3
  go_wp2_with fail
  refine (H1.out _).mono ?_
  rintro e w4 ⟨tb4, tc4, rfl, hx4, hN4⟩
  have HX4 := Lib.hid (⟨HX3.out.1.trans hx4, hx4.keep HX3.out.2.1 (by simp), HX3.out.2.2.ext hx4, hN4⟩ : _ ∧ _ ∧ _ ∧ _)
  clear hx4 hN4 HX3 H1
  go_wp2_with fail
  refine (HPm.out _ a3 b3 c3 _ _ HX4.out.2.2.1 HX4.out.2.2.2).mono ?_
  rintro e w5 ⟨v5, rfl, hx5, hO5⟩
  obtain ⟨base5, cap5, rfl, -, hI5⟩ := hO5
  obtain ⟨b5, o5, rfl, h5⟩ := hI5 1 (by simp)
  have HX5 := Lib.hid (⟨HX4.out.1.trans hx5, hx5.keep HX4.out.2.1 (by simp), h5.gen⟩ : _ ∧ _ ∧ _)
  clear hx5 hI5 h5 HX4 HPm
  simp only [List.length_cons, List.length_nil, Nat.zero_add, Nat.reduceAdd] at HX5 ⊢
  go_wp2_with fail
  refine (HE.out _).mono ?_
  rintro e w6 ⟨v6, a6, b6, c6, rfl, hx6, hO6⟩
  have hxa : Ext [] w5 (w5.alloc (.cells #[.slice (some ⟨b5, o5, none⟩) 3 cap5, .int .i64 1, .int .i64 0] 26)) := (Ext.refl [] w5).alloc _
  have hp2 := hx6.keep (heap_alloc_at (w := w5) (.cells #[.slice (some ⟨b5, o5, none⟩) 3 cap5, .int .i64 1, .int .i64 0] 26)) (by simp)
  obtain ⟨p2, hq2⟩ : ∃ p2, w5.heap.size = p2 := ⟨_, rfl⟩
  rw [hq2] at hp2 ⊢
  have HX6 := Lib.hid (⟨HX5.out.1.trans (hxa.trans hx6), (hxa.trans hx6).keep HX5.out.2.1 (by simp), (hxa.trans hx6).cell HX5.out.2.2, hp2, hO6⟩ : _ ∧ _ ∧ _ ∧ _ ∧ _)
  obtain ⟨vb6, vc6, rfl, -⟩ := hO6
  clear hx6 hxa hp2 hq2 HX5 HE
  have h3 : (ex27 a6 b6 c6).length = 3 := rfl
  rw [h3] at HX6 ⊢
  clear h3
  go_wp2_with fail
  refine (H3.out _).mono ?_
  rintro e w7 ⟨tb7, tc7, rfl, hx7, hN7⟩
  have HX7 := Lib.hid (⟨HX6.out.1.trans hx7, hx7.keep HX6.out.2.1 (by simp), hx7.cell HX6.out.2.2.1, hx7.keep HX6.out.2.2.2.1 (by simp), HX6.out.2.2.2.2.ext hx7, hN7⟩ : _ ∧ _ ∧ _ ∧ _ ∧ _ ∧ _)
  clear hx7 hN7 HX6 H3
  go_wp2_with fail
  refine (HPe.out _ a6 b6 c6 _ _ HX7.out.2.2.2.2.1 HX7.out.2.2.2.2.2).mono ?_
  rintro e w8 ⟨v8, rfl, hx8, hO8⟩
  have HX8 := Lib.hid (⟨HX7.out.1.trans hx8, hx8.keep HX7.out.2.1 (by simp), hx8.cell HX7.out.2.2.1, hx8.keep HX7.out.2.2.2.1 (by simp), hO8⟩ : _ ∧ _ ∧ _ ∧ _ ∧ _)
  obtain ⟨vb8, vc8, rfl, -⟩ := hO8
  clear hx8 HX7 HPe
  simp only [List.length_cons, List.length_nil, Nat.zero_add, Nat.reduceAdd] at HX8 ⊢
  go_wp2_with fail
  have hxa : Ext [] w8 (w8.alloc (.cells #[.slice vb8 4 vc8, .int .i64 1, .int .i64 0] 26)) := (Ext.refl [] w8).alloc _
  refine (HLv.out _).mono ?_
  rintro e w9 ⟨rfl, hx9⟩
  have hp3 := hx9.keep (heap_alloc_at (w := w8) (.cells #[.slice vb8 4 vc8, .int .i64 1, .int .i64 0] 26)) (by simp)
  obtain ⟨p3, hq3⟩ : ∃ p3, w8.heap.size = p3 := ⟨_, rfl⟩
  rw [hq3] at hp3 ⊢
  have hp1 := (hxa.trans hx9).keep HX8.out.2.1 (by simp)
  have hp2 := (hxa.trans hx9).keep HX8.out.2.2.2.1 (by simp)
  have k5 := (hxa.trans hx9).cell HX8.out.2.2.1
  have e0 := cellOf hp1 0
  have e1 := cellOf hp1 1
  have e2 := cellOf hp1 2
  have f0 := cellOf hp2 0
  have g0 := cellOf hp3 0
  have g1 := cellOf hp3 1
  have g2 := cellOf hp3 2
  have hE := eqR w9
  have HX9 := Lib.hid (⟨HX8.out.1.trans (hxa.trans hx9), HX8.out.2.2.2.2.ext (hxa.trans hx9)⟩ : _ ∧ _)
  clear hx9 hxa hp1 hp2 hp3 hq3 HX8 HLv
  go_wp2_with fail
  refine (HA.out _ a6 b6 c6 _ _ HX9.out.2).mono ?_
  rintro e w10 ⟨v10, rfl, S10⟩
  have hr10 : w10.ownsRow 0 24 2 v10 4 (rfC [(1, 0), (2, 0), (9, 0), (3, 0)]) := S10.get 0 rfl
  obtain ⟨rb10, rc10, rfl⟩ := row_slice hr10
  have HX10 := Lib.hid (HX9.out.1.trans S10.ext)
  clear S10 hr10 HA HX9 e0 e1 e2 f0 g0 g1 g2 k5 hE
  go_wp2_with fail
  refine (HA0.out _).mono ?_
  rintro e w11 ⟨v11, rfl, S11⟩
  have hr11 : w11.ownsRow 0 24 2 v11 0 (rfC []) := S11.get 0 rfl
  obtain ⟨rb11, rc11, rfl⟩ := row_slice hr11
  have HX11 := Lib.hid (HX10.out.trans S11.ext)
  clear S11 hr11 HA0 HX10
  go_wp2_with fail
  refine (HB0.out _).mono ?_
  rintro e w12 ⟨rfl, hx12⟩
  have HX12 := Lib.hid (HX11.out.trans hx12)
  clear hx12 HB0 HX11
  go_wp2_with fail
  go_ret
  exact ⟨rfl, HX12.out⟩
end Go.Proofs.YtgpgamohcafklaaGreatDoor.Rc
