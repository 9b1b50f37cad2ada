/-
  tree: shape walked: where each value ends, how deep each node stands.
-/
import Derived.Test.YtkjcjklnclahdaaDoorTrB
import Derived.Deep.CutBlock
import Derived.Deep.DeepCutAuto
import Derived.Laws.OwnMore
namespace Go.Proofs.YtkjcjklnclahdaaDoor.Tr
open Go.RowKit

/-! ### rows of k cells each -/
theorem row_open {w : World} {e : TypeId} {g n k cap : Nat} {xs : List Value} (h : w.ownsRow 0 e k (.slice (some ⟨g, 0, none⟩) n cap) n xs) :
    ∃ cur, w.heap[g]? = some (.cells cur e (0, 0)) ∧ n ≤ cap ∧ cap ≤ maxLen ∧ cur.size = cap * k ∧ cur.toList.take (n * k) = xs := by
  rcases h.2 with ⟨h0, _⟩ | ⟨g', cap', cur, hv, _, hgr, hnc, hcm, hcs, htake⟩
  · cases h0
  · cases hv
    exact ⟨cur, hgr, hnc, hcm, hcs, htake⟩
theorem row_form {w : World} {e : TypeId} {n k : Nat} {v : Value} {xs : List Value} (h : w.ownsRow 0 e k v n xs) (hn : 0 < n) : ∃ g cap, v = .slice (some ⟨g, 0, none⟩) n cap := by
  rcases h.2 with ⟨_, h0⟩ | ⟨g', cap', cur, hv, _⟩
  · omega
  · exact ⟨_, _, hv⟩
theorem row_slice {w : World} {e : TypeId} {n k : Nat} {v : Value} {xs : List Value} (h : w.ownsRow 0 e k v n xs) : ∃ ao cap, v = .slice ao n cap := by
  rcases h.2 with ⟨h0, h1⟩ | ⟨g', cap', cur, hv, _⟩
  · exact ⟨none, 0, by rw [h0, h1]⟩
  · exact ⟨_, _, hv⟩
theorem row_cell {w : World} {e : TypeId} {g n k cap i : Nat} {xs : List Value} {u : Value} (h : w.ownsRow 0 e k (.slice (some ⟨g, 0, none⟩) n cap) n xs) (hi : xs[i]? = some u) : w.cell? ⟨g, i, none⟩ = some u := by
  obtain ⟨cur, hg, _, _, _, ht⟩ := row_open h
  rw [cellOf hg]
  rw [← ht, List.getElem?_take] at hi
  split at hi
  · simpa using hi
  · cases hi
theorem row_free {w : World} {e : TypeId} {g n k cap : Nat} {xs : List Value} (h : w.ownsRow 0 e k (.slice (some ⟨g, 0, none⟩) n cap) n xs) (i : Nat) : w.frozen? ⟨g, i, none⟩ = false := by
  obtain ⟨cur, hg, _⟩ := row_open h
  exact freeOf hg i
theorem row_put {w : World} {e : TypeId} {g n k cap i : Nat} {xs : List Value} (h : w.ownsRow 0 e k (.slice (some ⟨g, 0, none⟩) n cap) n xs) (u : Value) : (w.setCell ⟨g, i, none⟩ u).ownsRow 0 e k (.slice (some ⟨g, 0, none⟩) n cap) n (xs.set i u) := by
  obtain ⟨cur, hg, h1, h2, h3, ht⟩ := row_open h
  refine ⟨by simpa using h.1, .inr ⟨g, cap, cur.setIfInBounds i u, rfl, Nat.zero_le _, heap_setCell_same hg u, h1, h2, by simpa using h3, ?_⟩⟩
  rw [← ht]
  simp [List.take_set]
theorem row_less {w : World} {e : TypeId} {g n k cap m : Nat} {xs : List Value} (h : w.ownsRow 0 e k (.slice (some ⟨g, 0, none⟩) n cap) n xs) (hm : m ≤ n) : w.ownsRow 0 e k (.slice (some ⟨g, 0, none⟩) m cap) m (xs.take (m * k)) := by
  obtain ⟨cur, hg, h1, h2, h3, ht⟩ := row_open h
  have hl := h.1
  have hmk : m * k ≤ n * k := Nat.mul_le_mul_right k hm
  refine ⟨by rw [List.length_take]; omega, .inr ⟨g, cap, cur, rfl, Nat.zero_le _, hg, by omega, h2, h3, ?_⟩⟩
  rw [← ht, List.take_take, Nat.min_eq_left hmk]
/-! ### rows of ints -/
def iz (n : Int) : Value := .int .i64 n
def zers (n : Nat) : List Int := List.replicate n 0
theorem zers_len (n : Nat) : (zers n).length = n := List.length_replicate
theorem infoInt : (Tryd.prog.info? 3).map (fun i => (i.zero, i.size, i.bytes)) = some (some (.int .i64 0), 1, 8) := by kernel_rfl
abbrev oIs (g cap : Nat) (l : List Int) : Ob := oSl 3 1 (.slice (some ⟨g, 0, none⟩) l.length cap) l.length (l.map iz)
theorem made (n : Nat) (hn : n ≤ 1048576) {w0 w : World} {L : List Ob} (S : Sep w0 w L) :
    ∃ q W, (Instr.makeSlice 35 (.int .i64 (n : Nat)) (.int .i64 (n : Nat))).run Tryd.prog w = .ok (.slice (some ⟨q, 0, none⟩) n n) W ∧ Ext [] w W ∧ Sep w0 W (oIs q n (zers n) :: L) := by
  obtain ⟨i0, hif, hz0, hz1, hz2⟩ := info_parts infoInt
  obtain ⟨wm, hmk, hown, hgrow⟩ := run_make_full (P := Tryd.prog) w 0 35 3 i0 (.int .i64 0) 1 Tryd.underlying35 hif hz0 hz1 .i64 .i64 n (by rw [hz2]; omega) (by unfold maxLen; omega) (by omega)
  have hx4 : Ext [] w wm := (Ext.refl [] w).grown hgrow (fun k hk => by cases hk)
  refine ⟨w.heap.size, wm, hmk, hx4, S.new hx4 (oIs w.heap.size n (zers n)) ?_ (fun q hq => by simp [oSl, Value.ownBlock] at hq; omega)⟩
  have hm : (madeCells (Value.int .i64 0).cells (n * 1)).toList = (zers n).map iz := by
    rw [zers, List.map_replicate, Nat.mul_one]
    exact toList_madeCells_one _ _
  rw [hm] at hown
  show wm.ownsRow 0 3 1 (.slice (some ⟨w.heap.size, 0, none⟩) (zers n).length n) (zers n).length ((zers n).map iz)
  rw [zers_len]
  exact hown
theorem ints_at {w : World} {g cap k : Nat} {l : List Int} (h : (oIs g cap l).P w) (hk : k < l.length) : w.cell? ⟨g, k, none⟩ = some (.int .i64 (l.getD k 0)) := by
  have h : w.ownsRow 0 3 1 (.slice (some ⟨g, 0, none⟩) l.length cap) l.length (l.map iz) := h
  refine row_cell h ?_
  rw [List.getElem?_map, List.getD_eq_getElem?_getD, List.getElem?_eq_getElem hk]
  rfl
theorem ints_free {w : World} {g cap : Nat} {l : List Int} (h : (oIs g cap l).P w) (k : Nat) : w.frozen? ⟨g, k, none⟩ = false := by
  have h : w.ownsRow 0 3 1 (.slice (some ⟨g, 0, none⟩) l.length cap) l.length (l.map iz) := h
  exact row_free h k
theorem ints_set {w0 w : World} {L : List Ob} {g cap k : Nat} {l : List Int} {x : Int} (S : Sep w0 w L) (i : Nat) (hi : L[i]? = some (oIs g cap l)) : Sep w0 (w.setCell ⟨g, k, none⟩ (.int .i64 x)) (L.set i (oIs g cap (l.set k x))) := by
  refine S.upd i (oIs g cap (l.set k x)) hi ((Ext.refl _ _).setCell _ _ (.inl (by simp [oSl, Value.ownBlock]))) (by simp only [oSl, List.length_set]; exact Fr.refl _ _) ?_
  have h : w.ownsRow 0 3 1 (.slice (some ⟨g, 0, none⟩) l.length cap) l.length (l.map iz) := S.get i hi
  have h2 := row_put (i := k) h (iz x)
  show (w.setCell ⟨g, k, none⟩ (iz x)).ownsRow 0 3 1 (.slice (some ⟨g, 0, none⟩) (l.set k x).length cap) (l.set k x).length ((l.set k x).map iz)
  rw [List.length_set, List.map_set]
  exact h2
theorem ints_own {w : World} {g cap : Nat} {l : List Int} (h : (oIs g cap l).P w) : IntsAt w (some ⟨g, 0, none⟩) l := fun i hi => by
  have := ints_at h hi
  rw [List.getD_eq_getElem?_getD, List.getElem?_eq_getElem hi] at this
  exact ⟨g, 0, rfl, by simpa using this⟩
/-! ### frames: a node whose kids come, and which one is next; the top first -/
abbrev Fm := Nat × Nat
def frC (T : List Fm) : List Value := T.flatMap fun p => [.int .i64 (p.1 : Nat), .int .i64 (p.2 : Nat)]
theorem frC_len (T : List Fm) : (frC T).length = T.length * 2 := by
  induction T with
  | nil => rfl
  | cons a l ih => rw [frC, List.flatMap_cons, List.length_append, ← frC, ih]; simp; omega
theorem frC_append (T U : List Fm) : frC (T ++ U) = frC T ++ frC U := by unfold frC; rw [List.flatMap_append]
theorem frC_one (p : Fm) : frC [p] = [.int .i64 (p.1 : Nat), .int .i64 (p.2 : Nat)] := by simp [frC]
theorem infoFrame : (Tryd.prog.info? 90).map (fun i => (i.zero, i.size, i.bytes)) = some (some (.agg #[.int .i64 0, .int .i64 0]), 2, 16) := by kernel_rfl
def oFr (v : Value) (T : List Fm) : Ob := oSl 90 2 v T.length (frC T.reverse)
theorem fr_top {w : World} {v : Value} {a k : Nat} {T : List Fm} (h : (oFr v ((a, k) :: T)).P w) :
    ∃ g cap, v = .slice (some ⟨g, 0, none⟩) (T.length + 1) cap ∧ w.cell? ⟨g, T.length * 2, none⟩ = some (.int .i64 (a : Nat)) ∧ w.cell? ⟨g, T.length * 2 + 1, none⟩ = some (.int .i64 (k : Nat)) ∧ w.frozen? ⟨g, T.length * 2 + 1, none⟩ = false := by
  have h : w.ownsRow 0 90 2 v (T.length + 1) (frC ((a, k) :: T).reverse) := h
  obtain ⟨g, cap, rfl⟩ := row_form h (by omega)
  have e : frC ((a, k) :: T).reverse = frC T.reverse ++ [.int .i64 (a : Nat), .int .i64 (k : Nat)] := by rw [List.reverse_cons, frC_append, frC_one]
  rw [e] at h
  have hl : (frC T.reverse).length = T.length * 2 := by rw [frC_len, List.length_reverse]
  refine ⟨g, cap, rfl, row_cell h ?_, row_cell h ?_, row_free h _⟩
  · rw [List.getElem?_append_right (by omega), hl, Nat.sub_self]; rfl
  · rw [List.getElem?_append_right (by omega), hl, show T.length * 2 + 1 - T.length * 2 = 1 by omega]; rfl
theorem fr_kid {w : World} {g cap a k k2 : Nat} {T : List Fm} (h : (oFr (.slice (some ⟨g, 0, none⟩) (T.length + 1) cap) ((a, k) :: T)).P w) :
    (oFr (.slice (some ⟨g, 0, none⟩) (T.length + 1) cap) ((a, k2) :: T)).P (w.setCell ⟨g, T.length * 2 + 1, none⟩ (.int .i64 (k2 : Nat))) := by
  have h : w.ownsRow 0 90 2 (.slice (some ⟨g, 0, none⟩) (T.length + 1) cap) (T.length + 1) (frC ((a, k) :: T).reverse) := h
  have h2 := row_put (i := T.length * 2 + 1) h (.int .i64 (k2 : Nat))
  have e : (frC ((a, k) :: T).reverse).set (T.length * 2 + 1) (.int .i64 (k2 : Nat)) = frC ((a, k2) :: T).reverse := by
    have hl : (frC T.reverse).length = T.length * 2 := by rw [frC_len, List.length_reverse]
    rw [List.reverse_cons, List.reverse_cons, frC_append, frC_append, frC_one, frC_one, List.set_append_right _ _ (by omega), hl, show T.length * 2 + 1 - T.length * 2 = 1 by omega]
    rfl
  rw [e] at h2
  exact h2
theorem fr_pop {w : World} {g cap : Nat} {p : Fm} {T : List Fm} (h : (oFr (.slice (some ⟨g, 0, none⟩) (T.length + 1) cap) (p :: T)).P w) : (oFr (.slice (some ⟨g, 0, none⟩) T.length cap) T).P w := by
  have h : w.ownsRow 0 90 2 (.slice (some ⟨g, 0, none⟩) (T.length + 1) cap) (T.length + 1) (frC (p :: T).reverse) := h
  have h2 := row_less h (Nat.le_succ T.length)
  have e : (frC (p :: T).reverse).take (T.length * 2) = frC T.reverse := by
    have hl : (frC T.reverse).length = T.length * 2 := by rw [frC_len, List.length_reverse]
    rw [List.reverse_cons, frC_append, ← hl, List.take_left']
    rfl
  rw [e] at h2
  exact h2
theorem cells_fr (w : World) (a k : Nat) (t : TypeId) (f : Nat × Nat := (0, 0)) : ∀ j u, (frC [(a, k)])[j]? = some u → (w.alloc (.cells #[.int .i64 (a : Nat), .int .i64 (k : Nat)] t f)).cell? ((⟨w.heap.size, 0, none⟩ : Addr).add j) = some u := by
  intro j u h
  have e : (⟨w.heap.size, 0, none⟩ : Addr).add j = ⟨w.heap.size, j, none⟩ := by unfold Addr.add; split <;> simp_all
  rw [e, cellOf (heap_alloc_at _)]
  rw [frC_one] at h
  rw [← h]
  simp
/-! ### plain -/
def kidsAt (l : List Nd) (a : Nat) : List Int := match l[a]? with | some x => x.kids | none => []
/-- what is whole is taken off, and where it ends is set -/
def closeN (l : List Nd) (i : Nat) : List Fm → List Int → List Fm × List Int
  | [], E => ([], E)
  | (a, k) :: T, E => if k < (kidsAt l a).length then ((a, k) :: T, E) else closeN l i T (E.set a ((i : Int) + 1))
/-- the node i comes: the kid that the top waits for -/
def comeN (l : List Nd) (i : Nat) : List Fm → Option (List Fm)
  | [] => if 0 < i then none else some []
  | (a, k) :: T => if 0 < i then if (kidsAt l a)[k]? = some (i : Int) then some ((a, k + 1) :: T) else none else some ((a, k) :: T)
def walkN (l : List Nd) : Nat → Nat → List Fm → List Int → List Int → Option (List Fm × List Int × List Int)
  | 0, _, T, E, D => some (T, E, D)
  | g + 1, i, T, E, D => match comeN l i T with
    | none => none
    | some T2 => walkN l g (i + 1) (closeN l i ((i, 0) :: T2) E).1 (closeN l i ((i, 0) :: T2) E).2 (D.set i ((T2.length : Int) + 1))
/-- where each value ends, how deep each node stands; none: no tree's row -/
def shapeN (l : List Nd) : Option (List Int × List Int) :=
  match walkN l l.length 0 [] (zers l.length) (zers l.length) with
  | some ([], E, D) => if 0 < l.length then some (E, D) else none
  | _ => none
/-- the stack's nodes stand before i, each waiting for a kid that it has -/
def stkOk (l : List Nd) (i : Nat) (T : List Fm) : Prop := (∀ p ∈ T, p.1 < i ∧ p.2 ≤ i) ∧ T.length ≤ i ∧ (∀ p, T.head? = some p → p.2 < (kidsAt l p.1).length)
theorem close_len (l : List Nd) (i : Nat) : ∀ (T : List Fm) (E : List Int), (closeN l i T E).1.length ≤ T.length ∧ (closeN l i T E).2.length = E.length ∧ (∀ p ∈ (closeN l i T E).1, p ∈ T) ∧ (∀ p, (closeN l i T E).1.head? = some p → p.2 < (kidsAt l p.1).length)
  | [], E => by simp [closeN]
  | (a, k) :: T, E => by
    unfold closeN
    split
    · rename_i h
      refine ⟨by simp, rfl, fun p hp => hp, fun p hp => ?_⟩
      simp at hp
      subst hp
      exact h
    · obtain ⟨h1, h2, h3, h4⟩ := close_len l i T (E.set a ((i : Int) + 1))
      exact ⟨by simp; omega, by rw [h2, List.length_set], fun p hp => List.mem_cons_of_mem _ (h3 p hp), h4⟩
end Go.Proofs.YtkjcjklnclahdaaDoor.Tr
