/-
  Rows of nodes of a call's own, with their kids, and no builder about them.
-/
import Derived.Test.YtgpgamohcafklaaGreatDoorTtW
namespace Go.Proofs.YtgpgamohcafklaaGreatDoor.Tr
open Go.RowKit

def kF (Z : List Zd) : List Nat := Z.flatMap fun p => p.2.ownBlock.toList
theorem kF_append (Z U : List Zd) : kF (Z ++ U) = kF Z ++ kF U := by unfold kF; rw [List.flatMap_append]
theorem kF_mem {Z : List Zd} {p : Zd} (hp : p ∈ Z) {k : Nat} (hk : p.2.ownBlock = some k) : k ∈ kF Z := mem_kidF hp hk
def zsF (v : Value) (Z : List Zd) : List Nat := v.ownBlock.toList ++ kF Z
structure ZsP (w : World) (v : Value) (Z : List Zd) : Prop where
  row : w.ownsRow 0 47 5 v Z.length (rowN Z)
  kids : ∀ p ∈ Z, w.ownsRow 0 3 1 p.2 p.1.kids.length (p.1.kids.map iz)
  dup : (zsF v Z).Nodup
  wf : ∀ p ∈ Z, NdWf p.1
theorem ZsP.ext {S : List Nat} {w w' : World} {v : Value} {Z : List Zd} (h : ZsP w v Z) (hx : Ext S w w') (hS : ∀ k ∈ zsF v Z, k ∉ S) : ZsP w' v Z :=
  ⟨ownsRow_ext h.row hx (fun g hg => hS g (by simp [zsF, hg])), fun p hp => ownsRow_ext (h.kids p hp) hx (fun g hg => hS g (List.mem_append_right _ (kF_mem hp hg))), h.dup, h.wf⟩
theorem ZsP.lt {w : World} {v : Value} {Z : List Zd} (h : ZsP w v Z) : ∀ k ∈ zsF v Z, k < w.heap.size := fun k hk => by
  rcases List.mem_append.1 hk with hk | hk
  · exact (h.row.lt k (by simpa using hk)).2
  · obtain ⟨p, hp, hk⟩ := List.mem_flatMap.1 hk
    exact ((h.kids p hp).lt k (by simpa using hk)).2
def oZs (v : Value) (Z : List Zd) : Ob where
  F := zsF v Z
  P := fun w => ZsP w v Z
  ok := fun h hx hS => h.ext hx hS
  lt := fun h => h.lt
theorem ZsP.nodes {w : World} {v : Value} {Z : List Zd} (h : ZsP w v Z) : NodesAt w v (Z.map (·.1)) := rows_nodes h.row h.kids h.wf
theorem zs_nil (w : World) : ZsP w (.slice none 0 0) [] := ⟨World.ownsRow_nil _ _ _ _, fun p hp => (by cases hp), by simp [zsF, kF, Value.ownBlock], fun p hp => (by cases hp)⟩
/-- nodes more -/
theorem ZsP.more {w w' : World} {g cap m : Nat} {v : Value} {Z Z2 : List Zd} (h : ZsP w v Z) (hk : ∀ p ∈ Z2, w.ownsRow 0 3 1 p.2 p.1.kids.length (p.1.kids.map iz)) (hdu : (kF Z2).Nodup) (hd : ∀ k ∈ kF Z2, k ∉ zsF v Z) (hw : ∀ p ∈ Z2, NdWf p.1)
    (hx : Ext v.ownBlock.toList w w') (hm : m = Z.length + Z2.length) (hr : w'.ownsRow 0 47 5 (.slice (some ⟨g, 0, none⟩) m cap) m (rowN Z ++ rowN Z2)) (hg : v.ownBlock = some g ∨ w.heap.size ≤ g) :
    ZsP w' (.slice (some ⟨g, 0, none⟩) m cap) (Z ++ Z2) := by
  subst hm
  have lt := h.lt
  have hdup := h.dup
  unfold zsF at hdup
  rw [List.nodup_append] at hdup
  obtain ⟨d1, d2, d3⟩ := hdup
  refine ⟨by rw [List.length_append, rowN_append]; exact hr, fun p hp => ?_, ?_, fun p hp => ?_⟩
  · rcases List.mem_append.1 hp with hp | hp
    · exact ownsRow_ext (h.kids p hp) hx (fun k hk2 hm => d3 k hm k (kF_mem hp hk2) rfl)
    · exact ownsRow_ext (hk p hp) hx (fun k hk2 hm => hd k (kF_mem hp hk2) (List.mem_append_left _ hm))
  · unfold zsF
    rw [kF_append, List.nodup_append, List.nodup_append]
    refine ⟨by simp [Value.ownBlock], ⟨d2, hdu, fun k hk1 m hm e => ?_⟩, fun k hk1 m hm e => ?_⟩
    · subst e
      exact hd k hm (List.mem_append_right _ hk1)
    · subst e
      obtain rfl : k = g := by simpa [Value.ownBlock] using hk1
      rcases List.mem_append.1 hm with hm | hm
      · rcases hg with q | q
        · exact d3 k (by simp [q]) k hm rfl
        · have := lt k (List.mem_append_right _ hm); omega
      · rcases hg with q | q
        · exact hd k hm (List.mem_append_left _ (by simp [q]))
        · obtain ⟨p, hp, hk3⟩ := List.mem_flatMap.1 hm
          have := ((hk p hp).lt k (by simpa using hk3)).2
          omega
  · rcases List.mem_append.1 hp with hp | hp
    · exact h.wf p hp
    · exact hw p hp
/-- the first node has a kid more -/
theorem ZsP.kid {w w1 : World} {g5 c5 g6 cap2 : Nat} {x : Nd} {kv : Value} {Z : List Zd} {c : Int} {O : Obj} (h : ZsP w (.slice (some ⟨g5, 0, none⟩) (Z.length + 1) c5) ((x, kv) :: Z))
    (hown : w1.ownsRow 0 3 1 (.slice (some ⟨g6, 0, none⟩) (x.kids.length + 1) cap2) (x.kids.length + 1) (x.kids.map iz ++ [.int .i64 c])) (hgrow : (w.alloc O).grownBy w1 kv.ownBlock) (hat : kv.ownBlock = some g6 ∨ g6 = w.heap.size + 1)
    (hc : -9223372036854775808 ≤ c ∧ c ≤ 9223372036854775807) (hkl : x.kids.length + 1 ≤ 9223372036854775807) :
    ZsP (w1.setCell ⟨g5, 4, none⟩ (.slice (some ⟨g6, 0, none⟩) (x.kids.length + 1) cap2)) (.slice (some ⟨g5, 0, none⟩) (Z.length + 1) c5) (({ x with kids := x.kids ++ [c] }, .slice (some ⟨g6, 0, none⟩) (x.kids.length + 1) cap2) :: Z) ∧
    Ext (zsF (.slice (some ⟨g5, 0, none⟩) (Z.length + 1) c5) ((x, kv) :: Z)) w (w1.setCell ⟨g5, 4, none⟩ (.slice (some ⟨g6, 0, none⟩) (x.kids.length + 1) cap2)) ∧
    Fr w (zsF (.slice (some ⟨g5, 0, none⟩) (Z.length + 1) c5) ((x, kv) :: Z)) (zsF (.slice (some ⟨g5, 0, none⟩) (Z.length + 1) c5) (({ x with kids := x.kids ++ [c] }, .slice (some ⟨g6, 0, none⟩) (x.kids.length + 1) cap2) :: Z)) := by
  have lt := h.lt
  have hd := h.dup
  have hF : zsF (.slice (some ⟨g5, 0, none⟩) (Z.length + 1) c5) ((x, kv) :: Z) = g5 :: (kv.ownBlock.toList ++ kF Z) := by simp [zsF, kF, Value.ownBlock]
  have hF2 : zsF (.slice (some ⟨g5, 0, none⟩) (Z.length + 1) c5) (({ x with kids := x.kids ++ [c] }, .slice (some ⟨g6, 0, none⟩) (x.kids.length + 1) cap2) :: Z) = g5 :: g6 :: kF Z := by simp [zsF, kF, Value.ownBlock]
  have ltF : ∀ k ∈ g5 :: (kv.ownBlock.toList ++ kF Z), k < w.heap.size := fun k hk => lt k (by rw [hF]; exact hk)
  rw [hF] at hd ⊢
  rw [hF2]
  rw [List.nodup_cons, List.nodup_append] at hd
  obtain ⟨d2, d3, d4, d5⟩ := hd
  have g6n : ∀ k, k < w.heap.size → kv.ownBlock ≠ some k → g6 ≠ k := fun k hk hne e => by
    subst e
    rcases hat with q | q
    · exact hne q
    · omega
  have k5 : kv.ownBlock ≠ some g5 := fun e => d2 (List.mem_append_left _ (by simp [e]))
  have h65 : g6 ≠ g5 := g6n g5 (ltF g5 (by simp)) k5
  have hx : Ext kv.ownBlock.toList w w1 := ((Ext.refl _ w).alloc _).grown hgrow (fun k hk => .inl (by simp [hk]))
  have hrow : w1.ownsRow 0 47 5 (.slice (some ⟨g5, 0, none⟩) (Z.length + 1) c5) (Z.length + 1) (rowN ((x, kv) :: Z)) := ownsRow_ext h.row hx (fun g hg hm => by
    obtain rfl : g5 = g := by simpa [Value.ownBlock] using hg
    exact k5 (by simpa using hm))
  refine ⟨⟨?_, fun p hp => ?_, ?_, fun p hp => ?_⟩, ?_, fun k hk => ?_⟩
  · have h2 := row_put (i := 4) hrow (.slice (some ⟨g6, 0, none⟩) (x.kids.length + 1) cap2)
    exact h2
  · rcases List.mem_cons.1 hp with rfl | hp
    · have h2 := ownsRow_setCell_other hown (a := ⟨g5, 4, none⟩) (fun e => h65 (by simpa [Value.ownBlock] using e)) (.slice (some ⟨g6, 0, none⟩) (x.kids.length + 1) cap2)
      show (w1.setCell _ _).ownsRow 0 3 1 _ (x.kids ++ [c]).length ((x.kids ++ [c]).map iz)
      rw [List.length_append, List.map_append]
      exact h2
    · have hk0 := h.kids p (List.mem_cons_of_mem _ hp)
      have h1 := ownsRow_ext hk0 hx (fun g hg hm => d5 g (by simpa using hm) g (kF_mem hp hg) rfl)
      refine ownsRow_setCell_other h1 (fun e => ?_) _
      exact d2 (List.mem_append_right _ (kF_mem hp e))
  · rw [hF2, List.nodup_cons, List.nodup_cons]
    refine ⟨?_, ?_, d4⟩
    · intro hm
      rcases List.mem_cons.1 hm with e | hm
      · exact h65 e.symm
      · exact d2 (List.mem_append_right _ hm)
    · intro hm
      rcases hat with q | q
      · exact d5 g6 (by simp [q]) g6 hm rfl
      · have := ltF g6 (List.mem_cons_of_mem _ (List.mem_append_right _ hm)); omega
  · rcases List.mem_cons.1 hp with rfl | hp
    · have hw := h.wf (x, kv) (by simp)
      refine ⟨hw.n, hw.s, by show (x.kids ++ [c]).length ≤ _; rw [List.length_append]; exact hkl, fun k hk => ?_⟩
      rcases List.mem_append.1 hk with hk | hk
      · exact hw.kids k hk
      · obtain rfl : k = c := by simpa using hk
        exact hc
    · exact h.wf p (List.mem_cons_of_mem _ hp)
  · refine (hx.mono (fun k _ hk => ?_)).setCell _ _ (.inl (by simp))
    exact List.mem_cons_of_mem _ (List.mem_append_left _ hk)
  · rcases List.mem_cons.1 hk with rfl | hk
    · exact .inl (by simp)
    · rcases List.mem_cons.1 hk with rfl | hk
      · rcases hat with q | q
        · exact .inl (by simp [q])
        · exact .inr (by omega)
      · exact .inl (List.mem_cons_of_mem _ (List.mem_append_right _ hk))
end Go.Proofs.YtgpgamohcafklaaGreatDoor.Tr
