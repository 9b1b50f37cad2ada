/-
  tree: the builder: rows of nodes that a call puts together.
-/
import Derived.Test.YtkjcjklnclahdaaDoorTrF
import Derived.Laws.MakeOwn
namespace Go.Proofs.YtkjcjklnclahdaaDoor.Tr
open Go.RowKit

theorem Sep.cut {w0 w : World} {L : List Ob} {j : Nat} {o : Ob} (h : Sep w0 w L) (hj : L[j]? = some o) (a b : Ob) (ha : ∀ k ∈ a.F, k ∈ o.F) (hb : ∀ k ∈ b.F, k ∈ o.F) (hab : ∀ k ∈ a.F, k ∉ b.F) (pa : a.P w) (pb : b.P w) : Sep w0 w (a :: L.set j b) := by
  have hjl : j < L.length := (List.getElem?_eq_some_iff.1 hj).1
  have hget : ∀ i c, (L.set j b)[i]? = some c → (i = j ∧ c = b) ∨ (i ≠ j ∧ L[i]? = some c) := fun i c hi => by
    by_cases hij : i = j
    · subst hij; rw [List.getElem?_set_self hjl] at hi; exact .inl ⟨rfl, (Option.some.inj hi).symm⟩
    · rw [List.getElem?_set_ne (Ne.symm hij)] at hi; exact .inr ⟨hij, hi⟩
  have hbase : ∀ k ∈ o.F, w0.heap.size ≤ k := h.base o (List.mem_of_getElem? hj)
  have far : ∀ i c, i ≠ j → L[i]? = some c → ∀ k ∈ o.F, k ∉ c.F := fun i c hij hi => h.apart j i o c hj hi (Ne.symm hij)
  have one : ∀ (i : Nat) (c : Ob), (L.set j b)[i]? = some c → ∀ k ∈ a.F, k ∉ c.F := fun i c hi k hk => by
    rcases hget i c hi with ⟨_, rfl⟩ | ⟨hij, hc⟩
    · exact hab k hk
    · exact far i c hij hc k (ha k hk)
  refine ⟨h.ext, fun c hc => ?_, fun c hc k hk => ?_, fun x y c d hx hy hxy k hk hkd => ?_⟩
  · rcases List.mem_cons.1 hc with rfl | hc
    · exact pa
    · obtain ⟨i, hi⟩ := List.getElem?_of_mem hc
      rcases hget i c hi with ⟨_, rfl⟩ | ⟨_, hc⟩
      · exact pb
      · exact h.each c (List.mem_of_getElem? hc)
  · rcases List.mem_cons.1 hc with rfl | hc
    · exact hbase k (ha k hk)
    · obtain ⟨i, hi⟩ := List.getElem?_of_mem hc
      rcases hget i c hi with ⟨_, rfl⟩ | ⟨_, hc⟩
      · exact hbase k (hb k hk)
      · exact h.base c (List.mem_of_getElem? hc) k hk
  · cases x with
    | zero =>
      obtain rfl : a = c := by simpa using hx
      cases y with
      | zero => exact hxy rfl
      | succ y => exact one y d (by simpa using hy) k hk hkd
    | succ x =>
      cases y with
      | zero =>
        obtain rfl : a = d := by simpa using hy
        exact one x c (by simpa using hx) k hkd hk
      | succ y =>
        have hx' : (L.set j b)[x]? = some c := by simpa using hx
        have hy' : (L.set j b)[y]? = some d := by simpa using hy
        rcases hget x c hx' with ⟨rfl, rfl⟩ | ⟨hxj, hc⟩
        · rcases hget y d hy' with ⟨rfl, _⟩ | ⟨hyj, hd⟩
          · exact hxy rfl
          · exact far y d hyj hd k (hb k hk) hkd
        · rcases hget y d hy' with ⟨rfl, rfl⟩ | ⟨hyj, hd⟩
          · exact far x c hxj hc k (hb k hkd) hk
          · exact h.apart x y c d hc hd (by omega) k hk hkd
theorem Sep.glue {w0 w : World} {L : List Ob} {j : Nat} {a b : Ob} (h : Sep w0 w (a :: L)) (hj : L[j]? = some b) (o : Ob) (ho : ∀ k ∈ o.F, k ∈ a.F ∨ k ∈ b.F) (po : o.P w) : Sep w0 w (L.set j o) := by
  have hjl : j < L.length := (List.getElem?_eq_some_iff.1 hj).1
  have hget : ∀ i c, (L.set j o)[i]? = some c → (i = j ∧ c = o) ∨ (i ≠ j ∧ L[i]? = some c) := fun i c hi => by
    by_cases hij : i = j
    · subst hij; rw [List.getElem?_set_self hjl] at hi; exact .inl ⟨rfl, (Option.some.inj hi).symm⟩
    · rw [List.getElem?_set_ne (Ne.symm hij)] at hi; exact .inr ⟨hij, hi⟩
  have far : ∀ i c, i ≠ j → L[i]? = some c → ∀ k ∈ o.F, k ∉ c.F := fun i c hij hi k hk => by
    rcases ho k hk with hk | hk
    · exact h.apart 0 (i + 1) a c (by simp) (by simpa using hi) (by omega) k hk
    · exact h.apart (j + 1) (i + 1) b c (by simpa using hj) (by simpa using hi) (by omega) k hk
  refine ⟨h.ext, fun c hc => ?_, fun c hc k hk => ?_, fun x y c d hx hy hxy k hk hkd => ?_⟩
  · obtain ⟨i, hi⟩ := List.getElem?_of_mem hc
    rcases hget i c hi with ⟨_, rfl⟩ | ⟨_, hc⟩
    · exact po
    · exact h.each c (List.mem_cons_of_mem _ (List.mem_of_getElem? hc))
  · obtain ⟨i, hi⟩ := List.getElem?_of_mem hc
    rcases hget i c hi with ⟨_, rfl⟩ | ⟨_, hc⟩
    · rcases ho k hk with hk | hk
      · exact h.base a (by simp) k hk
      · exact h.base b (List.mem_cons_of_mem _ (List.mem_of_getElem? hj)) k hk
    · exact h.base c (List.mem_cons_of_mem _ (List.mem_of_getElem? hc)) k hk
  · rcases hget x c hx with ⟨rfl, rfl⟩ | ⟨hxj, hc⟩
    · rcases hget y d hy with ⟨rfl, _⟩ | ⟨hyj, hd⟩
      · exact hxy rfl
      · exact far y d hyj hd k hk hkd
    · rcases hget y d hy with ⟨rfl, rfl⟩ | ⟨hyj, hd⟩
      · exact far x c hxj hc k hkd hk
      · exact h.apart (x + 1) (y + 1) c d (by simpa using hc) (by simpa using hd) (by omega) k hk hkd
theorem Sep.tail {w0 w : World} {o : Ob} {L : List Ob} (h : Sep w0 w (o :: L)) : Sep w0 w L :=
  ⟨h.ext, fun a ha => h.each a (List.mem_cons_of_mem _ ha), fun a ha => h.base a (List.mem_cons_of_mem _ ha), fun i j a b hi hj hij => h.apart (i + 1) (j + 1) a b (by simpa using hi) (by simpa using hj) (by omega)⟩
/-! ### rows of nodes of a call's own -/
abbrev Zd := Nd × Value
def cellsN (x : Nd) (kv : Value) : List Value := [.int .i64 x.kind, .int .i64 x.n, .int .i64 x.gen, .string x.s, kv]
def rowN (Z : List Zd) : List Value := Z.flatMap fun p => cellsN p.1 p.2
theorem rowN_append (Z U : List Zd) : rowN (Z ++ U) = rowN Z ++ rowN U := by unfold rowN; rw [List.flatMap_append]
theorem rowN_one (p : Zd) : rowN [p] = cellsN p.1 p.2 := by simp [rowN]
theorem rowN_len (Z : List Zd) : (rowN Z).length = Z.length * 5 := by
  induction Z with
  | nil => rfl
  | cons a l ih => rw [rowN, List.flatMap_cons, List.length_append, ← rowN, ih]; simp [cellsN]; omega
theorem rowN_at : ∀ (Z : List Zd) (i : Nat) (h : i < Z.length) (c : Nat), c < 5 → (rowN Z)[i * 5 + c]? = (cellsN (Z[i]'h).1 (Z[i]'h).2)[c]?
  | [], i, h, _, _ => by simp at h
  | p :: Z, i, h, c, hc => by
    have e : rowN (p :: Z) = cellsN p.1 p.2 ++ rowN Z := by rw [rowN, List.flatMap_cons, ← rowN]
    have hl : (cellsN p.1 p.2).length = 5 := rfl
    rw [e]
    cases i with
    | zero =>
      rw [Nat.zero_mul, Nat.zero_add, List.getElem?_append_left (by omega)]
      rfl
    | succ i =>
      rw [List.getElem?_append_right (by omega), hl, show (i + 1) * 5 + c - 5 = i * 5 + c by omega, rowN_at Z i (by simpa using h) c hc]
      rfl
theorem infoNode : (Tryd.prog.info? 37).map (fun i => (i.zero, i.size, i.bytes)) = some (some (.agg #[.int .i64 0, .int .i64 0, .int .i64 0, .string ⟨#[]⟩, .slice none 0 0]), 5, 64) := by kernel_rfl
def bdF (b : Nat) (v : Value) (Z : List Zd) : List Nat := b :: (v.ownBlock.toList ++ Z.flatMap fun p => p.2.ownBlock.toList)
structure BdP (w : World) (b : Nat) (v : Value) (Z : List Zd) : Prop where
  here : w.heap[b]? = some (.cells #[v] 80 (0, 0))
  row : w.ownsRow 0 37 5 v Z.length (rowN Z)
  kids : ∀ p ∈ Z, w.ownsRow 0 3 1 p.2 p.1.kids.length (p.1.kids.map iz)
  dup : (bdF b v Z).Nodup
  wf : ∀ p ∈ Z, NdWf p.1
theorem mem_kidF {Z : List Zd} {p : Zd} (hp : p ∈ Z) {k : Nat} (hk : p.2.ownBlock = some k) : k ∈ Z.flatMap fun p => p.2.ownBlock.toList := List.mem_flatMap.2 ⟨p, hp, by simp [hk]⟩
theorem BdP.ext {S : List Nat} {w w' : World} {b : Nat} {v : Value} {Z : List Zd} (h : BdP w b v Z) (hx : Ext S w w') (hS : ∀ k ∈ bdF b v Z, k ∉ S) : BdP w' b v Z :=
  ⟨hx.keep h.here (hS b (by simp [bdF])), ownsRow_ext h.row hx (fun g hg => hS g (by simp [bdF, hg])), fun p hp => ownsRow_ext (h.kids p hp) hx (fun g hg => hS g (by unfold bdF; exact List.mem_cons_of_mem _ (List.mem_append_right _ (mem_kidF hp hg)))), h.dup, h.wf⟩
def oBd (b : Nat) (v : Value) (Z : List Zd) : Ob where
  F := bdF b v Z
  P := fun w => BdP w b v Z
  ok := fun h hx hS => h.ext hx hS
  lt := fun h k hk => by
    unfold bdF at hk
    rcases List.mem_cons.1 hk with rfl | hk
    · exact lt_of_block h.here
    · rcases List.mem_append.1 hk with hk | hk
      · exact (h.row.lt k (by simpa using hk)).2
      · obtain ⟨p, hp, hk⟩ := List.mem_flatMap.1 hk
        exact ((h.kids p hp).lt k (by simpa using hk)).2
theorem ints_of_own {w : World} {v : Value} {l : List Int} (h : w.ownsRow 0 3 1 v l.length (l.map iz)) : ∃ base cap, v = .slice base l.length cap ∧ IntsAt w base l := by
  obtain ⟨ao, cap, rfl⟩ := row_slice h
  refine ⟨ao, cap, rfl, fun i hi => ?_⟩
  obtain ⟨g, cap2, he⟩ := row_form h (by omega)
  cases he
  exact ⟨g, 0, rfl, by rw [Nat.zero_add]; exact row_cell h (by rw [List.getElem?_map, List.getElem?_eq_getElem hi]; rfl)⟩
theorem row_le {w : World} {e : TypeId} {n k cap : Nat} {ao : Option Addr} {xs : List Value} (h : w.ownsRow 0 e k (.slice ao n cap) n xs) : n ≤ cap := by
  rcases h.2 with ⟨h0, h1⟩ | ⟨g', cap', cur, hv, _, hgr, hnc, _⟩
  · omega
  · cases hv
    exact hnc
theorem rows_nodes {w : World} {v : Value} {Z : List Zd} (hr : w.ownsRow 0 37 5 v Z.length (rowN Z)) (hk : ∀ p ∈ Z, w.ownsRow 0 3 1 p.2 p.1.kids.length (p.1.kids.map iz)) (hw : ∀ p ∈ Z, NdWf p.1) : NodesAt w v (Z.map (·.1)) := by
  obtain ⟨ao, cap, rfl⟩ := row_slice hr
  refine ⟨ao, cap, by rw [List.length_map], by rw [List.length_map]; exact row_le hr, fun i hi => ?_⟩
  rw [List.length_map] at hi
  obtain ⟨g, cap2, he⟩ := row_form hr (by omega)
  cases he
  have hc : ∀ c, c < 5 → ∀ u, (cellsN (Z[i]'hi).1 (Z[i]'hi).2)[c]? = some u → w.cell? ⟨g, 0 + i * 5 + c, none⟩ = some u := fun c hc u hu => by
    rw [Nat.zero_add]
    exact row_cell hr ((rowN_at Z i hi c hc).trans hu)
  have hm : Z[i]'hi ∈ Z := List.getElem_mem hi
  obtain ⟨kb, kc, hkv, hI⟩ := ints_of_own (hk _ hm)
  refine ⟨g, 0, rfl, ?_⟩
  rw [List.getElem_map]
  exact ⟨hc 0 (by decide) _ rfl, hc 1 (by decide) _ rfl, hc 2 (by decide) _ rfl, hc 3 (by decide) _ rfl, hw _ hm, kb, kc, by rw [hc 4 (by decide) _ rfl, hkv], hI⟩
theorem BdP.nodes {w : World} {b : Nat} {v : Value} {Z : List Zd} (h : BdP w b v Z) : NodesAt w v (Z.map (·.1)) := rows_nodes h.row h.kids h.wf
/-- a builder, and beside it a row of ints that is to be its next node's kids -/
def oBk (b : Nat) (v : Value) (Z : List Zd) (kv : Value) (L : List Int) : Ob where
  F := bdF b v Z ++ kv.ownBlock.toList
  P := fun w => BdP w b v Z ∧ w.ownsRow 0 3 1 kv L.length (L.map iz) ∧ ∀ k ∈ kv.ownBlock.toList, k ∉ bdF b v Z
  ok := fun h hx hS => ⟨h.1.ext hx (fun k hk => hS k (List.mem_append_left _ hk)), ownsRow_ext h.2.1 hx (fun g hg => hS g (by simp [hg])), h.2.2⟩
  lt := fun h k hk => by
    rcases List.mem_append.1 hk with hk | hk
    · exact (oBd b v Z).lt h.1 k hk
    · exact (h.2.1.lt k (by simpa using hk)).2
/-- the nodes' places moved on -/
def moveN (by_ : Int) (x : Nd) : Nd := { x with kids := x.kids.map (· + by_) }
theorem cells_nd (w : World) (x : Nd) (kv : Value) (t : TypeId) (f : Nat × Nat := (0, 0)) : ∀ j u, (rowN [(x, kv)])[j]? = some u → (w.alloc (.cells #[.int .i64 x.kind, .int .i64 x.n, .int .i64 x.gen, .string x.s, kv] t f)).cell? ((⟨w.heap.size, 0, none⟩ : Addr).add j) = some u := by
  intro j u h
  have e : (⟨w.heap.size, 0, none⟩ : Addr).add j = ⟨w.heap.size, j, none⟩ := by unfold Addr.add; split <;> simp_all
  rw [e, cellOf (heap_alloc_at _)]
  rw [rowN_one] at h
  rw [← h]
  simp [cellsN]
/-- a node more -/
theorem BdP.push {w w' : World} {b g cap : Nat} {v : Value} {Z : List Zd} {x : Nd} {kv : Value} (h : BdP w b v Z) (hk : w.ownsRow 0 3 1 kv x.kids.length (x.kids.map iz)) (hd : ∀ k ∈ kv.ownBlock.toList, k ∉ bdF b v Z) (hw : NdWf x)
    (hx : Ext (b :: v.ownBlock.toList) w w') (hb : w'.heap[b]? = some (.cells #[.slice (some ⟨g, 0, none⟩) (Z.length + 1) cap] 80 (0, 0))) (hr : w'.ownsRow 0 37 5 (.slice (some ⟨g, 0, none⟩) (Z.length + 1) cap) (Z.length + 1) (rowN Z ++ cellsN x kv)) (hg : v.ownBlock = some g ∨ w.heap.size ≤ g) :
    BdP w' b (.slice (some ⟨g, 0, none⟩) (Z.length + 1) cap) (Z ++ [(x, kv)]) := by
  have hdup := h.dup
  have lt := (oBd b v Z).lt h
  have hnb : ∀ p ∈ Z, ∀ k, p.2.ownBlock = some k → k ∉ b :: v.ownBlock.toList := fun p hp k hpk hm => by
    have hd2 := h.dup
    unfold bdF at hd2
    rw [List.nodup_cons, List.nodup_append] at hd2
    rcases List.mem_cons.1 hm with rfl | hm
    · exact hd2.1 (List.mem_append_right _ (mem_kidF hp hpk))
    · exact hd2.2.2.2 k hm k (mem_kidF hp hpk) rfl
  have hkl : ∀ k ∈ kv.ownBlock.toList, k < w.heap.size := fun k hk2 => (hk.lt k (by simpa using hk2)).2
  refine ⟨hb, by rw [List.length_append, rowN_append, rowN_one]; exact hr, fun p hp => ?_, ?_, fun p hp => ?_⟩
  · rcases List.mem_append.1 hp with hp | hp
    · exact ownsRow_ext (h.kids p hp) hx (fun k hk2 => hnb p hp k hk2)
    · obtain rfl : p = (x, kv) := by simpa using hp
      refine ownsRow_ext hk hx (fun k hk2 hm => hd k (by simp [hk2]) ?_)
      unfold bdF
      rcases List.mem_cons.1 hm with rfl | hm
      · simp
      · exact List.mem_cons_of_mem _ (List.mem_append_left _ hm)
  · unfold bdF at hdup ⊢
    rw [List.nodup_cons, List.nodup_append] at hdup
    rw [List.flatMap_append, List.nodup_cons, List.nodup_append, List.nodup_append]
    obtain ⟨d1, d2, d3, d4⟩ := hdup
    have hgb : b ≠ g := fun e => by
      rcases hg with q | q
      · exact d1 (List.mem_append_left _ (by simp [q, e]))
      · have := lt b (by show b ∈ bdF b v Z; simp [bdF]); omega
    have hkf : [(x, kv)].flatMap (fun p : Zd => p.2.ownBlock.toList) = kv.ownBlock.toList := by simp
    have hkd : kv.ownBlock.toList.Nodup := by cases kv.ownBlock <;> simp
    have hgk : ∀ k ∈ Z.flatMap (fun p : Zd => p.2.ownBlock.toList), g ≠ k := fun k hk2 e => by
      subst e
      rcases hg with q | q
      · exact d4 g (by simp [q]) g hk2 rfl
      · have := lt g (by show g ∈ bdF b v Z; unfold bdF; exact List.mem_cons_of_mem _ (List.mem_append_right _ hk2)); omega
    have hgv : ∀ k ∈ kv.ownBlock.toList, g ≠ k := fun k hk2 e => by
      subst e
      rcases hg with q | q
      · exact hd g hk2 (by simp [bdF, q])
      · have := hkl g hk2; omega
    rw [hkf]
    refine ⟨?_, by simp [Value.ownBlock], ⟨d3, hkd, ?_⟩, ?_⟩
    · intro hm
      simp only [Value.ownBlock, List.mem_append] at hm
      rcases hm with hm | hm | hm
      · simp at hm
        exact hgb hm
      · exact d1 (List.mem_append_right _ hm)
      · exact hd b hm (by simp [bdF])
    · intro k hk1 m hm e
      subst e
      exact hd k hm (by unfold bdF; exact List.mem_cons_of_mem _ (List.mem_append_right _ hk1))
    · intro k hk1 m hm e
      subst e
      simp [Value.ownBlock] at hk1
      subst hk1
      rcases List.mem_append.1 hm with hm | hm
      · exact hgk k hm rfl
      · exact hgv k hm rfl
  · rcases List.mem_append.1 hp with hp | hp
    · exact h.wf p hp
    · obtain rfl : p = (x, kv) := by simpa using hp
      exact hw
end Go.Proofs.YtkjcjklnclahdaaDoor.Tr
