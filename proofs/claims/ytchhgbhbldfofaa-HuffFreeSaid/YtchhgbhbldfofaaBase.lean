/-
  World relations used by all texts of this seat: 'Ext S w w'' says that w' is w with more blocks, and that of w's own blocks only those listed in S may have changed. No program is in sight here.
-/
import Derived.WalkKit
import Derived.WalkLawsBesides
import Derived.WalkSpells
import Derived.Deep.QuietTactic
import Derived.BigQuiet
import Derived.Deep.LoopGhost
import Derived.KernelRfl
import Derived.Lib.Hide
namespace Go.Proofs.Ytchhgbhbldfofaa
open Go.RowKit

structure Ext (S : List Nat) (w w' : World) : Prop where
  os : w'.os = w.os
  tape : w'.tape = w.tape
  output : w'.output = w.output
  size : w.heap.size ≤ w'.heap.size
  block : ∀ k, k < w.heap.size → k ∉ S → w'.heap[k]? = w.heap[k]?

namespace Ext
theorem refl (S : List Nat) (w : World) : Ext S w w := ⟨rfl, rfl, rfl, Nat.le_refl _, fun _ _ _ => rfl⟩
theorem trans {S : List Nat} {a b c : World} (h : Ext S a b) (k : Ext S b c) : Ext S a c :=
  ⟨k.os.trans h.os, k.tape.trans h.tape, k.output.trans h.output, Nat.le_trans h.size k.size,
    fun i hi hS => (k.block i (Nat.lt_of_lt_of_le hi h.size) hS).trans (h.block i hi hS)⟩
theorem trans' {S T : List Nat} {a b c : World} (h : Ext S a b) (k : Ext T b c) (hT : ∀ i, i < a.heap.size → i ∈ T → i ∈ S) : Ext S a c :=
  ⟨k.os.trans h.os, k.tape.trans h.tape, k.output.trans h.output, Nat.le_trans h.size k.size,
    fun i hi hS => (k.block i (Nat.lt_of_lt_of_le hi h.size) (fun q => hS (hT i hi q))).trans (h.block i hi hS)⟩
theorem mono {S T : List Nat} {a b : World} (h : Ext S a b) (hT : ∀ i, i < a.heap.size → i ∈ S → i ∈ T) : Ext T a b :=
  ⟨h.os, h.tape, h.output, h.size, fun i hi hS => h.block i hi (fun q => hS (hT i hi q))⟩
theorem weak {S : List Nat} {a b : World} (h : Ext [] a b) : Ext S a b := h.mono (by simp)
theorem drew {S : List Nat} {a w : World} (h : Ext S a w) : Ext S a w.drew := ⟨h.os, h.tape, h.output, h.size, h.block⟩
theorem drewN {S : List Nat} {a w : World} (h : Ext S a w) (n : Nat) : Ext S a (w.drewN n) := ⟨h.os, h.tape, h.output, h.size, h.block⟩
theorem alloc {S : List Nat} {a w : World} (h : Ext S a w) (o : Obj) : Ext S a (w.alloc o) :=
  h.trans ⟨rfl, rfl, rfl, by simp, fun k hk _ => Below.heap_alloc _ _ _ hk⟩
theorem setCell {S : List Nat} {a w : World} (h : Ext S a w) (p : Addr) (u : Value) (hp : p.block ∈ S ∨ a.heap.size ≤ p.block) : Ext S a (w.setCell p u) :=
  ⟨h.os, h.tape, h.output, by have := h.size; simp [World.setCell]; omega, fun k hk hS => by
    rw [Below.heap_setCell _ _ _ _ (by rcases hp with hp | hp; exact fun e => hS (e ▸ hp); omega)]; exact h.block k hk hS⟩
theorem below {w w' : World} (h : Ext [] w w') : Below w.heap.size w w' := ⟨h.os, h.tape, h.output, h.size, fun k hk => h.block k hk (by simp)⟩
theorem of_below {w w' : World} (h : Below w.heap.size w w') : Ext [] w w' := ⟨h.os, h.tape, h.output, h.size, fun k hk _ => h.block k hk⟩
theorem of_belowN {B : Nat} {S : List Nat} {w w' : World} (h : Below B w w') (hS : ∀ k, B ≤ k → k < w.heap.size → k ∈ S) : Ext S w w' :=
  ⟨h.os, h.tape, h.output, h.size, fun k hk hn => h.block k (Nat.lt_of_not_le fun q => hn (hS k q hk))⟩
/-- a block of the old world that is not listed is still there -/
theorem keep {S : List Nat} {w w' : World} (h : Ext S w w') {b : Nat} {o : Obj} (hb : w.heap[b]? = some o) (hS : b ∉ S) : w'.heap[b]? = some o :=
  (h.block b (lt_of_block hb) hS).trans hb
theorem drewR {S : List Nat} {a w : World} (h : Ext S a.drew w) : Ext S a w := ⟨h.os, h.tape, h.output, h.size, h.block⟩
end Ext

theorem cellOf {w : World} {b : Nat} {cs : Array Value} {t : TypeId} {f : Nat × Nat} (h : w.heap[b]? = some (.cells cs t f)) (i : Nat) : w.cell? ⟨b, i, none⟩ = cs[i]? := by
  simp [World.cell?, h]
theorem freeOf {w : World} {b : Nat} {cs : Array Value} {t : TypeId} (h : w.heap[b]? = some (.cells cs t (0, 0))) (i : Nat) : w.frozen? ⟨b, i, none⟩ = false := by
  simp [World.frozen?, h]
theorem heap_setCell_same {w : World} {b i : Nat} {cs : Array Value} {t : TypeId} {f : Nat × Nat} (h : w.heap[b]? = some (.cells cs t f)) (u : Value) :
    (w.setCell ⟨b, i, none⟩ u).heap[b]? = some (.cells (cs.setIfInBounds i u) t f) := by
  have hlt := lt_of_block h
  have h' : w.heap[b] = .cells cs t f := by simpa [Array.getElem?_eq_getElem hlt] using h
  show (w.heap.modify b _)[b]? = _
  rw [Array.getElem?_eq_getElem (by simpa using hlt), Array.getElem_modify_self, h']
  simp
theorem heap_setCell_ne {w : World} {b : Nat} {p : Addr} (u : Value) (h : b ≠ p.block) : (w.setCell p u).heap[b]? = w.heap[b]? := Below.heap_setCell _ _ _ _ h
theorem heap_alloc_old {w : World} {b : Nat} {x : Obj} (o : Obj) (h : w.heap[b]? = some x) : (w.alloc o).heap[b]? = some x :=
  (Below.heap_alloc _ _ _ (lt_of_block h)).trans h
theorem heap_alloc_at {w : World} (o : Obj) : (w.alloc o).heap[w.heap.size]? = some o := by
  show (w.heap.push o)[w.heap.size]? = _
  simp
theorem heap_drew {w : World} {b : Nat} : w.drew.heap[b]? = w.heap[b]? := rfl
theorem heap_drewN {w : World} {b n : Nat} : (w.drewN n).heap[b]? = w.heap[b]? := rfl

/-- The class of worlds in which a drawn region runs whose operations only read and whose calls only read and make memory. -/
def Ex (w : World) : Type := { w' : World // Ext [] w w' }
def Ex.w {w : World} (x : Ex w) : World := x.val
theorem Ex.ext {w : World} (x : Ex w) : Ext [] w x.w := x.property
def Ex.mk {w : World} (w' : World) (h : Ext [] w w') : Ex w := ⟨w', h⟩
instance (w : World) : Nonempty (Ex w) := ⟨Ex.mk w (Ext.refl [] w)⟩
theorem Ex.heap {w : World} (x : Ex w) {b : Nat} {o : Obj} (h : w.heap[b]? = some o) : x.w.heap[b]? = some o := x.ext.keep h (by simp)

theorem Ext.cell {w w' : World} (h : Ext [] w w') {a : Addr} {v : Value} (hc : w.cell? a = some v) : w'.cell? a = some v :=
  (World.cell?_of_block (h.block a.block (World.block_lt_of_cell? w a hc) (by simp))).trans hc
theorem Ex.cell {w : World} (x : Ex w) {a : Addr} {v : Value} (hc : w.cell? a = some v) : x.w.cell? a = some v := Ext.cell x.ext hc
theorem Ex.free {w : World} (x : Ex w) {a : Addr} {v : Value} {f : Bool} (hc : w.cell? a = some v) (hf : w.frozen? a = f) : x.w.frozen? a = f :=
  (World.frozen?_of_block (x.ext.block a.block (World.block_lt_of_cell? w a hc) (by simp))).trans hf

theorem wp_region_ext {P : Program} {id : Nat} {Q : Exit → Act → World → Prop} {a : Act} {w : World} {l : List Oper} (hm : P.follows .mixedOrders = true) (hB : Region.lexB .any l.toArray = true)
    (h : wpQuiet P l.toArray (fun w' => ∃ x : Ex w, w' = x.w) (fun a' => ∀ w', (∃ x : Ex w, w' = x.w) → Q .normal a' w') l a) : (Code.region id l.toArray true).wp P Q a w :=
  wp_region_quiet (C := fun w' => ∃ x : Ex w, w' = x.w) hm hB ⟨Ex.mk _ ((Ext.refl [] w).drew), rfl⟩ (by simpa using h)

theorem Calls.ext_of {P : Program} {f : FuncId} {args : Array Value} {w : World} {x : Ex w} {v : Value}
    (h : Calls P f args x.w fun e w' => e = .returned v ∧ Ext [] x.w w') : Calls P f args x.w fun e w'' => e = .returned v ∧ ∃ y : Ex w, w'' = y.w :=
  h.mono fun _ _ ⟨he, hm⟩ => ⟨he, Ex.mk _ (x.ext.trans hm), rfl⟩
/-- a row of one-cell elements at the head of block g -/
theorem ownsRow_open {w : World} {base : Nat} {e : TypeId} {g n cap : Nat} {xs : List Value} (h : w.ownsRow base e 1 (.slice (some ⟨g, 0, none⟩) n cap) n xs) :
    ∃ cur, w.heap[g]? = some (.cells cur e (0, 0)) ∧ n ≤ cap ∧ cap ≤ maxLen ∧ cur.size = cap ∧ cur.toList.take n = xs := by
  rcases h.2 with ⟨h0, _⟩ | ⟨g', cap', cur, hv, _, hgr, hnc, hcm, hcs, htake⟩
  · cases h0
  · cases hv
    exact ⟨cur, hgr, hnc, hcm, by simpa using hcs, by simpa using htake⟩
theorem ownsRow_at {w : World} {base : Nat} {e : TypeId} {g n cap i : Nat} {xs : List Value} {u : Value} (h : w.ownsRow base e 1 (.slice (some ⟨g, 0, none⟩) n cap) n xs) (hi : xs[i]? = some u) :
    w.cell? ⟨g, i, none⟩ = some u := by
  obtain ⟨cur, hg, _, _, _, ht⟩ := ownsRow_open h
  rw [cellOf hg]
  rw [← ht, List.getElem?_take] at hi
  split at hi
  · simpa using hi
  · cases hi
theorem ownsRow_free {w : World} {base : Nat} {e : TypeId} {g n cap : Nat} {xs : List Value} (h : w.ownsRow base e 1 (.slice (some ⟨g, 0, none⟩) n cap) n xs) (i : Nat) : w.frozen? ⟨g, i, none⟩ = false := by
  obtain ⟨cur, hg, _⟩ := ownsRow_open h
  exact freeOf hg i
theorem ownsRow_store {w : World} {e : TypeId} {g n cap i : Nat} {xs : List Value} (h : w.ownsRow 0 e 1 (.slice (some ⟨g, 0, none⟩) n cap) n xs) (u : Value) :
    (w.setCell ⟨g, i, none⟩ u).ownsRow 0 e 1 (.slice (some ⟨g, 0, none⟩) n cap) n (xs.set i u) := by
  obtain ⟨cur, hg, h1, h2, h3, ht⟩ := ownsRow_open h
  refine ⟨by simpa using h.1, .inr ⟨g, cap, cur.setIfInBounds i u, rfl, Nat.zero_le _, heap_setCell_same hg u, h1, h2, by simpa using h3, ?_⟩⟩
  rw [Nat.mul_one, ← ht]
  simp [List.take_set]
/-- what is owned stays so where the row's block is as it was -/
theorem ownsRow_ext {S : List Nat} {w w' : World} {e : TypeId} {k n : Nat} {v : Value} {xs : List Value} (h : w.ownsRow 0 e k v n xs) (hx : Ext S w w') (hS : ∀ g, v.ownBlock = some g → g ∉ S) : w'.ownsRow 0 e k v n xs := by
  refine ⟨h.1, ?_⟩
  rcases h.2 with hn | ⟨g, cap, cur, rfl, hb, hgg, rest⟩
  · exact .inl hn
  · exact .inr ⟨g, cap, cur, rfl, hb, hx.keep hgg (hS g rfl), rest⟩
theorem Ext.grown {S : List Nat} {a w w' : World} {row : Option Nat} (h : Ext S a w) (hg : w.grownBy w' row) (hr : ∀ k, row = some k → k ∈ S ∨ a.heap.size ≤ k) : Ext S a w' :=
  ⟨hg.os.trans h.os, hg.tape.trans h.tape, hg.output.trans h.output, Nat.le_trans h.size hg.size, fun k hk hS =>
    (hg.block k (Nat.lt_of_lt_of_le hk h.size) (fun e => by rcases hr k e.symm with q | q; exact hS q; omega)).trans (h.block k hk hS)⟩
theorem grown_keep {w w' : World} {row : Option Nat} (hg : w.grownBy w' row) {b : Nat} {o : Obj} (hb : w.heap[b]? = some o) (h : row ≠ some b) : w'.heap[b]? = some o :=
  (hg.block b (lt_of_block hb) (fun e => h e.symm)).trans hb
end Go.Proofs.Ytchhgbhbldfofaa
