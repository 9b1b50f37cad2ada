/-
  A slice in a field of an object that the call owns, appended to and stored back: what the world is then; the class of worlds for a drawn region that appends. No program is in sight here.
-/
import Derived.Test.YtchhgbhbldfofaaReg
import Derived.Test.YtchhgbhbldfofaaSep
import Derived.Deep.AppendLies
namespace Go.Proofs.Ytchhgbhbldfofaa
open Go.RowKit

/-- worlds that are w with more blocks, the blocks S changed at will -/
def ExS (S : List Nat) (w : World) : Type := { w' : World // Ext S w w' }
def ExS.w {S : List Nat} {w : World} (x : ExS S w) : World := x.val
theorem ExS.ext {S : List Nat} {w : World} (x : ExS S w) : Ext S w x.w := x.property
def ExS.mk {S : List Nat} {w : World} (w' : World) (h : Ext S w w') : ExS S w := ⟨w', h⟩
instance (S : List Nat) (w : World) : Nonempty (ExS S w) := ⟨ExS.mk w (Ext.refl S w)⟩
theorem ExS.heap {S : List Nat} {w : World} (x : ExS S w) {b : Nat} {o : Obj} (h : w.heap[b]? = some o) (hS : b ∉ S) : x.w.heap[b]? = some o := x.ext.keep h hS
theorem ExS.cell {S : List Nat} {w : World} (x : ExS S w) {a : Addr} {v : Value} (hc : w.cell? a = some v) (hS : a.block ∉ S) : x.w.cell? a = some v :=
  (World.cell?_of_block (x.ext.block a.block (World.block_lt_of_cell? w a hc) hS)).trans hc

theorem push_field {E T : TypeId} {k : Nat} {w w1 : World} {b g cap n : Nat} {v : Value} {cs : Array Value} {xs : List Value} {O : Obj} (hb : w.heap[b]? = some (.cells cs T (0, 0))) (hne : v.ownBlock ≠ some b)
    (hown : w1.ownsRow 0 E k (.slice (some ⟨g, 0, none⟩) n cap) n xs) (hgrow : (w.alloc O).grownBy w1 v.ownBlock) (hat : v.ownBlock = some g ∨ g = w.heap.size + 1) (i : Nat) :
    (w1.setCell ⟨b, i, none⟩ (.slice (some ⟨g, 0, none⟩) n cap)).heap[b]? = some (.cells (cs.setIfInBounds i (.slice (some ⟨g, 0, none⟩) n cap)) T (0, 0)) ∧
    (w1.setCell ⟨b, i, none⟩ (.slice (some ⟨g, 0, none⟩) n cap)).ownsRow 0 E k (.slice (some ⟨g, 0, none⟩) n cap) n xs ∧
    Ext (b :: v.ownBlock.toList) w (w1.setCell ⟨b, i, none⟩ (.slice (some ⟨g, 0, none⟩) n cap)) ∧ g ≠ b ∧ Fr w (b :: v.ownBlock.toList) [b, g] := by
  have hsz := lt_of_block hb
  have hgb : g ≠ b := fun e => by
    rcases hat with h | h
    · exact hne (by rw [h, e])
    · omega
  have hb1 : w1.heap[b]? = some (.cells cs T (0, 0)) := grown_keep hgrow (heap_alloc_old _ hb) hne
  refine ⟨heap_setCell_same hb1 _, ownsRow_setCell_other hown (fun e => hgb (by simpa [Value.ownBlock] using e)) _, ?_, hgb, fun q hq => ?_⟩
  · exact (((Ext.refl _ w).alloc _).grown hgrow (fun k hk => .inl (by simp [hk]))).setCell _ _ (by simp)
  · rcases List.mem_cons.1 hq with rfl | hq
    · exact .inl (by simp)
    · obtain rfl : q = g := by simpa using hq
      rcases hat with h | h
      · exact .inl (by simp [h])
      · exact .inr (by omega)
theorem grown_drew {w w1 : World} {O : Obj} {row : Option Nat} (h : (w.drew.alloc O).grownBy w1 row) : (w.alloc O).grownBy w1 row := ⟨h.os, h.tape, h.output, h.size, h.block⟩

/-- a slice that the call holds in a variable: it owns its row -/
def oSl (E : TypeId) (k : Nat) (v : Value) (n : Nat) (xs : List Value) : Ob where
  F := v.ownBlock.toList
  P := fun w => w.ownsRow 0 E k v n xs
  ok := fun h hx hS => ownsRow_ext h hx (fun g hg => hS g (by simp [hg]))
  lt := fun h q hq => (h.lt q (by simpa using hq)).2
theorem push_local {w w1 : World} {g cap n : Nat} {v : Value} {O : Obj} (hgrow : (w.alloc O).grownBy w1 v.ownBlock) (hat : v.ownBlock = some g ∨ g = w.heap.size + 1) :
    Ext v.ownBlock.toList w w1 ∧ Fr w v.ownBlock.toList (Value.slice (some ⟨g, 0, none⟩) n cap).ownBlock.toList := by
  refine ⟨((Ext.refl _ w).alloc _).grown hgrow (fun k hk => .inl (by simp [hk])), fun q hq => ?_⟩
  obtain rfl : q = g := by simpa [Value.ownBlock] using hq
  rcases hat with h | h
  · exact .inl (by simp [h])
  · exact .inr (by omega)
end Go.Proofs.Ytchhgbhbldfofaa
