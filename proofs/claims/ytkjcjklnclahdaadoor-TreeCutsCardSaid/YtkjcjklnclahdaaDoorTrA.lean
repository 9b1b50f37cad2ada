/-
  tree: nodes, and how they lie in memory.
-/
import Derived.Test.YtkjcjklnclahdaaDoorPkA
namespace Go.Proofs.YtkjcjklnclahdaaDoor.Tr
open Go.RowKit

structure Nd where
  kind : Int
  n : Int
  gen : Int
  s : ByteArray
  kids : List Int
/-- ints that lie behind a base -/
def IntsAt (w : World) (base : Option Addr) (L : List Int) : Prop := ∀ i (h : i < L.length), ∃ b o, base = some ⟨b, o, none⟩ ∧ w.cell? ⟨b, o + i, none⟩ = some (.int .i64 (L[i]'h))
/-- what every node of the machine keeps to -/
structure NdWf (x : Nd) : Prop where
  n : -9223372036854775808 ≤ x.n ∧ x.n ≤ 9223372036854775807
  s : x.s.size ≤ 9223372036854775807
  len : x.kids.length ≤ 9223372036854775807
  kids : ∀ k ∈ x.kids, -9223372036854775808 ≤ k ∧ k ≤ 9223372036854775807
/-- a node in five cells -/
structure NodeAt (w : World) (b o : Nat) (x : Nd) : Prop where
  kind : w.cell? ⟨b, o, none⟩ = some (.int .i64 x.kind)
  n : w.cell? ⟨b, o + 1, none⟩ = some (.int .i64 x.n)
  gen : w.cell? ⟨b, o + 2, none⟩ = some (.int .i64 x.gen)
  s : w.cell? ⟨b, o + 3, none⟩ = some (.string x.s)
  wf : NdWf x
  kids : ∃ base cap, w.cell? ⟨b, o + 4, none⟩ = some (.slice base x.kids.length cap) ∧ IntsAt w base x.kids
def NodesIn (w : World) (base : Option Addr) (l : List Nd) : Prop := ∀ i (h : i < l.length), ∃ b o, base = some ⟨b, o, none⟩ ∧ NodeAt w b (o + i * 5) (l[i]'h)
def NodesAt (w : World) (v : Value) (l : List Nd) : Prop := ∃ base cap, v = .slice base l.length cap ∧ l.length ≤ cap ∧ NodesIn w base l
theorem IntsAt.ext {w w' : World} {base : Option Addr} {L : List Int} (h : IntsAt w base L) (hx : Ext [] w w') : IntsAt w' base L := fun i hi => by
  obtain ⟨b, o, h1, h2⟩ := h i hi
  exact ⟨b, o, h1, hx.cell h2⟩
theorem NodeAt.ext {w w' : World} {b o : Nat} {x : Nd} (h : NodeAt w b o x) (hx : Ext [] w w') : NodeAt w' b o x := by
  obtain ⟨h1, h2, h3, h4, hw, base, cap, h5, h6⟩ := h
  exact ⟨hx.cell h1, hx.cell h2, hx.cell h3, hx.cell h4, hw, base, cap, hx.cell h5, h6.ext hx⟩
theorem NodesIn.ext {w w' : World} {base : Option Addr} {l : List Nd} (h : NodesIn w base l) (hx : Ext [] w w') : NodesIn w' base l := fun i hi => by
  obtain ⟨b, o, h1, h2⟩ := h i hi
  exact ⟨b, o, h1, h2.ext hx⟩
theorem NodesAt.ext {w w' : World} {v : Value} {l : List Nd} (h : NodesAt w v l) (hx : Ext [] w w') : NodesAt w' v l := by
  obtain ⟨base, cap, h1, h0, h2⟩ := h
  exact ⟨base, cap, h1, h0, h2.ext hx⟩
/-! ### what is gone through -/
def lightN (l : List Nd) (most : Nat) : Bool := l.all (fun x => decide (x.kids.length ≤ most ∧ x.s.size ≤ 2000)) && decide (l.length ≤ most)
end Go.Proofs.YtkjcjklnclahdaaDoor.Tr
