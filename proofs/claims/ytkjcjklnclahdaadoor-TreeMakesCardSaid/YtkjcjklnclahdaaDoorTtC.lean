/-
  tree: the arguments [][]api.Node, []string.
-/
import Derived.Test.YtkjcjklnclahdaaDoorTsG
import Derived.Test.YtkjcjklnclahdaaDoorPkV
namespace Go.Proofs.YtkjcjklnclahdaaDoor.Tr
open Go.RowKit
open Go.ChangeShapes Go.WideShapes

set_option maxRecDepth 100000 in
theorem nodes_of {H : Type} {enc : TypeId × Value → H} {w : World} {base : Nat} {sp : Nat → Bool} {held : Bool} {fuel : Nat} {cs : List Value} {x : DataW H × List MemPlace} (hf : DataW.trod enc Tryd.prog w base sp held fuel 26 cs = some x) :
    ∃ v l, cs = [v] ∧ NodesAt w v l ∧ l.length ≤ 9223372036854775807 := by
  rcases Go.Deep.open_slice Tryd.underlying26 hf with ⟨hc, _⟩ | ⟨a, len, cap, m, n, D, Pl, hc, _, hl, hm, hmm, _, hx⟩
  · exact ⟨_, [], hc, ⟨none, 0, rfl, Nat.le_refl _, fun i hi => (by cases hi)⟩, by simp⟩
  · have hlm : len ≤ m := by rw [hmm]; split <;> omega
    have each : ∀ i, i < len → ∃ q : Nd, w.cell? (a.add (i * 5)) = some (.int .i64 q.kind) ∧ w.cell? ((a.add (i * 5)).add 1) = some (.int .i64 q.n) ∧ w.cell? ((a.add (i * 5)).add 2) = some (.int .i64 q.gen) ∧ w.cell? ((a.add (i * 5)).add 3) = some (.string q.s) ∧ NdWf q ∧ ∃ kb kc, w.cell? ((a.add (i * 5)).add 4) = some (.slice kb q.kids.length kc) ∧ IntsAt w kb q.kids := by
      intro i hi
      obtain ⟨cs', h1, h2⟩ := hx i (by omega)
      rw [cellsNode17] at h1
      obtain ⟨_, hlen, hcell⟩ := World.cells?_some h1
      obtain ⟨y0, y1, y2, y3, y4, k, _, g0, g1, g2, g3, g4⟩ := trod_struct5 Tryd.underlying37 h2
      match cs', hlen with
      | [v0, v1, v2, v3, v4], _ =>
        have e0 := hcell 0 (by omega)
        have e1 := hcell 1 (by omega)
        have e2 := hcell 2 (by omega)
        have e3 := hcell 3 (by omega)
        have e4 := hcell 4 (by omega)
        simp [cellsInt17, cellsI6417, cellsStr17, cellsInts17] at g0 g1 g2 g3 g4
        obtain ⟨kd, hkd, _, _⟩ := DataW.trod_int Tryd.underlying3 g0
        obtain ⟨nn, hnn, _, hnw⟩ := DataW.trod_int Tryd.underlying2 g1
        obtain ⟨gn, hgn, _, _⟩ := DataW.trod_int Tryd.underlying3 g2
        obtain ⟨s, hs, _, hsw⟩ := DataW.trod_string Tryd.underlying9 g3
        obtain ⟨kb, kc, K, hk, hkl, hkI, hkw⟩ := open_kids g4
        simp only [List.cons.injEq, and_true] at hkd hnn hgn hs hk
        subst hkd hnn hgn hs hk
        unfold maxLen at hsw hkl
        exact ⟨⟨kd, nn, gn, s, K⟩, by rw [show (a.add (i * 5)).add 0 = a.add (i * 5) from by simp [Addr.add]] at e0; simpa using e0, by simpa using e1, by simpa using e2, by simpa using e3, ⟨Kt.wf_i64 hnw, by show s.size ≤ _; omega, by show K.length ≤ _; omega, hkw⟩, kb, kc, by simpa using e4, hkI⟩
    obtain ⟨f, hf⟩ := Go.Deep.choose_lt each
    have hfl : ((List.range len).map f).length = len := by simp
    refine ⟨_, (List.range len).map f, hc, ⟨some a, cap, by rw [hfl], by rw [hfl]; exact hl, fun i hi => ?_⟩, by rw [hfl]; unfold maxLen at hm; omega⟩
    rw [hfl] at hi
    have hspot : a.spot = none := by simpa [Addr.add] using World.cell?_spot (hf 0 (by omega)).1
    obtain ⟨b, off, sp0⟩ := a
    obtain rfl : sp0 = none := hspot
    obtain ⟨h0, h1, h2, h3, h4, kb, kc, h5, h6⟩ := hf i hi
    simp only [ad17] at h0 h1 h2 h3 h5
    refine ⟨b, off, rfl, ?_⟩
    rw [List.getElem_map, List.getElem_range]
    exact ⟨h0, h1, h2, h3, h4, kb, kc, h5, h6⟩
theorem cellsNodes17 : Tryd.prog.cellsOf 26 = 1 := by kernel_rfl
def TreesArg (w : World) (v : Value) (ls : List (List Nd)) : Prop := TreesAt w v ls ∧ ls.length ≤ 9223372036854775807 ∧ ∀ l ∈ ls, l.length ≤ 9223372036854775807
set_option maxRecDepth 100000 in
theorem open_trees {H : Type} {enc : TypeId × Value → H} {w : World} {base : Nat} {sp : Nat → Bool} {held : Bool} {r : Reach} {b0 : Nat} {v : Value} {d : DataW H} {ps : List MemPlace} (hval : Value.okWide Tryd.prog w r b0 23 v) (hd : DataW.Trod enc Tryd.prog w base sp held 23 v d ps) :
    ∃ ls, TreesArg w v ls := by
  obtain ⟨a0, len0, cap0, rfl⟩ := okWide_slice Tryd.underlying23 hval
  obtain ⟨fuel, hf⟩ := hd
  simp only [Value.cells] at hf
  rcases Go.Deep.open_slice Tryd.underlying23 hf with ⟨hc, _⟩ | ⟨a, len, cap, m, n, D, Pl, hc, _, hl, hm, hmm, _, hx⟩
  · obtain ⟨rfl, rfl, rfl⟩ : a0 = none ∧ len0 = 0 ∧ cap0 = 0 := by simpa using hc
    exact ⟨[], ⟨none, 0, rfl, Nat.le_refl _, fun i hi => (by cases hi)⟩, by simp, by simp⟩
  · obtain ⟨rfl, rfl, rfl⟩ : a0 = some a ∧ len0 = len ∧ cap0 = cap := by simpa using hc
    have hlm : len0 ≤ m := by rw [hmm]; split <;> omega
    have each : ∀ i, i < len0 → ∃ q : List Nd, ∃ vk, w.cell? (a.add i) = some vk ∧ NodesAt w vk q ∧ q.length ≤ 9223372036854775807 := by
      intro i hi
      obtain ⟨cs', h1, h2⟩ := hx i (by omega)
      rw [cellsNodes17, Nat.mul_one] at h1
      obtain ⟨_, hlen, hcell⟩ := World.cells?_some h1
      obtain ⟨vk, q, rfl, hN, hq⟩ := nodes_of h2
      have e0 := hcell 0 (by simp)
      exact ⟨q, vk, by rw [show (a.add i).add 0 = a.add i from by simp [Addr.add]] at e0; simpa using e0, hN, hq⟩
    obtain ⟨f, hf⟩ := Go.Deep.choose_lt each
    have hfl : ((List.range len0).map f).length = len0 := by simp
    refine ⟨(List.range len0).map f, ⟨some a, cap0, by rw [hfl], by rw [hfl]; exact hl, fun i hi => ?_⟩, by rw [hfl]; unfold maxLen at hm; omega, fun l hl2 => ?_⟩
    · rw [hfl] at hi
      have hspot : a.spot = none := by obtain ⟨vk, h0, -⟩ := hf 0 (by omega); simpa [Addr.add] using World.cell?_spot h0
      obtain ⟨b, off, sp0⟩ := a
      obtain rfl : sp0 = none := hspot
      obtain ⟨vk, h0, h1, -⟩ := hf i hi
      rw [ad17] at h0
      exact ⟨b, off, vk, rfl, h0, by rw [List.getElem_map, List.getElem_range]; exact h1⟩
    · obtain ⟨i, hi, rfl⟩ := List.mem_map.1 hl2
      obtain ⟨vk, -, -, h⟩ := hf i (List.mem_range.1 hi)
      exact h
def StrArg (w : World) (v : Value) (l : List ByteArray) : Prop := StrsAt w v l ∧ l.length ≤ 9223372036854775807 ∧ ∀ s ∈ l, s.size ≤ 9223372036854775807
set_option maxRecDepth 100000 in
theorem open_strs17 {H : Type} {enc : TypeId × Value → H} {w : World} {base : Nat} {sp : Nat → Bool} {held : Bool} {r : Reach} {b0 : Nat} {v : Value} {d : DataW H} {ps : List MemPlace} (hval : Value.okWide Tryd.prog w r b0 22 v) (hd : DataW.Trod enc Tryd.prog w base sp held 22 v d ps) :
    ∃ l, StrArg w v l := by
  obtain ⟨a0, len0, cap0, rfl⟩ := okWide_slice Tryd.underlying22 hval
  obtain ⟨fuel, hf⟩ := hd
  simp only [Value.cells] at hf
  rcases Go.Deep.open_slice Tryd.underlying22 hf with ⟨hc, _⟩ | ⟨a, len, cap, m, n, D, Pl, hc, _, hl, hm, hmm, _, hx⟩
  · obtain ⟨rfl, rfl, rfl⟩ : a0 = none ∧ len0 = 0 ∧ cap0 = 0 := by simpa using hc
    exact ⟨[], ⟨none, 0, rfl, Nat.le_refl _, fun i hi => (by cases hi)⟩, by simp, by simp⟩
  · obtain ⟨rfl, rfl, rfl⟩ : a0 = some a ∧ len0 = len ∧ cap0 = cap := by simpa using hc
    have hlm : len0 ≤ m := by rw [hmm]; split <;> omega
    have each : ∀ i, i < len0 → ∃ q : ByteArray, w.cell? (a.add i) = some (.string q) ∧ q.size ≤ 9223372036854775807 := by
      intro i hi
      obtain ⟨cs', h1, h2⟩ := hx i (by omega)
      rw [cellsStr17, Nat.mul_one] at h1
      obtain ⟨_, hlen, hcell⟩ := World.cells?_some h1
      match cs', hlen with
      | [v0], _ =>
        have e0 := hcell 0 (by omega)
        obtain ⟨q, hq, _, hqw⟩ := DataW.trod_string Tryd.underlying9 h2
        simp only [List.cons.injEq, and_true] at hq
        subst hq
        unfold maxLen at hqw
        exact ⟨q, by rw [show (a.add i).add 0 = a.add i from by simp [Addr.add]] at e0; simpa using e0, by omega⟩
    obtain ⟨f, hf⟩ := Go.Deep.choose_lt each
    have hfl : ((List.range len0).map f).length = len0 := by simp
    refine ⟨(List.range len0).map f, ⟨some a, cap0, by rw [hfl], by rw [hfl]; exact hl, fun i hi => ?_⟩, by rw [hfl]; unfold maxLen at hm; omega, fun s hs => ?_⟩
    · rw [hfl] at hi
      have hspot : a.spot = none := by simpa [Addr.add] using World.cell?_spot (hf 0 (by omega)).1
      obtain ⟨b, off, sp0⟩ := a
      obtain rfl : sp0 = none := hspot
      have h0 := (hf i hi).1
      rw [ad17] at h0
      exact ⟨b, off, rfl, by rw [List.getElem_map, List.getElem_range]; exact h0⟩
    · obtain ⟨i, hi, rfl⟩ := List.mem_map.1 hs
      exact (hf i (List.mem_range.1 hi)).2
end Go.Proofs.YtkjcjklnclahdaaDoor.Tr
