/-
  tree: the argument []api.Node.
-/
import Derived.Test.YtkjcjklnclahdaaGreatDoorPkT
import Derived.Deep.Strs
import Derived.Deep.Slices
import Derived.OpenShut
import Derived.ChangeArms
namespace Go.Proofs.YtkjcjklnclahdaaGreatDoor.Tr
open Go.RowKit
open Go.ChangeShapes Go.WideShapes

theorem cellsInt17 : Tryz.prog.cellsOf 3 = 1 := by kernel_rfl
theorem cellsI6417 : Tryz.prog.cellsOf 2 = 1 := by kernel_rfl
theorem cellsStr17 : Tryz.prog.cellsOf 9 = 1 := by kernel_rfl
theorem cellsInts17 : Tryz.prog.cellsOf 23 = 1 := by kernel_rfl
theorem cellsNode17 : Tryz.prog.cellsOf 25 = 5 := by kernel_rfl
section
variable {H : Type} {enc : TypeId × Value → H} {w : World} {base : Nat} {sp : Nat → Bool} {held : Bool}
theorem trod_struct5 {P : Program} {t : TypeId} {f0 f1 f2 f3 f4 : Field} {fuel : Nat} {cs : List Value} {x : DataW H × List MemPlace} (ht : P.underlying t = some (.struct #[f0, f1, f2, f3, f4])) (h : DataW.trod enc P w base sp held fuel t cs = some x) :
    ∃ y0 y1 y2 y3 y4 n, cs.length = P.cellsOf t ∧ DataW.trod enc P w base sp held n f0.type ((cs.drop f0.offset).take (P.cellsOf f0.type)) = some y0 ∧
      DataW.trod enc P w base sp held n f1.type ((cs.drop f1.offset).take (P.cellsOf f1.type)) = some y1 ∧ DataW.trod enc P w base sp held n f2.type ((cs.drop f2.offset).take (P.cellsOf f2.type)) = some y2 ∧
      DataW.trod enc P w base sp held n f3.type ((cs.drop f3.offset).take (P.cellsOf f3.type)) = some y3 ∧ DataW.trod enc P w base sp held n f4.type ((cs.drop f4.offset).take (P.cellsOf f4.type)) = some y4 := by
  obtain ⟨xs, n, _, rfl, hl, hlen, hf⟩ := DataW.trod_struct ht h
  match xs, hlen with
  | [y0, y1, y2, y3, y4], _ => exact ⟨y0, y1, y2, y3, y4, n, hl, by simpa using hf 0 f0 rfl, by simpa using hf 1 f1 rfl, by simpa using hf 2 f2 rfl, by simpa using hf 3 f3 rfl, by simpa using hf 4 f4 rfl⟩
theorem ad17 (b o k : Nat) : (⟨b, o, none⟩ : Addr).add k = ⟨b, o + k, none⟩ := by unfold Addr.add; split <;> simp_all
theorem open_kids {fuel : Nat} {cs : List Value} {x : DataW H × List MemPlace} (hf : DataW.trod enc Tryz.prog w base sp held fuel 23 cs = some x) :
    ∃ kb kc K, cs = [.slice kb K.length kc] ∧ K.length ≤ maxLen ∧ IntsAt w kb K ∧ ∀ q ∈ K, -9223372036854775808 ≤ q ∧ q ≤ 9223372036854775807 := by
  rcases Go.Deep.open_slice Tryz.underlying23 hf with ⟨hc, _⟩ | ⟨a, len, cap, m, n, D, Pl, hc, _, hl, hm, hmm, _, hx⟩
  · exact ⟨none, 0, [], hc, by unfold maxLen; simp, fun i hi => (by cases hi), by simp⟩
  · have hlm : len ≤ m := by rw [hmm]; split <;> omega
    have each : ∀ i, i < len → ∃ q : Int, w.cell? (a.add i) = some (.int .i64 q) ∧ -9223372036854775808 ≤ q ∧ q ≤ 9223372036854775807 := by
      intro i hi
      obtain ⟨cs', h1, h2⟩ := hx i (by omega)
      rw [cellsInt17, Nat.mul_one] at h1
      obtain ⟨_, hlen, hcell⟩ := World.cells?_some h1
      match cs', hlen with
      | [v0], _ =>
        have e0 := hcell 0 (by omega)
        obtain ⟨q, hq, _, hw⟩ := DataW.trod_int Tryz.underlying3 h2
        simp only [List.cons.injEq, and_true] at hq
        subst hq
        exact ⟨q, by rw [show (a.add i).add 0 = a.add i from by simp [Addr.add]] at e0; simpa using e0, Kt.wf_i64 hw⟩
    obtain ⟨f, hf⟩ := Go.Deep.choose_lt each
    have hfl : ((List.range len).map f).length = len := by simp
    refine ⟨some a, cap, (List.range len).map f, by rw [hfl]; exact hc, by rw [hfl]; omega, fun i hi => ?_, fun q hq => ?_⟩
    · rw [hfl] at hi
      have hspot : a.spot = none := by simpa [Addr.add] using World.cell?_spot (hf 0 (by omega)).1
      obtain ⟨b, off, sp0⟩ := a
      obtain rfl : sp0 = none := hspot
      have h0 := (hf i hi).1
      rw [ad17] at h0
      exact ⟨b, off, rfl, by rw [h0]; simp⟩
    · obtain ⟨i, hi, rfl⟩ := List.mem_map.1 hq
      exact (hf i (List.mem_range.1 hi)).2
end
instance : Inhabited Nd := ⟨⟨0, 0, 0, ⟨#[]⟩, []⟩⟩
def NodeArg (w : World) (v : Value) (l : List Nd) : Prop := NodesAt w v l ∧ l.length ≤ 9223372036854775807
set_option maxRecDepth 100000 in
theorem open_nodes {H : Type} {enc : TypeId × Value → H} {w : World} {base : Nat} {sp : Nat → Bool} {held : Bool} {r : Reach} {b0 : Nat} {v : Value} {d : DataW H} {ps : List MemPlace} (hval : Value.okWide Tryz.prog w r b0 22 v) (hd : DataW.Trod enc Tryz.prog w base sp held 22 v d ps) :
    ∃ l, NodeArg w v l := by
  obtain ⟨a0, len0, cap0, rfl⟩ := okWide_slice Tryz.underlying22 hval
  obtain ⟨fuel, hf⟩ := hd
  simp only [Value.cells] at hf
  rcases Go.Deep.open_slice Tryz.underlying22 hf with ⟨hc, _⟩ | ⟨a, len, cap, m, n, D, Pl, hc, _, hl, hm, hmm, _, hx⟩
  · obtain ⟨rfl, rfl, rfl⟩ : a0 = none ∧ len0 = 0 ∧ cap0 = 0 := by simpa using hc
    exact ⟨[], ⟨none, 0, rfl, Nat.le_refl _, fun i hi => (by cases hi)⟩, by simp⟩
  · obtain ⟨rfl, rfl, rfl⟩ : a0 = some a ∧ len0 = len ∧ cap0 = cap := by simpa using hc
    have hlm : len0 ≤ m := by rw [hmm]; split <;> omega
    have each : ∀ i, i < len0 → ∃ q : Nd, w.cell? (a.add (i * 5)) = some (.int .i64 q.kind) ∧ w.cell? ((a.add (i * 5)).add 1) = some (.int .i64 q.n) ∧ w.cell? ((a.add (i * 5)).add 2) = some (.int .i64 q.gen) ∧ w.cell? ((a.add (i * 5)).add 3) = some (.string q.s) ∧ NdWf q ∧ ∃ kb kc, w.cell? ((a.add (i * 5)).add 4) = some (.slice kb q.kids.length kc) ∧ IntsAt w kb q.kids := by
      intro i hi
      obtain ⟨cs', h1, h2⟩ := hx i (by omega)
      rw [cellsNode17] at h1
      obtain ⟨_, hlen, hcell⟩ := World.cells?_some h1
      obtain ⟨y0, y1, y2, y3, y4, k, _, g0, g1, g2, g3, g4⟩ := trod_struct5 Tryz.underlying25 h2
      match cs', hlen with
      | [v0, v1, v2, v3, v4], _ =>
        have e0 := hcell 0 (by omega)
        have e1 := hcell 1 (by omega)
        have e2 := hcell 2 (by omega)
        have e3 := hcell 3 (by omega)
        have e4 := hcell 4 (by omega)
        simp [cellsInt17, cellsI6417, cellsStr17, cellsInts17] at g0 g1 g2 g3 g4
        obtain ⟨kd, hkd, _, _⟩ := DataW.trod_int Tryz.underlying3 g0
        obtain ⟨nn, hnn, _, hnw⟩ := DataW.trod_int Tryz.underlying2 g1
        obtain ⟨gn, hgn, _, _⟩ := DataW.trod_int Tryz.underlying3 g2
        obtain ⟨s, hs, _, hsw⟩ := DataW.trod_string Tryz.underlying9 g3
        obtain ⟨kb, kc, K, hk, hkl, hkI, hkw⟩ := open_kids g4
        simp only [List.cons.injEq, and_true] at hkd hnn hgn hs hk
        subst hkd hnn hgn hs hk
        unfold maxLen at hsw hkl
        exact ⟨⟨kd, nn, gn, s, K⟩, by rw [show (a.add (i * 5)).add 0 = a.add (i * 5) from by simp [Addr.add]] at e0; simpa using e0, by simpa using e1, by simpa using e2, by simpa using e3, ⟨Kt.wf_i64 hnw, by show s.size ≤ _; omega, by show K.length ≤ _; omega, hkw⟩, kb, kc, by simpa using e4, hkI⟩
    obtain ⟨f, hf⟩ := Go.Deep.choose_lt each
    have hfl : ((List.range len0).map f).length = len0 := by simp
    refine ⟨(List.range len0).map f, ⟨some a, cap0, by rw [hfl], by rw [hfl]; exact hl, fun i hi => ?_⟩, by rw [hfl]; unfold maxLen at hm; omega⟩
    rw [hfl] at hi
    have hspot : a.spot = none := by simpa [Addr.add] using World.cell?_spot (hf 0 (by omega)).1
    obtain ⟨b, off, sp0⟩ := a
    obtain rfl : sp0 = none := hspot
    obtain ⟨h0, h1, h2, h3, h4, kb, kc, h5, h6⟩ := hf i hi
    simp only [ad17] at h0 h1 h2 h3 h5
    refine ⟨b, off, rfl, ?_⟩
    rw [List.getElem_map, List.getElem_range]
    exact ⟨h0, h1, h2, h3, h4, kb, kc, h5, h6⟩
end Go.Proofs.YtkjcjklnclahdaaGreatDoor.Tr
