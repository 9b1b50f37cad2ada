/-
  What the three laws with acts need: the argument []Act opened; the reference's reader and writer as objects ('Sep'); the cases of Get and Put as one.
-/
import Derived.Test.YtcbmapbpggjblaaBitsRefT
import Derived.Deep.Strs
namespace Go.Proofs.Ytcbmapbpggjblaa.Bt
open Go.RowKit
open Go.ChangeShapes Go.WideShapes

theorem cellsAct : Try.prog.cellsOf 37 = 3 := by kernel_rfl
theorem cellsBool : Try.prog.cellsOf 4 = 1 := by kernel_rfl
theorem cellsInt : Try.prog.cellsOf 3 = 1 := by kernel_rfl
theorem cellsU32 : Try.prog.cellsOf 26 = 1 := by kernel_rfl

structure Act where
  al : Bool
  n : Int
  v : Nat
instance : Inhabited Act := ⟨⟨false, 0, 0⟩⟩
def Act.ok (a : Act) : Prop := -9223372036854775808 ≤ a.n ∧ a.n ≤ 9223372036854775807 ∧ a.v < 4294967296

/-- the value u is a slice of the acts f 0, f 1 .., n of them, in the world w -/
def Acts (w : World) (u : Value) (n : Nat) (f : Nat → Act) : Prop :=
  (∃ ao cap, u = .slice ao n cap ∧ (0 < n → ∃ b off, ao = some ⟨b, off, none⟩ ∧ ∀ i, i < n → w.cell? ⟨b, off + i * 3, none⟩ = some (.bool (f i).al) ∧ w.cell? ⟨b, off + i * 3 + 1, none⟩ = some (.int .i64 (f i).n) ∧ w.cell? ⟨b, off + i * 3 + 2, none⟩ = some (.int .u32 (f i).v))) ∧
  (∀ i, i < n → (f i).ok) ∧ n ≤ maxLen
theorem Acts.ext {w w' : World} {u : Value} {n : Nat} {f : Nat → Act} (h : Acts w u n f) (hx : Ext [] w w') : Acts w' u n f := by
  obtain ⟨⟨ao, cap, rfl, hc⟩, hr⟩ := h
  refine ⟨⟨ao, cap, rfl, fun hn => ?_⟩, hr⟩
  obtain ⟨b, off, rfl, h⟩ := hc hn
  exact ⟨b, off, rfl, fun i hi => ⟨Ext.cell hx (h i hi).1, Ext.cell hx (h i hi).2.1, Ext.cell hx (h i hi).2.2⟩⟩

theorem u32_nat {n : Int} (h : (Lit.int .u32 n).wf = true) : ∃ m : Nat, n = m ∧ m < 4294967296 := by
  have h' : 0 ≤ n ∧ n < 4294967296 := by
    simp [Lit.wf, IntKind.min, IntKind.max, IntKind.signed, IntKind.bits] at h
    omega
  exact ⟨n.toNat, by omega, by omega⟩

theorem i64_b {n : Int} (h : (Lit.int .i64 n).wf = true) : -9223372036854775808 ≤ n ∧ n ≤ 9223372036854775807 := by
  simp [Lit.wf, IntKind.min, IntKind.max, IntKind.signed, IntKind.bits] at h
  omega
theorem open_acts {H : Type} {enc : TypeId × Value → H} {w : World} {base : Nat} {sp : Nat → Bool} {held : Bool} {r : Reach} {b0 : Nat} {v : Value} {d : DataW H} {ps : List MemPlace} (hval : Value.okWide Try.prog w r b0 33 v) (hd : DataW.Trod enc Try.prog w base sp held 33 v d ps) :
    ∃ n f, Acts w v n f := by
  obtain ⟨a0, len0, cap0, rfl⟩ := okWide_slice Try.underlying33 hval
  obtain ⟨fuel, hf⟩ := hd
  simp only [Value.cells] at hf
  rcases Go.Deep.open_slice Try.underlying33 hf with ⟨hc, _⟩ | ⟨a, len, cap, m, n, D, Pl, hc, _, hl, hm, hmm, _, hx⟩
  · obtain ⟨rfl, rfl, rfl⟩ : a0 = none ∧ len0 = 0 ∧ cap0 = 0 := by simpa using hc
    exact ⟨0, fun _ => default, ⟨none, 0, rfl, fun h => absurd h (Nat.lt_irrefl 0)⟩, fun i hi => absurd hi (Nat.not_lt_zero i), by unfold maxLen; omega⟩
  · obtain ⟨rfl, rfl, rfl⟩ : a0 = some a ∧ len0 = len ∧ cap0 = cap := by simpa using hc
    have hlm : len0 ≤ m := by rw [hmm]; split <;> omega
    have each : ∀ i, i < len0 → ∃ q : Act, q.ok ∧ w.cell? (a.add (i * 3)) = some (.bool q.al) ∧ w.cell? ((a.add (i * 3)).add 1) = some (.int .i64 q.n) ∧ w.cell? ((a.add (i * 3)).add 2) = some (.int .u32 q.v) := by
      intro i hi
      obtain ⟨cs', h1, h2⟩ := hx i (by omega)
      rw [cellsAct] at h1
      obtain ⟨_, hlen, hcell⟩ := World.cells?_some h1
      obtain ⟨y0, y1, y2, k, _, _, g0, g1, g2⟩ := Go.Deep.trod_struct3 Try.underlying37 h2
      match cs', hlen with
      | [v0, v1, v2], _ =>
        have e0 := hcell 0 (by omega)
        have e1 := hcell 1 (by omega)
        have e2 := hcell 2 (by omega)
        simp [cellsBool, cellsInt, cellsU32] at g0 g1 g2
        obtain ⟨p, hp, _⟩ := DataW.trod_bool Try.underlying4 g0
        obtain ⟨q, hq, _, hqw⟩ := DataW.trod_int Try.underlying3 g1
        obtain ⟨s, hs, _, hsw⟩ := DataW.trod_int Try.underlying26 g2
        obtain ⟨s, rfl, hs2⟩ := u32_nat hsw
        simp only [List.cons.injEq, and_true] at hp hq hs
        subst hp hq hs
        have hq2 : -9223372036854775808 ≤ q ∧ q ≤ 9223372036854775807 := i64_b hqw
        exact ⟨⟨p, q, s⟩, ⟨hq2.1, hq2.2, hs2⟩, by rw [show (a.add (i * 3)).add 0 = a.add (i * 3) from by simp [Addr.add]] at e0; simpa using e0, by simpa using e1, by simpa using e2⟩
    obtain ⟨f, hf⟩ := Go.Deep.choose_lt each
    refine ⟨len0, f, ⟨some a, cap0, rfl, fun hn => ?_⟩, fun i hi => (hf i hi).1, by omega⟩
    have hspot : a.spot = none := by simpa [Addr.add] using World.cell?_spot (hf 0 hn).2.1
    obtain ⟨b, off, sp0⟩ := a
    obtain rfl : sp0 = none := hspot
    refine ⟨b, off, rfl, fun i hi => ?_⟩
    obtain ⟨_, h0, h1, h2⟩ := hf i hi
    have ad : ∀ k, (⟨b, off, none⟩ : Addr).add k = ⟨b, off + k, none⟩ := fun k => by unfold Addr.add; split <;> simp_all
    have ad2 : ∀ o k, (⟨b, o, none⟩ : Addr).add k = ⟨b, o + k, none⟩ := fun o k => by unfold Addr.add; split <;> simp_all
    rw [ad] at h0
    rw [ad, ad2] at h1 h2
    exact ⟨h0, h1, h2⟩
end Go.Proofs.Ytcbmapbpggjblaa.Bt
