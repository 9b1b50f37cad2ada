/-
  inflate: the argument []string.
-/
import Derived.Test.YtgjenpdppobpkaaIoB
namespace Go.Proofs.Ytgjenpdppobpkaa.If
open Go.RowKit Bt Hu
open Go.ChangeShapes Go.WideShapes

theorem cellsStr8 : Try.prog.cellsOf 9 = 1 := by kernel_rfl
/-- the value v is a slice of the texts l -/
def StrsArg (w : World) (v : Value) (l : List ByteArray) : Prop :=
  ∃ ao cap, v = .slice ao l.length cap ∧ (0 < l.length → ∃ b off, ao = some ⟨b, off, none⟩ ∧ ∀ i x, l[i]? = some x → w.cell? ⟨b, off + i, none⟩ = some (.string x))
theorem StrsArg.ext {w w' : World} {v : Value} {l : List ByteArray} (h : StrsArg w v l) (hx : Ext [] w w') : StrsArg w' v l := by
  obtain ⟨ao, cap, rfl, hc⟩ := h
  refine ⟨ao, cap, rfl, fun hn => ?_⟩
  obtain ⟨b, off, rfl, h⟩ := hc hn
  exact ⟨b, off, rfl, fun i x hi => Ext.cell hx (h i x hi)⟩
set_option maxRecDepth 100000 in
theorem open_strs {H : Type} {enc : TypeId × Value → H} {w : World} {base : Nat} {sp : Nat → Bool} {held : Bool} {r : Reach} {b0 : Nat} {v : Value} {d : DataW H} {ps : List MemPlace} (hval : Value.okWide Try.prog w r b0 38 v) (hd : DataW.Trod enc Try.prog w base sp held 38 v d ps) :
    ∃ l, StrsArg w v l := by
  obtain ⟨a0, len0, cap0, rfl⟩ := okWide_slice Try.underlying38 hval
  obtain ⟨fuel, hf⟩ := hd
  simp only [Value.cells] at hf
  rcases Go.Deep.open_slice Try.underlying38 hf with ⟨hc, _⟩ | ⟨a, len, cap, m, n, D, Pl, hc, _, hl, hm, hmm, _, hx⟩
  · obtain ⟨rfl, rfl, rfl⟩ : a0 = none ∧ len0 = 0 ∧ cap0 = 0 := by simpa using hc
    exact ⟨[], none, 0, rfl, fun h => absurd h (Nat.lt_irrefl 0)⟩
  · obtain ⟨rfl, rfl, rfl⟩ : a0 = some a ∧ len0 = len ∧ cap0 = cap := by simpa using hc
    have hlm : len0 ≤ m := by rw [hmm]; split <;> omega
    have each : ∀ i, i < len0 → ∃ q : ByteArray, w.cell? (a.add i) = some (.string q) := by
      intro i hi
      obtain ⟨cs', h1, h2⟩ := hx i (by omega)
      rw [cellsStr8, Nat.mul_one] at h1
      obtain ⟨_, hlen, hcell⟩ := World.cells?_some h1
      match cs', hlen with
      | [v0], _ =>
        have e0 := hcell 0 (by omega)
        obtain ⟨q, hq, _⟩ := DataW.trod_string Try.underlying9 h2
        simp only [List.cons.injEq, and_true] at hq
        subst hq
        exact ⟨q, by rw [show (a.add i).add 0 = a.add i from by simp [Addr.add]] at e0; simpa using e0⟩
    obtain ⟨f, hf⟩ := Go.Deep.choose_lt each
    have hfl : ((List.range len0).map f).length = len0 := by simp
    refine ⟨(List.range len0).map f, some a, cap0, by rw [hfl], fun hn => ?_⟩
    rw [hfl] at hn
    have hspot : a.spot = none := by simpa [Addr.add] using World.cell?_spot (hf 0 hn)
    obtain ⟨b, off, sp0⟩ := a
    obtain rfl : sp0 = none := hspot
    refine ⟨b, off, rfl, fun i x hi => ?_⟩
    have hi0 : i < len0 := by have := (List.getElem?_eq_some_iff.1 hi).1; omega
    rw [List.getElem?_map, List.getElem?_range hi0] at hi
    obtain rfl : f i = x := by simpa using hi
    have h0 := hf i hi0
    have ad : ∀ k, (⟨b, off, none⟩ : Addr).add k = ⟨b, off + k, none⟩ := fun k => by unfold Addr.add; split <;> simp_all
    rw [ad] at h0
    exact h0
/-- a text's bytes as numbers -/
def bl (s : ByteArray) : List Nat := s.data.toList.map UInt8.toNat
theorem txt_bl (s : ByteArray) : txt (bl s) = s := by
  unfold txt bl
  rw [List.map_map]
  have : (UInt8.ofNat ∘ UInt8.toNat) = id := by funext x; exact UInt8.ofNat_toNat
  rw [this]
  simp
theorem bl_len (s : ByteArray) : (bl s).length = s.size := by
  unfold bl
  rw [List.length_map, Array.length_toList]
  rfl
theorem bl_lt (s : ByteArray) : ∀ b ∈ bl s, b < 256 := fun b hb => by
  obtain ⟨x, _, rfl⟩ := List.mem_map.1 hb
  exact x.toNat_lt
theorem txt_add (a b : List Nat) : txt a ++ txt b = txt (a ++ b) := by
  apply ByteArray.ext
  simp [txt]
end Go.Proofs.Ytgjenpdppobpkaa.If
