/-
  inflate, plain: what InflateCuts asks.
-/
import Derived.Test.YtgjenpdppobpkaaInW
import Derived.Test.YtgjenpdppobpkaaInR
namespace Go.Proofs.Ytgjenpdppobpkaa.If
open Go.RowKit Bt Hu

def eOf : Rs Unit → Int
  | .ok _ _ _ => 0
  | .er e _ => e
def nOf : Rs Unit → Nat
  | .ok _ p _ => (p + 7) / 8
  | .er _ _ => 0
theorem runV_parts (s : ByteArray) (B : Nat) : runV s B = .tuple #[.string (txt (outOf (runR s B))), .int .i64 (nOf (runR s B) : Nat), .int .i64 (eOf (runR s B))] := by
  unfold runV
  cases runR s B <;> rfl
theorem low_same {s : ByteArray} {low high : Nat} (h : low ≤ high) : (runR s low = runR s high) ∨ (eOf (runR s low) = 3 ∧ outOf (runR s low) <+: outOf (runR s high) ∧ nOf (runR s low) = 0) := by
  rcases runR_c (s' := s) (s := s) (B' := low) (B := high) ⟨Nat.le_refl _, fun _ _ => rfl, h⟩ with h1 | ⟨x, o, hx, h1, h2⟩
  · exact .inl h1
  · rcases hx with ⟨rfl, _⟩ | ⟨_, hx⟩
    · rw [h1]; exact .inr ⟨rfl, h2, rfl⟩
    · exact absurd hx (Nat.lt_irrefl _)
theorem low_full {s : ByteArray} {B : Nat} (h : eOf (runR s B) = 3) : (outOf (runR s B)).length = B := by
  have hg := (runR_g (s := s) (B := B)).2
  cases hr : runR s B with
  | ok u p o => rw [hr] at h; cases h
  | er e o =>
    rw [hr] at h hg
    have h : e = 3 := h
    subst h
    exact hg o rfl
theorem e_or_n (s : ByteArray) (B : Nat) : eOf (runR s B) = 0 ∨ nOf (runR s B) = 0 := by
  cases runR s B
  · exact .inl rfl
  · exact .inr rfl
theorem cut_same {s' s : ByteArray} {B : Nat} (C : Cut s' s B B) : (runR s' B = runR s B) ∨ (eOf (runR s' B) ≠ 0 ∧ outOf (runR s' B) <+: outOf (runR s B) ∧ nOf (runR s' B) = 0) := by
  rcases runR_c C with h1 | ⟨x, o, hx, h1, h2⟩
  · exact .inl h1
  · rw [h1]
    refine .inr ⟨?_, h2, rfl⟩
    show x ≠ 0
    omega
end Go.Proofs.Ytgjenpdppobpkaa.If
