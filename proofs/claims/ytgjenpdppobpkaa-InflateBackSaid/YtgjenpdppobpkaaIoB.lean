/-
  inflate, plain: what InflateBlocks asks.
-/
import Derived.Test.YtgjenpdppobpkaaIoA
import Derived.Test.YtgjenpdppobpkaaInY
namespace Go.Proofs.Ytgjenpdppobpkaa.If
open Go.RowKit Bt Hu

theorem strm_len : ∀ ts : List (List Nat), ts.length ≤ (strm ts).length
  | [] => Nat.le_refl _
  | [t] => by rw [strm, blk_len]; simp; omega
  | t :: u :: l => by
    have := strm_len (u :: l)
    rw [strm, List.length_append, blk_len]
    simp only [List.length_cons] at this ⊢
    omega
theorem stored_run (ts : List (List Nat)) (post : List Nat) (h0 : ts ≠ []) (ht : ∀ t ∈ ts, t.length ≤ 100 ∧ ∀ b ∈ t, b < 256) :
    runR (txt (strm ts ++ post)) ts.flatten.length = .ok () (8 * (strm ts).length) ts.flatten := by
  have hl := strm_len ts
  have := chain ts.flatten.length post ts [] [] (8 * (txt (strm ts ++ post)).size + 1) h0 ht (by rw [txt_size, List.length_append]; omega) (by simp)
  simpa [runR] using this
theorem stored_less (ts : List (List Nat)) (s' : ByteArray) (post : List Nat) (h0 : ts ≠ []) (ht : ∀ t ∈ ts, t.length ≤ 100 ∧ ∀ b ∈ t, b < 256) (C : Cut s' (txt (strm ts ++ post)) ts.flatten.length ts.flatten.length) (hs : s'.size < (strm ts).length) :
    eOf (runR s' ts.flatten.length) = 8 ∧ outOf (runR s' ts.flatten.length) <+: ts.flatten := by
  have hr := stored_run ts post h0 ht
  rcases runR_c C with h | ⟨x, o, hx, h1, h2⟩
  · rw [hr] at h
    have := runR_le h
    omega
  · rw [hr] at h2
    rw [h1]
    refine ⟨?_, h2⟩
    show x = 8
    omega
end Go.Proofs.Ytgjenpdppobpkaa.If
