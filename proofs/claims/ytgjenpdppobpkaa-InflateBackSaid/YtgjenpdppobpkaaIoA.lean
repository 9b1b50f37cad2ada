/-
  inflate, plain: stored blocks, one behind the other.
-/
import Derived.Test.YtgjenpdppobpkaaInZ
namespace Go.Proofs.Ytgjenpdppobpkaa.If
open Bt Hu

def blkB (last : Nat) (t : List Nat) : List Nat := last :: t.length :: 0 :: (255 - t.length) :: 255 :: t
def strm : List (List Nat) → List Nat
  | [] => []
  | [t] => blkB 1 t
  | t :: u :: l => blkB 0 t ++ strm (u :: l)
theorem byteAt_mid (pre x post : List Nat) (i b : Nat) (h : x[i]? = some b) (hb : b < 256) : byteAt (txt (pre ++ x ++ post)) (pre.length + i) = b := by
  have hi : i < x.length := (List.getElem?_eq_some_iff.1 h).1
  unfold byteAt txt
  simp only [List.getD_eq_getElem?_getD, List.getElem?_map]
  rw [List.append_assoc, List.getElem?_append_right (by omega), Nat.add_sub_cancel_left, List.getElem?_append_left hi, h]
  simp
  omega
theorem blk_at (pre t post : List Nat) (last : Nat) (hl : last ≤ 1) (ht : t.length ≤ 100) : BlkAt (txt (pre ++ blkB last t ++ post)) pre.length last t.length := by
  refine ⟨?_, ?_, ?_, ?_, ?_, ?_, hl, ht⟩
  · exact byteAt_mid pre _ post 0 _ rfl (by omega)
  · exact byteAt_mid pre _ post 1 _ rfl (by omega)
  · exact byteAt_mid pre _ post 2 _ rfl (by omega)
  · exact byteAt_mid pre _ post 3 _ rfl (by omega)
  · exact byteAt_mid pre _ post 4 _ rfl (by omega)
  · rw [txt_size]
    simp [blkB]
    omega
theorem blk_bytes (pre t post : List Nat) (last : Nat) (hb : ∀ b ∈ t, b < 256) : bytesAt (txt (pre ++ blkB last t ++ post)) (pre.length + 5) t.length = t := by
  unfold bytesAt
  apply List.ext_getElem?
  intro i
  rw [List.getElem?_map]
  by_cases h : i < t.length
  · have hx : t[i]? = some t[i] := List.getElem?_eq_getElem h
    have := byteAt_mid pre (blkB last t) post (i + 5) t[i] (by simp [blkB, hx]) (hb _ (List.getElem_mem h))
    rw [hx, List.getElem?_range h, Option.map_some]
    rw [show pre.length + 5 + i = pre.length + (i + 5) by omega, this]
  · simp [h]
theorem blk_len (last : Nat) (t : List Nat) : (blkB last t).length = 5 + t.length := by simp [blkB]; omega
theorem chain (B : Nat) (post : List Nat) : ∀ (ts : List (List Nat)) (pre out : List Nat) (g : Nat), ts ≠ [] → (∀ t ∈ ts, t.length ≤ 100 ∧ ∀ b ∈ t, b < 256) → ts.length ≤ g → out.length + ts.flatten.length ≤ B →
    allF (txt (pre ++ strm ts ++ post)) B g (8 * pre.length) out = .ok () (8 * (pre.length + (strm ts).length)) (out ++ ts.flatten)
  | [], _, _, _, h, _, _, _ => absurd rfl h
  | t :: l, pre, out, 0, _, _, h, _ => by simp at h
  | [t], pre, out, g + 1, _, ht, _, hB => by
    obtain ⟨h1, h2⟩ := ht t (by simp)
    have hB : out.length + t.length ≤ B := by simpa using hB
    rw [show strm [t] = blkB 1 t from rfl, one_block (blk_at pre t post 1 (by omega) h1) g out hB, if_neg (by decide), blk_bytes pre t post 1 h2, blk_len]
    simp
    omega
  | t :: u :: l, pre, out, g + 1, _, ht, hg, hB => by
    obtain ⟨h1, h2⟩ := ht t (by simp)
    have hB : out.length + (t.length + (u :: l).flatten.length) ≤ B := by simpa using hB
    have e : pre ++ strm (t :: u :: l) ++ post = pre ++ blkB 0 t ++ (strm (u :: l) ++ post) := by rw [strm]; simp
    rw [e, one_block (blk_at pre t _ 0 (by omega) h1) g out (by omega), if_pos rfl, blk_bytes pre t _ 0 h2]
    have e2 : pre ++ blkB 0 t ++ (strm (u :: l) ++ post) = (pre ++ blkB 0 t) ++ strm (u :: l) ++ post := by simp
    have e3 : pre.length + 5 + t.length = (pre ++ blkB 0 t).length := by rw [List.length_append, blk_len]; omega
    rw [e2, e3, chain B post (u :: l) (pre ++ blkB 0 t) (out ++ t) g (by simp) (fun x hx => ht x (by simp [hx])) (by simpa using hg) (by rw [List.length_append]; omega)]
    congr 1
    · rw [strm, List.length_append, List.length_append]; omega
    · simp
end Go.Proofs.Ytgjenpdppobpkaa.If
