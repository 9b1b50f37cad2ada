/-
  runs, plain: what Put tells Get reads. No program is in sight here.
-/
import Derived.Test.YtiadnmhginpgfaaRnG
namespace Go.Proofs.Ytiadnmhginpgfaa.Rn
open Go.RowKit

theorem sameF_all (l : List UInt8) : ∀ (k n : Nat), k + n = 128 → (∀ i, i < n → l[i]? = l[0]?) → ∀ i, i < sameF l n → l[i]? = l[0]? := by
  intro k
  induction k with
  | zero => intro n hn ha i hi; rw [sameF_stop _ _ (by omega)] at hi; exact ha i hi
  | succ k ih =>
    intro n hn ha i hi
    by_cases h : n < 128 ∧ n < l.length ∧ l[n]? = l[0]?
    · rw [sameF_more _ _ h] at hi
      exact ih (n + 1) (by omega) (fun j hj => by
        by_cases e : j = n
        · rw [e]; exact h.2.2
        · exact ha j (by omega)) i hi
    · rw [sameF_stop _ _ h] at hi; exact ha i hi
/-- a piece that may be told -/
def Ok (x : Piece) : Prop := 1 ≤ x.1.length ∧ x.1.length ≤ 128 ∧ (x.2 = true → 2 ≤ x.1.length ∧ ∀ i, i < x.1.length → x.1[i]? = x.1[0]?)
theorem pieces_ok : ∀ l, ∀ x ∈ pieces l, Ok x := by
  refine pieces_ind (by rw [pieces_nil]; simp) (fun l hl ih x hx => ?_)
  have hm := pieces_mem l x hx
  rw [pieces_cons l hl] at hx
  rcases List.mem_cons.1 hx with rfl | hx
  · refine ⟨hm.1, hm.2.1, fun h => ⟨hm.2.2 h, fun i hi => ?_⟩⟩
    have h1 : 1 < same l := of_decide_eq_true h
    have hc : cut l = same l := if_pos h1
    have hi' : i < cut l := by simp at hi; omega
    show (l.take (cut l))[i]? = (l.take (cut l))[0]?
    rw [List.getElem?_take_of_lt hi', List.getElem?_take_of_lt (by omega)]
    exact sameF_all l 127 1 rfl (fun j hj => by rw [show j = 0 by omega]) i (by rw [hc] at hi'; exact hi')
  · exact ih x hx
theorem getL_enc (b : Int) (x : Piece) (rest out : List UInt8) (hx : Ok x) (hb : (out.length : Int) + x.1.length ≤ b) : getL b (enc x ++ rest) out = getL b rest (out ++ x.1) := by
  obtain ⟨p, m⟩ := x
  obtain ⟨h1, h2, h3⟩ := hx
  dsimp only at h1 h2 h3 hb ⊢
  cases m with
  | true =>
    obtain ⟨h4, h5⟩ := h3 rfl
    have ec : (UInt8.ofNat (257 - p.length)).toNat = 257 - p.length := by rw [UInt8.toNat_ofNat']; omega
    have he : enc (p, true) = [UInt8.ofNat (257 - p.length), p.headD 0] := rfl
    rw [he, List.cons_append, List.cons_append, List.nil_append, getL, ec, if_neg (by omega), if_pos (by omega), if_neg (by simp), if_neg (by omega)]
    have hr : rep [p.headD 0] (257 - (257 - p.length)) = p := by
      rw [show 257 - (257 - p.length) = p.length by omega]
      refine List.ext_getElem (rep_len _ _) (fun i i1 i2 => ?_)
      have := h5 i i2
      cases p with
      | nil => simp at i2
      | cons a p =>
        rw [List.getElem?_eq_getElem i2] at this
        simp at this
        simp [rep, Nat.mod_one, this]
    simp only [List.take_succ_cons, List.take_zero, List.drop_succ_cons, List.drop_zero]
    rw [hr]
  | false =>
    have ec : (UInt8.ofNat (p.length - 1)).toNat = p.length - 1 := by rw [UInt8.toNat_ofNat']; omega
    have he : enc (p, false) = UInt8.ofNat (p.length - 1) :: p := rfl
    rw [he, List.cons_append, getL, ec, if_neg (by omega), if_neg (by omega), if_neg (by simp; omega), if_neg (by omega)]
    rw [show p.length - 1 + 1 = p.length by omega, List.take_left, List.drop_left]
theorem getL_pieces (b : Int) : ∀ (L : List Piece) (rest out : List UInt8), (∀ x ∈ L, Ok x) → (out.length : Int) + (L.flatMap (·.1)).length ≤ b → getL b (L.flatMap enc ++ rest) out = getL b rest (out ++ L.flatMap (·.1))
  | [], rest, out, _, _ => by simp
  | x :: L, rest, out, h, hb => by
    simp only [List.flatMap_cons, List.length_append, Int.natCast_add] at hb
    rw [List.flatMap_cons, List.append_assoc, getL_enc b x _ out (h x (by simp)) (by omega),
      getL_pieces b L rest (out ++ x.1) (fun y hy => h y (by simp [hy])) (by rw [List.length_append, Int.natCast_add]; omega), List.flatMap_cons, List.append_assoc]
/-- what stands behind a text's runs is read with the text ahead of it -/
theorem getL_text (b : Int) (l rest out : List UInt8) (hb : (out.length : Int) + l.length ≤ b) : getL b ((pieces l).flatMap enc ++ rest) out = getL b rest (out ++ l) := by
  rw [getL_pieces b (pieces l) rest out (pieces_ok l) (by rw [pieces_all]; exact hb), pieces_all]
theorem getL_end (b : Int) (rest out : List UInt8) : getL b (128 :: rest) out = (out, 0) := by
  rw [getL]; exact if_pos rfl
end Go.Proofs.Ytiadnmhginpgfaa.Rn
