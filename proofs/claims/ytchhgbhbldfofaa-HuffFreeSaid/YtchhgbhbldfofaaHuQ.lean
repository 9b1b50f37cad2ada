/-
  Plain: nodes of a Huffman tree and their order. No program is in sight here.
-/
import Derived.Test.YtchhgbhbldfofaaHuP
namespace Go.Proofs.Ytchhgbhbldfofaa.Hu

inductive Nd where
  | leaf (c : Int) (s : Nat)
  | join (c : Int) (g : Nat) (a b : Nd)
instance : Inhabited Nd := ⟨.leaf 0 0⟩
namespace Nd
def cnt : Nd → Int
  | leaf c _ => c
  | join c _ _ _ => c
def mk : Nd → Bool
  | leaf _ _ => false
  | join _ _ _ _ => true
def age : Nd → Nat
  | leaf _ s => s
  | join _ g _ _ => g
end Nd
def cmpZ (a b : Int) : Int := if a < b then -1 else if b < a then 1 else 0
def b2i (b : Bool) : Int := if b then 1 else 0
def or3 (a b c : Int) : Int := if a ≠ 0 then a else if b ≠ 0 then b else c
def ordZ (x y : Nd) : Int := or3 (cmpZ x.cnt y.cnt) (cmpZ (b2i x.mk) (b2i y.mk)) (cmpZ x.age y.age)
def ndLt (x y : Nd) : Bool := decide (ordZ x y < 0)
theorem cmpZ_cases (a b : Int) : (a < b ∧ cmpZ a b = -1) ∨ (b < a ∧ cmpZ a b = 1) ∨ (a = b ∧ cmpZ a b = 0) := by
  unfold cmpZ
  by_cases h : a < b
  · exact .inl ⟨h, if_pos h⟩
  · by_cases h2 : b < a
    · exact .inr (.inl ⟨h2, by rw [if_neg h, if_pos h2]⟩)
    · exact .inr (.inr ⟨by omega, by rw [if_neg h, if_neg h2]⟩)
/-- the order, told by numbers -/
theorem ndLt_iff (x y : Nd) : ndLt x y = true ↔ x.cnt < y.cnt ∨ (x.cnt = y.cnt ∧ (b2i x.mk < b2i y.mk ∨ (b2i x.mk = b2i y.mk ∧ x.age < y.age))) := by
  unfold ndLt ordZ or3
  rw [decide_eq_true_iff]
  rcases cmpZ_cases x.cnt y.cnt with ⟨h1, h2⟩ | ⟨h1, h2⟩ | ⟨h1, h2⟩ <;> rcases cmpZ_cases (b2i x.mk) (b2i y.mk) with ⟨h3, h4⟩ | ⟨h3, h4⟩ | ⟨h3, h4⟩ <;> rcases cmpZ_cases x.age y.age with ⟨h5, h6⟩ | ⟨h5, h6⟩ | ⟨h5, h6⟩ <;>
    rw [h2, h4, h6] <;> simp <;> omega
theorem ndLt_false (x y : Nd) : ndLt x y = false ↔ ¬ (x.cnt < y.cnt ∨ (x.cnt = y.cnt ∧ (b2i x.mk < b2i y.mk ∨ (b2i x.mk = b2i y.mk ∧ x.age < y.age)))) := by
  rw [← ndLt_iff]; simp
theorem ndLt_trans (a b c : Nd) (h1 : ndLt a b = false) (h2 : ndLt b c = false) : ndLt a c = false := by
  rw [ndLt_false] at *; omega
theorem ndLt_asymm (a b : Nd) (h : ndLt a b = true) : ndLt b a = false := by
  rw [ndLt_iff] at h; rw [ndLt_false]; omega
theorem ndLt_irr (a : Nd) : ndLt a a = false := by rw [ndLt_false]; omega
theorem ndLt_tr (a b c : Nd) (h1 : ndLt a b = true) (h2 : ndLt b c = true) : ndLt a c = true := by
  rw [ndLt_iff] at *; omega
/-- the order of what stands in a heap: an address, a node -/
abbrev Pn := Nat × Nd
def pnLt (x y : Pn) : Bool := ndLt x.2 y.2
theorem pnLt_trans (a b c : Pn) (h1 : pnLt a b = false) (h2 : pnLt b c = false) : pnLt a c = false := ndLt_trans _ _ _ h1 h2
theorem pnLt_asymm (a b : Pn) (h : pnLt a b = true) : pnLt b a = false := ndLt_asymm _ _ h
end Go.Proofs.Ytchhgbhbldfofaa.Hu
