/-
  number, plain: texts cut up, bared, compared. No program is in sight here.
-/
import Derived.Test.YtgpgamohcafklaaGreatDoorPkA
import Derived.Lib.TrimByte
import Derived.Lib.Bytealg
import Derived.Lib.Small
namespace Go.Proofs.YtgpgamohcafklaaGreatDoor.Nu
open Go.RowKit

def digB (c : UInt8) : Bool := decide (48 ≤ c.toNat ∧ c.toNat ≤ 57)
def befL (l : List UInt8) : List UInt8 := l.takeWhile (· != 46)
def aftL (l : List UInt8) : List UInt8 := (l.dropWhile (· != 46)).drop 1
def hasL (l : List UInt8) : Bool := l.contains 46
def sgnB (l : List UInt8) : Bool := l.head? == some 45
def sgnR (l : List UInt8) : List UInt8 := if l.head? = some 43 ∨ l.head? = some 45 then l.drop 1 else l
structure Num where
  kind : Nat
  neg : Bool
  a : List UInt8
  b : List UInt8
def goodL (r : List UInt8) : Bool := (befL r).all digB && (aftL r).all digB && !(befL r ++ aftL r).isEmpty
def cutN (l : List UInt8) : Num := if goodL (sgnR l) then ⟨if hasL (sgnR l) then 2 else 1, sgnB l, befL (sgnR l), aftL (sgnR l)⟩ else ⟨0, false, [], []⟩
def longN (p : Num) : Bool := decide (64 < p.a.length + p.b.length)
def tl (l : List UInt8) : List UInt8 := Lib.trimLeftB l 48
def tr (l : List UInt8) : List UInt8 := Lib.trimRightB l 48
def bareN (p : Num) : Num := ⟨p.kind, p.neg && !(tl p.a ++ tr p.b).isEmpty, tl p.a, tr p.b⟩
def orI (x y : Int) : Int := if x = 0 then y else x
def sizeN (x y : Num) : Int := orI (Lib.compareInt x.a.length y.a.length) (orI (Lib.compareBytes x.a y.a) (Lib.compareBytes x.b y.b))
def cmpB (x y : Num) : Int := if x.neg && y.neg then sizeN y x else if x.neg then -1 else if y.neg then 1 else sizeN x y
def cmpN (s t : List UInt8) : Int × Int :=
  if (cutN s).kind = 0 ∨ (cutN t).kind = 0 then (0, 7) else if longN (cutN s) || longN (cutN t) then (0, 3) else (cmpB (bareN (cutN s)) (bareN (cutN t)), 0)
def orS (l : List UInt8) : List UInt8 := if l.isEmpty then [48] else l
def txtN (p : Num) : List UInt8 := (if p.neg then [45] else []) ++ orS p.a ++ [46] ++ orS p.b
def realN (l : List UInt8) : List UInt8 × Int :=
  if (cutN l).kind ≠ 2 then ([], 7) else if longN (cutN l) then ([], 3) else
  if longN ⟨2, (bareN (cutN l)).neg, orS (bareN (cutN l)).a, orS (bareN (cutN l)).b⟩ then ([], 3) else (txtN (bareN (cutN l)), 0)

/-! ### comparing is an order -/
theorem cmpI_flip (x y : Int) : Lib.compareInt y x = - Lib.compareInt x y := by
  unfold Lib.compareInt
  split <;> split <;> first | omega | (split <;> first | omega | (split <;> omega))
theorem cmpY_flip : ∀ (a b : List UInt8), Lib.compareBytes b a = - Lib.compareBytes a b
  | [], [] => rfl
  | [], _ :: _ => rfl
  | _ :: _, [] => rfl
  | x :: a, y :: b => by
    simp only [Lib.compareBytes]
    by_cases h1 : x < y
    · have h2 : ¬ y < x := fun h => absurd (UInt8.lt_trans h1 h) (UInt8.lt_irrefl _)
      rw [if_pos h1, if_neg h2, if_pos h1]
      rfl
    · rw [if_neg h1]
      by_cases h2 : y < x
      · rw [if_pos h2, if_neg h1, if_pos h2]
      · rw [if_neg h2, if_neg h1, if_neg h2, cmpY_flip a b]
theorem size_flip (x y : Num) : sizeN y x = - sizeN x y := by
  unfold sizeN orI
  rw [cmpI_flip x.a.length y.a.length, cmpY_flip x.a y.a, cmpY_flip x.b y.b]
  split <;> split <;> first | omega | (split <;> first | omega | (split <;> omega))
theorem cmpY_refl : ∀ (a : List UInt8), Lib.compareBytes a a = 0
  | [] => rfl
  | x :: a => by
    simp only [Lib.compareBytes]
    rw [if_neg (UInt8.lt_irrefl x), if_neg (UInt8.lt_irrefl x)]
    exact cmpY_refl a
theorem cmpY_range : ∀ (a b : List UInt8), Lib.compareBytes a b = -1 ∨ Lib.compareBytes a b = 0 ∨ Lib.compareBytes a b = 1
  | [], [] => .inr (.inl rfl)
  | [], _ :: _ => .inl rfl
  | _ :: _, [] => .inr (.inr rfl)
  | x :: a, y :: b => by
    simp only [Lib.compareBytes]
    split
    · exact .inl rfl
    · split
      · exact .inr (.inr rfl)
      · exact cmpY_range a b
theorem cmpI_range (x y : Int) : Lib.compareInt x y = -1 ∨ Lib.compareInt x y = 0 ∨ Lib.compareInt x y = 1 := by
  unfold Lib.compareInt
  split
  · exact .inl rfl
  · split
    · exact .inr (.inr rfl)
    · exact .inr (.inl rfl)
theorem size_range (x y : Num) : sizeN x y = -1 ∨ sizeN x y = 0 ∨ sizeN x y = 1 := by
  unfold sizeN orI
  split
  · split
    · exact cmpY_range _ _
    · exact cmpY_range _ _
  · exact cmpI_range _ _
theorem cmpY_zero : ∀ (a b : List UInt8), Lib.compareBytes a b = 0 → a = b
  | [], [], _ => rfl
  | [], _ :: _, h => by simp [Lib.compareBytes] at h
  | _ :: _, [], h => by simp [Lib.compareBytes] at h
  | x :: a, y :: b, h => by
    simp only [Lib.compareBytes] at h
    split at h
    · cases h
    · split at h
      · cases h
      · rename_i h1 h2
        have e : x = y := UInt8.le_antisymm (UInt8.not_lt.1 h2) (UInt8.not_lt.1 h1)
        rw [e, cmpY_zero a b h]
theorem cmpI_zero {x y : Int} (h : Lib.compareInt x y = 0) : x = y := by
  unfold Lib.compareInt at h
  split at h
  · cases h
  · split at h
    · cases h
    · omega
/-- 'not above' is handed on -/
theorem cmpY_trans : ∀ (a b c : List UInt8), Lib.compareBytes a b ≤ 0 → Lib.compareBytes b c ≤ 0 → Lib.compareBytes a c ≤ 0 ∧ (Lib.compareBytes a c = 0 → Lib.compareBytes a b = 0 ∧ Lib.compareBytes b c = 0)
  | [], [], [], _, _ => by simp [Lib.compareBytes]
  | [], [], _ :: _, _, _ => by simp [Lib.compareBytes]
  | [], _ :: _, [], _, h => by simp [Lib.compareBytes] at h
  | [], _ :: _, _ :: _, _, _ => by simp [Lib.compareBytes]
  | _ :: _, [], _, h, _ => by simp [Lib.compareBytes] at h
  | _ :: _, _ :: _, [], _, h => by simp [Lib.compareBytes] at h
  | x :: a, y :: b, z :: c, h1, h2 => by
    simp only [Lib.compareBytes] at h1 h2 ⊢
    have ih := cmpY_trans a b c
    have ux := x.toNat_lt
    by_cases q1 : x < y
    · by_cases q2 : y < z
      · have q3 : x < z := UInt8.lt_trans q1 q2
        rw [if_pos q3]
        exact ⟨by omega, fun h => by omega⟩
      · by_cases q4 : z < y
        · rw [if_neg q2, if_pos q4] at h2
          omega
        · have e : y = z := UInt8.le_antisymm (UInt8.not_lt.1 q4) (UInt8.not_lt.1 q2)
          rw [← e, if_pos q1]
          exact ⟨by omega, fun h => by omega⟩
    · by_cases q4 : y < x
      · rw [if_neg q1, if_pos q4] at h1
        omega
      · have e : x = y := UInt8.le_antisymm (UInt8.not_lt.1 q4) (UInt8.not_lt.1 q1)
        subst e
        rw [if_neg q1, if_neg q4] at h1 ⊢
        by_cases q2 : x < z
        · rw [if_pos q2] at h2 ⊢
          rw [if_pos q2]
          exact ⟨by omega, fun h => by omega⟩
        · rw [if_neg q2] at h2 ⊢
          by_cases q5 : z < x
          · rw [if_pos q5] at h2
            omega
          · rw [if_neg q5] at h2 ⊢
            rw [if_neg q2, if_neg q5]
            exact ih h1 h2
theorem size_trans (x y z : Num) (h1 : sizeN x y ≤ 0) (h2 : sizeN y z ≤ 0) : sizeN x z ≤ 0 ∧ (sizeN x z = 0 → sizeN x y = 0 ∧ sizeN y z = 0) := by
  unfold sizeN orI at *
  have a1 := cmpY_trans x.a y.a z.a
  have a2 := cmpY_trans x.b y.b z.b
  have key : ∀ (p q : Int), Lib.compareInt p q = if p < q then -1 else if p > q then 1 else 0 := fun _ _ => rfl
  have r1 := cmpY_range x.a y.a
  have r2 := cmpY_range y.a z.a
  have r3 := cmpY_range x.a z.a
  rw [key] at h1 h2 ⊢
  rw [key, key]
  by_cases q1 : (x.a.length : Int) < y.a.length
  · by_cases q2 : (y.a.length : Int) < z.a.length
    · rw [if_pos (show (x.a.length : Int) < z.a.length by omega), if_neg (by omega)]
      exact ⟨by omega, fun h => by omega⟩
    · by_cases q3 : (y.a.length : Int) > z.a.length
      · rw [if_neg q2, if_pos q3, if_neg (by omega)] at h2
        omega
      · rw [if_pos (show (x.a.length : Int) < z.a.length by omega), if_neg (by omega)]
        exact ⟨by omega, fun h => by omega⟩
  · by_cases q4 : (x.a.length : Int) > y.a.length
    · rw [if_neg q1, if_pos q4, if_neg (by omega)] at h1
      omega
    · rw [if_neg q1, if_neg q4, if_pos rfl] at h1 ⊢
      by_cases q2 : (y.a.length : Int) < z.a.length
      · rw [if_pos (show (x.a.length : Int) < z.a.length by omega), if_neg (by omega)]
        exact ⟨by omega, fun h => by omega⟩
      · by_cases q3 : (y.a.length : Int) > z.a.length
        · rw [if_neg q2, if_pos q3, if_neg (by omega)] at h2
          omega
        · rw [if_neg q2, if_neg q3, if_pos rfl] at h2 ⊢
          rw [if_neg (show ¬ (x.a.length : Int) < z.a.length by omega), if_neg (show ¬ (x.a.length : Int) > z.a.length by omega), if_pos rfl]
          by_cases z1 : Lib.compareBytes x.a y.a = 0
          · by_cases z2 : Lib.compareBytes y.a z.a = 0
            · have e1 := cmpY_zero _ _ z1
              have e2 := cmpY_zero _ _ z2
              rw [if_pos z1] at h1 ⊢
              rw [if_pos z2] at h2 ⊢
              have z3 : Lib.compareBytes x.a z.a = 0 := by rw [e1, e2]; exact cmpY_refl _
              rw [if_pos z3]
              exact a2 h1 h2
            · have e1 := cmpY_zero _ _ z1
              rw [if_neg z2] at h2 ⊢
              have z3 : Lib.compareBytes x.a z.a = Lib.compareBytes y.a z.a := by rw [e1]
              rw [z3, if_neg z2]
              exact ⟨h2, fun h => absurd h z2⟩
          · rw [if_neg z1] at h1 ⊢
            have hz : Lib.compareBytes y.a z.a ≤ 0 := by
              by_cases z2 : Lib.compareBytes y.a z.a = 0
              · omega
              · rw [if_neg z2] at h2; exact h2
            obtain ⟨b1, b2⟩ := a1 h1 hz
            have z3 : ¬ Lib.compareBytes x.a z.a = 0 := fun h => z1 (b2 h).1
            rw [if_neg z3]
            exact ⟨b1, fun h => absurd h z3⟩
end Go.Proofs.YtgpgamohcafklaaGreatDoor.Nu
