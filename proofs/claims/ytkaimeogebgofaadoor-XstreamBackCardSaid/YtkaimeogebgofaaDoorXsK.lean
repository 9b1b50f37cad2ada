/-
  xstream's plain facts: what Dict tells of itself, what is read of what was put.
-/
import Derived.Test.YtkaimeogebgofaaDoorXsJ
import Derived.Test.YtkaimeogebgofaaDoorXsH
namespace Go.Proofs.YtkaimeogebgofaaDoor.Xs
open Go.RowKit
open Go.Proofs.YtkaimeogebgofaaDoor.Tr

theorem ok3 {n : Int} (h : -2147483647 ≤ n ∧ n ≤ 2147483647) (l : List Nd) : nodeOk l (nd3 n) = true := by
  have hb : bareN (nd3 n) = true := by simp [bareN, nd3, h.1, h.2]
  rw [nodeOk, hb]; rfl
theorem dictD_all {n : Int} (h : -2147483647 ≤ n ∧ n ≤ 2147483647) : (dictD n).all (nodeOk (dictD n)) = true := by
  rw [List.all_eq_true]
  intro x hx
  simp only [dictD, d5L, List.cons_append, List.nil_append, List.mem_cons, List.not_mem_nil, or_false] at hx
  have k0 : nodeOk (dictD n) (rootN 8 [1, 2, 3, 4, 5, 6]) = true := by kernel_rfl
  have k1 : nodeOk (dictD n) (nd6 kSize) = true := by kernel_rfl
  have k3 : nodeOk (dictD n) (nd6 kType) = true := by kernel_rfl
  have k4 : nodeOk (dictD n) (nd6 kXRef) = true := by kernel_rfl
  have k5 : nodeOk (dictD n) (nd6 kW) = true := by kernel_rfl
  have k6 : nodeOk (dictD n) (rootN 7 [7, 8, 9]) = true := by kernel_rfl
  rcases hx with rfl | rfl | rfl | rfl | rfl | rfl | rfl | rfl | rfl | rfl
  · exact k0
  · exact k1
  · exact ok3 h _
  · exact k3
  · exact k4
  · exact k5
  · exact k6
  · exact ok3 (by decide) _
  · exact ok3 (by decide) _
  · exact ok3 (by decide) _
theorem dictD_check {n : Int} (h : -2147483647 ≤ n ∧ n ≤ 2147483647) : checkN (dictD n) = 0 := by
  have hs : shapeN (dictD n) = some ([10, 2, 3, 4, 5, 6, 10, 8, 9, 10], [1, 2, 2, 2, 2, 2, 2, 3, 3, 3]) := by kernel_rfl
  unfold checkN
  rw [if_neg (by show ¬ 65536 < 10; omega), hs]
  show (if 256 < Lib.maxOf [1, 2, 2, 2, 2, 2, 2, 3, 3, 3] then (3 : Int) else _) = 0
  rw [if_neg (by decide), dictD_all h]
  rfl
theorem dictD_is {n : Int} (h : -2147483647 ≤ n ∧ n ≤ 2147483647) : isN (dictD n) 8 = true := decide_eq_true ⟨dictD_check h, rfl⟩
theorem dictD_names {n : Int} (h : -2147483647 ≤ n ∧ n ≤ 2147483647) : namesN (dictD n) = [kSize, kType, kW] := by
  rw [namesN, dictD_is h]
  kernel_rfl
theorem dictD_size {n : Int} (h : -2147483647 ≤ n ∧ n ≤ 2147483647) : getN (dictD n) kSize = some [nd3 n] := by
  rw [getN, dictD_names h]
  kernel_rfl
theorem dictD_w {n : Int} (h : -2147483647 ≤ n ∧ n ≤ 2147483647) : getN (dictD n) kW = some [rootN 7 [1, 2, 3], nd3 1, nd3 4, nd3 2] := by
  rw [getN, dictD_names h]
  kernel_rfl
theorem dictD_index {n : Int} (h : -2147483647 ≤ n ∧ n ≤ 2147483647) : getN (dictD n) kIndex = none := by
  rw [getN, dictD_names h]
  kernel_rfl
theorem dictD_lt (n : Int) : Lt (dictD n) := ⟨by show 10 ≤ _; omega, fun x hx => by
  simp only [dictD, d5L, List.cons_append, List.nil_append, List.mem_cons, List.not_mem_nil, or_false] at hx
  rcases hx with rfl | rfl | rfl | rfl | rfl | rfl | rfl | rfl | rfl | rfl <;> first | exact (by decide : (0 : Nat) ≤ 1000000) | exact (by decide : (4 : Nat) ≤ 1000000) | exact (by decide : (1 : Nat) ≤ 1000000)⟩
theorem w142 : KInts [rootN 7 [1, 2, 3], nd3 1, nd3 4, nd3 2] [1, 4, 2] where
  one := by decide
  kind := rfl
  len := rfl
  each := fun i hi => by
    match i, hi with
    | 0, _ => exact ⟨1, rfl, by decide, rfl, rfl⟩
    | 1, _ => exact ⟨2, rfl, by decide, rfl, rfl⟩
    | 2, _ => exact ⟨3, rfl, by decide, rfl, rfl⟩
end Go.Proofs.YtkaimeogebgofaaDoor.Xs
