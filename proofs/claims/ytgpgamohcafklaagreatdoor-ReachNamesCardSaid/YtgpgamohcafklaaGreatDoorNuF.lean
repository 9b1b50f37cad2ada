/-
  number: Compare walked.
-/
import Derived.Test.YtgpgamohcafklaaGreatDoorNuE
namespace Go.Proofs.YtgpgamohcafklaaGreatDoor.Nu
open Go.RowKit

theorem cut_len (l : List UInt8) : (cutN l).a.length ≤ l.length ∧ (cutN l).b.length ≤ l.length := by
  have h : (sgnR l).length ≤ l.length := by
    unfold sgnR
    split
    · rw [List.length_drop]; omega
    · exact Nat.le_refl _
  unfold cutN
  split
  · have := take_le (sgnR l)
    have := aft_le (sgnR l)
    exact ⟨by show (befL _).length ≤ _; omega, by show (aftL _).length ≤ _; omega⟩
  · exact ⟨Nat.zero_le _, Nat.zero_le _⟩
theorem bare_len (p : Num) : (bareN p).a.length ≤ p.a.length ∧ (bareN p).b.length ≤ p.b.length := by
  unfold bareN tl tr Lib.trimLeftB Lib.trimRightB
  refine ⟨(List.dropWhile_sublist _).length_le, ?_⟩
  show (List.reverse _).length ≤ _
  rw [List.length_reverse]
  refine Nat.le_trans (List.dropWhile_sublist _).length_le ?_
  rw [List.length_reverse]
  exact Nat.le_refl _
theorem nv_is (p : Num) : nv p = .agg #[.int .i64 (p.kind : Nat), .bool p.neg, .string (S p.a), .string (S p.b)] := rfl
end Go.Proofs.YtgpgamohcafklaaGreatDoor.Nu
