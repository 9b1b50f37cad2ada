/-
  predict: the values of a row (fewer than sixteen bits): walked.
-/
import Derived.Test.YtoiegmdlbcbgoaaPrH
import Derived.Laws.Bits128
import Derived.Laws.BitsAllLaws
namespace Go.Proofs.Ytoiegmdlbcbgoaa.Pr
open Go.RowKit

theorem i64_and1 (n : Int) : bits .and .i64 n 1 = n % 2 := by
  have h127 : (BitVec.ofInt 64 1).toNat = 2 ^ 1 - 1 := by decide
  have key : (BitVec.ofInt 64 n &&& BitVec.ofInt 64 1).toNat = (n % ((2 ^ 64 : Nat) : Int)).toNat % 2 ^ 1 := by
    rw [BitVec.toNat_and, BitVec.toNat_ofInt, h127, Nat.and_two_pow_sub_one_eq_mod]
  show IntKind.i64.wrap ((BitVec.ofInt 64 n &&& BitVec.ofInt 64 1).toNat : Nat) = n % 2
  rw [key, IntKind.wrap_i64]
  omega
theorem i64_and3 (n : Int) : bits .and .i64 n 3 = n % 4 := by
  have h127 : (BitVec.ofInt 64 3).toNat = 2 ^ 2 - 1 := by decide
  have key : (BitVec.ofInt 64 n &&& BitVec.ofInt 64 3).toNat = (n % ((2 ^ 64 : Nat) : Int)).toNat % 2 ^ 2 := by
    rw [BitVec.toNat_and, BitVec.toNat_ofInt, h127, Nat.and_two_pow_sub_one_eq_mod]
  show IntKind.i64.wrap ((BitVec.ofInt 64 n &&& BitVec.ofInt 64 3).toNat : Nat) = n % 4
  rw [key, IntKind.wrap_i64]
  omega
theorem i64_and15 (n : Int) : bits .and .i64 n 15 = n % 16 := by
  have h127 : (BitVec.ofInt 64 15).toNat = 2 ^ 4 - 1 := by decide
  have key : (BitVec.ofInt 64 n &&& BitVec.ofInt 64 15).toNat = (n % ((2 ^ 64 : Nat) : Int)).toNat % 2 ^ 4 := by
    rw [BitVec.toNat_and, BitVec.toNat_ofInt, h127, Nat.and_two_pow_sub_one_eq_mod]
  show IntKind.i64.wrap ((BitVec.ofInt 64 n &&& BitVec.ofInt 64 15).toNat : Nat) = n % 16
  rw [key, IntKind.wrap_i64]
  omega
theorem i64_and255 (n : Int) : bits .and .i64 n 255 = n % 256 := by
  have h127 : (BitVec.ofInt 64 255).toNat = 2 ^ 8 - 1 := by decide
  have key : (BitVec.ofInt 64 n &&& BitVec.ofInt 64 255).toNat = (n % ((2 ^ 64 : Nat) : Int)).toNat % 2 ^ 8 := by
    rw [BitVec.toNat_and, BitVec.toNat_ofInt, h127, Nat.and_two_pow_sub_one_eq_mod]
  show IntKind.i64.wrap ((BitVec.ofInt 64 n &&& BitVec.ofInt 64 255).toNat : Nat) = n % 256
  rw [key, IntKind.wrap_i64]
  omega
/-- bits that a value may have, within a byte -/
def small (b : Nat) : Prop := b = 1 ∨ b = 2 ∨ b = 4 ∨ b = 8
def atP (b i : Nat) : Nat := i * b / 8
def byP (b i : Nat) : Nat := 8 - b - i * b % 8
def bxP (b : Nat) : Obj := .cells #[.int .i64 b] 3 (0, 0)
set_option maxRecDepth 100000 in
set_option maxHeartbeats 4000000 in
theorem shift_walk (b i r1 : Nat) (w : World) (hb : small b) (hi : i ≤ 1048576) (h1 : w.heap[r1]? = some (bxP b)) :
    Calls Try.prog 31 #[.int .i64 i, .pointer (some ⟨r1, 0, none⟩)] w fun e w' => e = .returned (.tuple #[.int .i64 (atP b i : Nat), .int .i64 (byP b i : Nat)]) ∧ Ext [] w w' := by
  unfold bxP at h1
  have c0 := cellOf h1 0
  clear h1
  rcases hb with rfl | rfl | rfl | rfl
  · have ea : ((atP 1 i : Nat) : Int) = (i : Int) / 8 := by unfold atP; omega
    have eb : ((byP 1 i : Nat) : Int) = 8 - 1 - (i : Int) % 8 := by unfold byP; omega
    rw [ea, eb]
    clear ea eb
    go_enter Try.func31, Try.ntmps31
    go_wp2_with fail
    go_quiet (fail)
    go_wp2_with fail
    go_ret2
    exact ⟨rfl, (Ext.refl _ _).drewN _⟩
  · have ea : ((atP 2 i : Nat) : Int) = (i : Int) * 2 / 8 := by unfold atP; omega
    have eb : ((byP 2 i : Nat) : Int) = 8 - 2 - (i : Int) * 2 % 8 := by unfold byP; omega
    rw [ea, eb]
    clear ea eb
    go_enter Try.func31, Try.ntmps31
    go_wp2_with fail
    go_quiet (fail)
    go_wp2_with fail
    go_ret2
    exact ⟨rfl, (Ext.refl _ _).drewN _⟩
  · have ea : ((atP 4 i : Nat) : Int) = (i : Int) * 4 / 8 := by unfold atP; omega
    have eb : ((byP 4 i : Nat) : Int) = 8 - 4 - (i : Int) * 4 % 8 := by unfold byP; omega
    rw [ea, eb]
    clear ea eb
    go_enter Try.func31, Try.ntmps31
    go_wp2_with fail
    go_quiet (fail)
    go_wp2_with fail
    go_ret2
    exact ⟨rfl, (Ext.refl _ _).drewN _⟩
  · have ea : ((atP 8 i : Nat) : Int) = (i : Int) := by unfold atP; omega
    have eb : ((byP 8 i : Nat) : Int) = 0 := by unfold byP; omega
    rw [ea, eb]
    clear ea eb
    go_enter Try.func31, Try.ntmps31
    go_wp2_with fail
    go_quiet (fail)
    go_wp2_with fail
    go_ret2
    exact ⟨rfl, (Ext.refl _ _).drewN _⟩
end Go.Proofs.Ytoiegmdlbcbgoaa.Pr
