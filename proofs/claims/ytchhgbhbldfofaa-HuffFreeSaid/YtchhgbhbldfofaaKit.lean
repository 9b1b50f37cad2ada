/-
  pagemenderkit: Pick, Times walked; what the given rows promise of small integers.
-/
import Derived.Test.YtchhgbhbldfofaaBase
import Derived.Test.YtchhgbhbldfofaaProg
namespace Go.Proofs.Ytchhgbhbldfofaa.Kt
open Go.RowKit

theorem wf_i64 {n : Int} (h : (Lit.int .i64 n).wf = true) : -9223372036854775808 ≤ n ∧ n ≤ 9223372036854775807 := by
  simp [Lit.wf, IntKind.min, IntKind.max, IntKind.signed, IntKind.bits] at h
  omega
theorem wf_u8 {n : Int} (h : (Lit.int .u8 n).wf = true) : ∃ b : UInt8, n = ((b.toNat : Nat) : Int) := by
  simp [Lit.wf, IntKind.min, IntKind.max, IntKind.signed, IntKind.bits] at h
  exact ⟨UInt8.ofNat n.toNat, by rw [UInt8.toNat_ofNat']; omega⟩

theorem pick_any (n m : Int) (w : World) (hm : 1 ≤ m) (hm2 : m ≤ 9223372036854775807) (h0 : -9223372036854775808 ≤ n) (h1 : n ≤ 9223372036854775807) :
    Calls Try.prog 34 #[.int .i64 n, .int .i64 m] w fun e w' => e = .returned (.int .i64 (n % m)) ∧ w = w' := by
  have e0 := Int.emod_nonneg n (show m ≠ 0 by omega)
  have e1 := Int.emod_lt_of_pos n (show 0 < m by omega)
  by_cases hn : 0 ≤ n
  · have e2 : n.tmod m = n % m := Int.tmod_eq_emod_of_nonneg hn
    have E2 := Lib.hid e2
    clear e2
    go_enter Try.func34, Try.ntmps34
    go_wp2
    go_ret
    exact ⟨rfl, rfl⟩
  · have e2 : n.tmod m = if n % m = 0 then 0 else n % m - m := by
      rw [Int.tmod_eq_emod]
      by_cases hd : m ∣ n
      · rw [if_pos (Or.inr hd), if_pos (Int.emod_eq_zero_of_dvd hd)]; have := Int.emod_eq_zero_of_dvd hd; omega
      · rw [if_neg (fun h => h.elim hn hd), if_neg (fun h => hd (Int.dvd_of_emod_eq_zero h))]; omega
    by_cases hz : n % m = 0
    · rw [if_pos hz] at e2
      have Hz := Lib.hid hz
      clear hz
      go_enter Try.func34, Try.ntmps34
      go_wp2
      go_ret
      rw [Hz.out]
      exact ⟨rfl, rfl⟩
    · rw [if_neg hz] at e2
      have h2 : n % m - m < 0 := by omega
      have h3 : n % m - m + m = n % m := by omega
      go_enter Try.func34, Try.ntmps34
      go_wp2
      go_ret
      exact ⟨rfl, rfl⟩

/-- a text so many times -/
def times (s : ByteArray) : Nat → ByteArray
  | 0 => ByteArray.empty
  | k + 1 => times s k ++ s
theorem times_size (s : ByteArray) : ∀ k, (times s k).size = k * s.size
  | 0 => by simp [times]
  | k + 1 => by rw [times, ByteArray.size_append, times_size s k, Nat.add_mul, Nat.one_mul]
end Go.Proofs.Ytchhgbhbldfofaa.Kt
