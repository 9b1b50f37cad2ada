/-
  inflate: step, Length, Distance walked.
-/
import Derived.Test.YtgjenpdppobpkaaInD
namespace Go.Proofs.Ytgjenpdppobpkaa.If
open Go.RowKit Bt Hu

def stX (n few : Nat) : Nat := if n < 2 * few then 0 else n / few - 1
def stB (n few : Nat) : Nat := if n < 2 * few then n else (few + n % few) * 2 ^ (n / few - 1)
theorem step4_table : ∀ n, n < 28 → stX n 4 ≤ 6 ∧ stB n 4 ≤ 255 := by decide +kernel
theorem step2_table : ∀ n, n < 30 → stX n 2 ≤ 13 ∧ stB n 2 ≤ 24576 := by decide +kernel
set_option maxRecDepth 100000 in
set_option maxHeartbeats 4000000 in
theorem step4_walk (n : Nat) (hn : n < 28) (w : World) : Calls Try.prog 34 #[.int .i64 n, .int .i64 4] w fun e w' => e = .returned (.tuple #[.int .i64 (stB n 4), .int .i64 (stX n 4)]) ∧ w = w' := by
  by_cases h : n < 8
  · have e1 : stB n 4 = n := by unfold stB; rw [if_pos (by omega)]
    have e2 : stX n 4 = 0 := by unfold stX; rw [if_pos (by omega)]
    rw [e1, e2]
    have h' : (n : Int) < 8 := by omega
    clear e1 e2
    go_enter Try.func34, Try.ntmps34
    go_wp2_with fail
    exact bodyPost_ret (results_tmp2 rfl _ _ _) rfl ⟨rfl, rfl⟩
  · obtain ⟨x, hx⟩ : ∃ x, n / 4 - 1 = x := ⟨_, rfl⟩
    obtain ⟨r, hr⟩ : ∃ r, n % 4 = r := ⟨_, rfl⟩
    have e1 : stB n 4 = (4 + r) * 2 ^ x := by unfold stB; rw [if_neg (by omega), hr, hx]
    have e2 : stX n 4 = x := by unfold stX; rw [if_neg (by omega), hx]
    have ht := step4_table n hn
    rw [e1, e2] at ht ⊢
    obtain ⟨P, hP⟩ : ∃ P, (4 + r) * 2 ^ x = P := ⟨_, rfl⟩
    rw [hP] at ht ⊢
    have hPi : ((4 : Int) + (r : Int)) * 2 ^ x = (P : Int) := by rw [← hP]; push_cast; rfl
    have hq : (n : Int) / 4 = (x : Int) + 1 := by omega
    have hr2 : (n : Int) % 4 = (r : Int) := by omega
    have h' : ¬ (n : Int) < 8 := by omega
    have hx6 : x ≤ 6 := ht.1
    have hP2 : P ≤ 255 := ht.2
    have hr3 : r ≤ 3 := by omega
    clear e1 e2 ht hP hx hr h
    go_enter Try.func34, Try.ntmps34
    go_wp2_with fail
    exact bodyPost_ret (results_tmp2 rfl _ _ _) rfl ⟨rfl, rfl⟩
set_option maxRecDepth 100000 in
set_option maxHeartbeats 4000000 in
theorem step2_walk (n : Nat) (hn : n < 30) (w : World) : Calls Try.prog 34 #[.int .i64 n, .int .i64 2] w fun e w' => e = .returned (.tuple #[.int .i64 (stB n 2), .int .i64 (stX n 2)]) ∧ w = w' := by
  by_cases h : n < 4
  · have e1 : stB n 2 = n := by unfold stB; rw [if_pos (by omega)]
    have e2 : stX n 2 = 0 := by unfold stX; rw [if_pos (by omega)]
    rw [e1, e2]
    have h' : (n : Int) < 4 := by omega
    clear e1 e2
    go_enter Try.func34, Try.ntmps34
    go_wp2_with fail
    exact bodyPost_ret (results_tmp2 rfl _ _ _) rfl ⟨rfl, rfl⟩
  · obtain ⟨x, hx⟩ : ∃ x, n / 2 - 1 = x := ⟨_, rfl⟩
    obtain ⟨r, hr⟩ : ∃ r, n % 2 = r := ⟨_, rfl⟩
    have e1 : stB n 2 = (2 + r) * 2 ^ x := by unfold stB; rw [if_neg (by omega), hr, hx]
    have e2 : stX n 2 = x := by unfold stX; rw [if_neg (by omega), hx]
    have ht := step2_table n hn
    rw [e1, e2] at ht ⊢
    obtain ⟨P, hP⟩ : ∃ P, (2 + r) * 2 ^ x = P := ⟨_, rfl⟩
    rw [hP] at ht ⊢
    have hPi : ((2 : Int) + (r : Int)) * 2 ^ x = (P : Int) := by rw [← hP]; push_cast; rfl
    have hq : (n : Int) / 2 = (x : Int) + 1 := by omega
    have hr2 : (n : Int) % 2 = (r : Int) := by omega
    have h' : ¬ (n : Int) < 4 := by omega
    have hx6 : x ≤ 13 := ht.1
    have hP2 : P ≤ 24576 := ht.2
    have hr3 : r ≤ 1 := by omega
    clear e1 e2 ht hP hx hr h
    go_enter Try.func34, Try.ntmps34
    go_wp2_with fail
    exact bodyPost_ret (results_tmp2 rfl _ _ _) rfl ⟨rfl, rfl⟩
/-- a symbol's least length, of any number -/
def lenBZ (x : Int) : Nat := if x < 257 ∨ 285 < x then 0 else lenB x.toNat
def lenXZ (x : Int) : Nat := if x < 257 ∨ 285 < x then 0 else lenX x.toNat
def dstBZ (x : Int) : Nat := if x < 0 ∨ 29 < x then 0 else dstB x.toNat
def dstXZ (x : Int) : Nat := if x < 0 ∨ 29 < x then 0 else dstX x.toNat
set_option maxRecDepth 100000 in
set_option maxHeartbeats 4000000 in
theorem length_walk (x : Int) (w : World) : Calls Try.prog 15 #[.int .i64 x] w fun e w' => e = .returned (.tuple #[.int .i64 (lenBZ x), .int .i64 (lenXZ x)]) ∧ w = w' := by
  by_cases h1 : x < 257
  · have e1 : lenBZ x = 0 := by unfold lenBZ; rw [if_pos (.inl h1)]
    have e2 : lenXZ x = 0 := by unfold lenXZ; rw [if_pos (.inl h1)]
    rw [e1, e2]
    clear e1 e2
    go_enter Try.func15, Try.ntmps15
    go_wp2_with fail
    exact bodyPost_ret (results_tmp2 rfl _ _ _) rfl ⟨rfl, rfl⟩
  by_cases h2 : 285 < x
  · have e1 : lenBZ x = 0 := by unfold lenBZ; rw [if_pos (.inr h2)]
    have e2 : lenXZ x = 0 := by unfold lenXZ; rw [if_pos (.inr h2)]
    rw [e1, e2]
    clear e1 e2
    go_enter Try.func15, Try.ntmps15
    go_wp2_with fail
    exact bodyPost_ret (results_tmp2 rfl _ _ _) rfl ⟨rfl, rfl⟩
  by_cases h3 : x = 285
  · subst h3
    go_enter Try.func15, Try.ntmps15
    go_wp2_with fail
    exact bodyPost_ret (results_tmp2 rfl _ _ _) rfl ⟨rfl, rfl⟩
  obtain ⟨n, rfl⟩ : ∃ n : Nat, x = (n : Int) + 257 := ⟨(x - 257).toNat, by omega⟩
  have e1 : lenBZ ((n : Int) + 257) = stB n 4 + 3 := by
    unfold lenBZ lenB stB
    rw [if_neg (by omega), show ((n : Int) + 257).toNat = n + 257 by omega, if_neg (by omega), Nat.add_sub_cancel]
    by_cases h : n < 8
    · rw [if_pos h, if_pos (by omega)]
    · rw [if_neg h, if_neg (by omega)]
  have e2 : lenXZ ((n : Int) + 257) = stX n 4 := by
    unfold lenXZ lenX stX
    rw [if_neg (by omega), show ((n : Int) + 257).toNat = n + 257 by omega, if_neg (by omega), Nat.add_sub_cancel]
  have ht := step4_table n (by omega)
  rw [e1, e2]
  have HST := Lib.hid (step4_walk n (by omega) w)
  generalize stB n 4 = P at *
  generalize stX n 4 = X at *
  have hX := ht.1
  have hP := ht.2
  have hn28 : n ≤ 27 := by omega
  have h3' : ((n : Int) + 257 == 285) = false := beq_eq_false_iff_ne.2 h3
  clear e1 e2 ht h3
  go_enter Try.func15, Try.ntmps15
  go_wp2_with fail
  refine HST.out.mono ?_
  clear HST
  rintro e w1 ⟨rfl, rfl⟩
  go_wp2_with fail
  exact bodyPost_ret (results_tmp2 rfl _ _ _) rfl ⟨rfl, rfl⟩
set_option maxRecDepth 100000 in
set_option maxHeartbeats 4000000 in
theorem distance_walk (x : Int) (w : World) : Calls Try.prog 16 #[.int .i64 x] w fun e w' => e = .returned (.tuple #[.int .i64 (dstBZ x), .int .i64 (dstXZ x)]) ∧ w = w' := by
  by_cases h1 : x < 0
  · have e1 : dstBZ x = 0 := by unfold dstBZ; rw [if_pos (.inl h1)]
    have e2 : dstXZ x = 0 := by unfold dstXZ; rw [if_pos (.inl h1)]
    rw [e1, e2]
    clear e1 e2
    go_enter Try.func16, Try.ntmps16
    go_wp2_with fail
    exact bodyPost_ret (results_tmp2 rfl _ _ _) rfl ⟨rfl, rfl⟩
  by_cases h2 : 29 < x
  · have e1 : dstBZ x = 0 := by unfold dstBZ; rw [if_pos (.inr h2)]
    have e2 : dstXZ x = 0 := by unfold dstXZ; rw [if_pos (.inr h2)]
    rw [e1, e2]
    clear e1 e2
    go_enter Try.func16, Try.ntmps16
    go_wp2_with fail
    exact bodyPost_ret (results_tmp2 rfl _ _ _) rfl ⟨rfl, rfl⟩
  obtain ⟨n, rfl⟩ : ∃ n : Nat, x = (n : Int) := ⟨x.toNat, by omega⟩
  have e1 : dstBZ (n : Int) = stB n 2 + 1 := by
    unfold dstBZ dstB stB
    rw [if_neg (by omega), Int.toNat_natCast]
    by_cases h : n < 4
    · rw [if_pos h, if_pos (by omega)]
    · rw [if_neg h, if_neg (by omega)]
  have e2 : dstXZ (n : Int) = stX n 2 := by
    unfold dstXZ dstX stX
    rw [if_neg (by omega), Int.toNat_natCast]
  have ht := step2_table n (by omega)
  rw [e1, e2]
  have HST := Lib.hid (step2_walk n (by omega) w)
  generalize stB n 2 = P at *
  generalize stX n 2 = X at *
  have hX := ht.1
  have hP := ht.2
  clear e1 e2 ht
  go_enter Try.func16, Try.ntmps16
  go_wp2_with fail
  refine HST.out.mono ?_
  clear HST
  rintro e w1 ⟨rfl, rfl⟩
  go_wp2_with fail
  exact bodyPost_ret (results_tmp2 rfl _ _ _) rfl ⟨rfl, rfl⟩
end Go.Proofs.Ytgjenpdppobpkaa.If
