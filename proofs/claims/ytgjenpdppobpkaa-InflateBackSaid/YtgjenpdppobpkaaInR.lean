/-
  inflate: LengthOf, DistanceOf, lives walked; examples.
-/
import Derived.Test.YtgjenpdppobpkaaInQ
namespace Go.Proofs.Ytgjenpdppobpkaa.If
open Go.RowKit Bt Hu

def lastF (f : Nat → Nat) (n lo : Nat) : Nat → Nat
  | 0 => lo
  | k + 1 => if f (lo + (k + 1)) ≤ n then lo + (k + 1) else lastF f n lo k
set_option maxRecDepth 100000 in
set_option maxHeartbeats 4000000 in
theorem last_len (n : Nat) (w : World) : Calls Try.prog 37 #[.int .i64 257, .int .i64 285, .int .i64 n, .func (.func 15) #[] #[]] w fun e w' => e = .returned (.int .i64 (lastF lenB n 257 28)) ∧ w = w' := by
  obtain ⟨R, hR⟩ : ∃ R, lastF lenB n 257 28 = R := ⟨_, rfl⟩
  rw [hR]
  have HR := Lib.hid hR
  clear hR
  go_enter Try.func37, Try.ntmps37
  go_wp2_with fail
  go_loopg [9] 29 (fun g sv wr => ∃ k : Nat, g = k + 1 ∧ k ≤ 28 ∧ sv = .int .i64 ((257 + k : Nat) : Int) ∧ lastF lenB n 257 k = R ∧ w = wr)
  case atStart => exact ⟨28, rfl, by omega, rfl, HR.out, rfl⟩
  case round =>
    clear HR
    obtain ⟨k, rfl, hk, rfl, hR, rfl⟩ := hrel
    cases k with
    | zero =>
      rw [lastF] at hR
      subst hR
      go_wp2_with fail
      go_ret
      exact ⟨rfl, rfl⟩
    | succ k =>
      rw [lastF] at hR
      have hlw := length_walk ((257 + (k + 1) : Nat) : Int) w
      rw [(lenBZ_at (257 + (k + 1)) (by omega) (by omega)).1, (lenBZ_at (257 + (k + 1)) (by omega) (by omega)).2] at hlw
      have ht := len_table (257 + (k + 1)) (by omega)
      obtain ⟨P, hP⟩ : ∃ P, lenB (257 + (k + 1)) = P := ⟨_, rfl⟩
      obtain ⟨X, hX⟩ : ∃ X, lenX (257 + (k + 1)) = X := ⟨_, rfl⟩
      rw [hP] at hR
      rw [hP, hX] at hlw ht
      obtain ⟨q, hq⟩ : ∃ q, 257 + (k + 1) = q := ⟨_, rfl⟩
      rw [hq] at hlw hR ⊢
      have HLW := Lib.hid hlw
      have hq1 : (257 : Int) < (q : Int) := by omega
      have HQ := Lib.hid hq
      clear hlw hP hX hq
      have hqb : (q : Int) ≤ 285 := by have := HQ.out; omega
      by_cases hle : P ≤ n
      · rw [if_pos hle] at hR
        have hle' : (P : Int) ≤ (n : Int) := by omega
        have HR := Lib.hid hR
        clear hR
        go_wp2_with fail
        refine HLW.out.mono ?_
        clear HLW
        rintro e w1 ⟨rfl, rfl⟩
        go_wp2_with fail
        go_ret
        exact ⟨by rw [HR.out]; rfl, rfl⟩
      · rw [if_neg hle] at hR
        have hle' : ¬ (P : Int) ≤ (n : Int) := by omega
        have HR := Lib.hid hR
        clear hR
        go_wp2_with fail
        refine HLW.out.mono ?_
        clear HLW
        rintro e w1 ⟨rfl, rfl⟩
        go_wp2_with fail
        go_roundg (k + 1)
        case measure => omega
        case rel => exact ⟨k, rfl, by omega, by have := HQ.out; congr 1; omega, HR.out, rfl⟩
set_option maxRecDepth 100000 in
set_option maxHeartbeats 4000000 in
theorem last_dst (n : Nat) (w : World) : Calls Try.prog 37 #[.int .i64 0, .int .i64 29, .int .i64 n, .func (.func 16) #[] #[]] w fun e w' => e = .returned (.int .i64 (lastF dstB n 0 29)) ∧ w = w' := by
  obtain ⟨R, hR⟩ : ∃ R, lastF dstB n 0 29 = R := ⟨_, rfl⟩
  rw [hR]
  have HR := Lib.hid hR
  clear hR
  go_enter Try.func37, Try.ntmps37
  go_wp2_with fail
  go_loopg [9] 30 (fun g sv wr => ∃ k : Nat, g = k + 1 ∧ k ≤ 29 ∧ sv = .int .i64 ((0 + k : Nat) : Int) ∧ lastF dstB n 0 k = R ∧ w = wr)
  case atStart => exact ⟨29, rfl, by omega, rfl, HR.out, rfl⟩
  case round =>
    clear HR
    obtain ⟨k, rfl, hk, rfl, hR, rfl⟩ := hrel
    cases k with
    | zero =>
      rw [lastF] at hR
      subst hR
      go_wp2_with fail
      go_ret
      exact ⟨rfl, rfl⟩
    | succ k =>
      rw [lastF] at hR
      have hlw := distance_walk ((0 + (k + 1) : Nat) : Int) w
      rw [(dstBZ_at (0 + (k + 1)) (by omega)).1, (dstBZ_at (0 + (k + 1)) (by omega)).2] at hlw
      have ht := dst_table (0 + (k + 1)) (by omega)
      obtain ⟨P, hP⟩ : ∃ P, dstB (0 + (k + 1)) = P := ⟨_, rfl⟩
      obtain ⟨X, hX⟩ : ∃ X, dstX (0 + (k + 1)) = X := ⟨_, rfl⟩
      rw [hP] at hR
      rw [hP, hX] at hlw ht
      obtain ⟨q, hq⟩ : ∃ q, 0 + (k + 1) = q := ⟨_, rfl⟩
      rw [hq] at hlw hR ⊢
      have HLW := Lib.hid hlw
      have hq1 : (0 : Int) < (q : Int) := by omega
      have HQ := Lib.hid hq
      clear hlw hP hX hq
      have hqb : (q : Int) ≤ 29 := by have := HQ.out; omega
      by_cases hle : P ≤ n
      · rw [if_pos hle] at hR
        have hle' : (P : Int) ≤ (n : Int) := by omega
        have HR := Lib.hid hR
        clear hR
        go_wp2_with fail
        refine HLW.out.mono ?_
        clear HLW
        rintro e w1 ⟨rfl, rfl⟩
        go_wp2_with fail
        go_ret
        exact ⟨by rw [HR.out]; rfl, rfl⟩
      · rw [if_neg hle] at hR
        have hle' : ¬ (P : Int) ≤ (n : Int) := by omega
        have HR := Lib.hid hR
        clear hR
        go_wp2_with fail
        refine HLW.out.mono ?_
        clear HLW
        rintro e w1 ⟨rfl, rfl⟩
        go_wp2_with fail
        go_roundg (k + 1)
        case measure => omega
        case rel => exact ⟨k, rfl, by omega, by have := HQ.out; congr 1; omega, HR.out, rfl⟩
def lenOfZ (n : Int) : Int := if n < 3 ∨ 258 < n then -1 else (lastF lenB n.toNat 257 28 : Nat)
def dstOfZ (n : Int) : Int := if n < 1 ∨ 32768 < n then -1 else (lastF dstB n.toNat 0 29 : Nat)
set_option maxRecDepth 100000 in
set_option maxHeartbeats 4000000 in
theorem lenof_walk (n : Int) (w : World) : Calls Try.prog 18 #[.int .i64 n] w fun e w' => e = .returned (.int .i64 (lenOfZ n)) ∧ w = w' := by
  by_cases h1 : n < 3
  · have e1 : lenOfZ n = -1 := by unfold lenOfZ; rw [if_pos (.inl h1)]
    rw [e1]
    clear e1
    go_enter Try.func18, Try.ntmps18
    go_wp2_with fail
    go_ret
    exact ⟨rfl, rfl⟩
  by_cases h2 : 258 < n
  · have e1 : lenOfZ n = -1 := by unfold lenOfZ; rw [if_pos (.inr h2)]
    rw [e1]
    clear e1
    go_enter Try.func18, Try.ntmps18
    go_wp2_with fail
    go_ret
    exact ⟨rfl, rfl⟩
  obtain ⟨m, rfl⟩ : ∃ m : Nat, n = m := ⟨n.toNat, by omega⟩
  have e1 : lenOfZ (m : Int) = (lastF lenB m 257 28 : Nat) := by unfold lenOfZ; rw [if_neg (by omega), Int.toNat_natCast]
  rw [e1]
  have HL := Lib.hid (last_len m w)
  clear e1
  generalize lastF lenB m 257 28 = R at *
  go_enter Try.func18, Try.ntmps18
  go_wp2_with fail
  refine HL.out.mono ?_
  rintro e w1 ⟨rfl, rfl⟩
  go_wp2_with fail
  go_ret
  exact ⟨rfl, rfl⟩
set_option maxRecDepth 100000 in
set_option maxHeartbeats 4000000 in
theorem dstof_walk (n : Int) (w : World) : Calls Try.prog 19 #[.int .i64 n] w fun e w' => e = .returned (.int .i64 (dstOfZ n)) ∧ w = w' := by
  by_cases h1 : n < 1
  · have e1 : dstOfZ n = -1 := by unfold dstOfZ; rw [if_pos (.inl h1)]
    rw [e1]
    clear e1
    go_enter Try.func19, Try.ntmps19
    go_wp2_with fail
    go_ret
    exact ⟨rfl, rfl⟩
  by_cases h2 : 32768 < n
  · have e1 : dstOfZ n = -1 := by unfold dstOfZ; rw [if_pos (.inr h2)]
    rw [e1]
    clear e1
    go_enter Try.func19, Try.ntmps19
    go_wp2_with fail
    go_ret
    exact ⟨rfl, rfl⟩
  obtain ⟨m, rfl⟩ : ∃ m : Nat, n = m := ⟨n.toNat, by omega⟩
  have e1 : dstOfZ (m : Int) = (lastF dstB m 0 29 : Nat) := by unfold dstOfZ; rw [if_neg (by omega), Int.toNat_natCast]
  rw [e1]
  have HL := Lib.hid (last_dst m w)
  clear e1
  generalize lastF dstB m 0 29 = R at *
  go_enter Try.func19, Try.ntmps19
  go_wp2_with fail
  refine HL.out.mono ?_
  rintro e w1 ⟨rfl, rfl⟩
  go_wp2_with fail
  go_ret
  exact ⟨rfl, rfl⟩
theorem ex8_1 : runV ⟨#[1, 2, 0, 253, 255, 97, 98]⟩ 9 = .tuple #[.string ⟨#[97, 98]⟩, .int .i64 7, .int .i64 0] := by kernel_rfl
theorem ex8_2 : runV ⟨#[75, 4, 0]⟩ 9 = .tuple #[.string ⟨#[97]⟩, .int .i64 3, .int .i64 0] := by kernel_rfl
set_option maxRecDepth 100000 in
set_option maxHeartbeats 4000000 in
theorem lives08 (w : World) : Calls Try.prog 9 #[] w fun e w' => e = .returned (.bool true) ∧ Ext [] w w' := by
  go_enter Try.func9, Try.ntmps9
  go_wp2_with fail
  refine (run_walk ⟨#[1, 2, 0, 253, 255, 97, 98]⟩ 9 w (by decide) (by omega)).mono ?_
  rw [ex8_1]
  rintro e w1 ⟨rfl, hx⟩
  have HX := Lib.hid hx
  clear hx
  go_wp2_with fail
  refine (run_walk ⟨#[75, 4, 0]⟩ 9 w1 (by decide) (by omega)).mono ?_
  rw [ex8_2]
  rintro e w2 ⟨rfl, hx⟩
  have HX := Lib.hid (HX.out.trans hx)
  clear hx
  go_wp2_with fail
  go_ret
  exact ⟨rfl, HX.out⟩
end Go.Proofs.Ytgjenpdppobpkaa.If
