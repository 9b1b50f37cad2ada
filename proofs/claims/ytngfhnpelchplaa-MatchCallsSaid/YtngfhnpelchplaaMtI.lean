/-
  match.may walked.
-/
import Derived.Test.YtngfhnpelchplaaMtA
namespace Go.Proofs.Ytngfhnpelchplaa.Mt
open Go.RowKit

def pcV (x : UInt8) (l b : Int) : Value := .agg #[u8v x, .int .i64 l, .int .i64 b]
def mayB (x : UInt8) (l b : Int) : Bool := if l = 0 then decide (b = 0) else decide (x = 0 ∧ 3 ≤ l ∧ l ≤ 258 ∧ 1 ≤ b ∧ b ≤ 32768)
set_option maxRecDepth 100000 in
set_option maxHeartbeats 8000000 in
theorem may_walk (x : UInt8) (l b : Int) (w : World) : Calls Try.prog 30 #[pcV x l b] w fun e w' => e = .returned (.bool (mayB x l b)) ∧ Ext [] w w' := by
  unfold pcV
  by_cases h0 : l = 0
  · subst h0
    have e : mayB x 0 b = (b == 0) := by unfold mayB; rw [if_pos rfl]; rfl
    rw [e]
    clear e
    go_enter Try.func30, Try.ntmps30
    go_wp2_with fail
    go_ret
    exact ⟨rfl, (Ext.refl _ _).alloc _⟩
  · have d0 : (l == 0) = false := beq_eq_false_iff_ne.2 h0
    have e : mayB x l b = ((((((x.toNat : Nat) : Int) == 0) && decide (3 ≤ l)) && decide (l ≤ 258) && decide (1 ≤ b)) && decide (b ≤ 32768)) := by
      unfold mayB
      rw [if_neg h0]
      have : ((((x.toNat : Nat) : Int) == 0) : Bool) = decide (x = 0) := by
        rw [show (((x.toNat : Nat) : Int) == 0) = decide (((x.toNat : Nat) : Int) = 0) from rfl]
        exact decide_eq_decide.2 ⟨fun h => UInt8.toNat_inj.1 (by simpa using h), fun h => by rw [h]; rfl⟩
      rw [this]
      simp [Bool.and_assoc]
    rw [e]
    clear e
    by_cases h1 : x = 0
    · subst h1
      by_cases h2 : 3 ≤ l
      · by_cases h3 : l ≤ 258
        · by_cases h4 : 1 ≤ b
          · go_enter Try.func30, Try.ntmps30
            go_wp2_with fail
            go_ret
            exact ⟨by simp [h2, h3, h4], (Ext.refl _ _).alloc _⟩
          · go_enter Try.func30, Try.ntmps30
            go_wp2_with fail
            go_ret
            exact ⟨by simp; omega, (Ext.refl _ _).alloc _⟩
        · go_enter Try.func30, Try.ntmps30
          go_wp2_with fail
          go_ret
          exact ⟨by simp; omega, (Ext.refl _ _).alloc _⟩
      · go_enter Try.func30, Try.ntmps30
        go_wp2_with fail
        go_ret
        exact ⟨by simp; omega, (Ext.refl _ _).alloc _⟩
    · have d1 : (((x.toNat : Nat) : Int) == 0) = false := beq_eq_false_iff_ne.2 (fun h => h1 (UInt8.toNat_inj.1 (by simpa using h)))
      go_enter Try.func30, Try.ntmps30
      go_wp2_with fail
      go_ret
      exact ⟨by simp [d1], (Ext.refl _ _).alloc _⟩
set_option maxHeartbeats 4000000 in
theorem not_may (x : UInt8) (l b : Int) (w : World) : Calls Try.prog 29 #[pcV x l b] w fun e w' => e = .returned (.bool (!mayB x l b)) ∧ Ext [] w w' := by
  have HM := Lib.hid (fun w => may_walk x l b w)
  unfold pcV at *
  go_enter Try.func29, Try.ntmps29
  go_wp2_with fail
  refine (HM.out _).mono ?_
  rintro e w1 ⟨rfl, hx1⟩
  have hx := ((Ext.refl [] w).alloc (.cells #[u8v x, .int .i64 l, .int .i64 b] 34)).trans hx1
  go_wp2_with fail
  go_ret
  exact ⟨rfl, hx⟩
end Go.Proofs.Ytngfhnpelchplaa.Mt
