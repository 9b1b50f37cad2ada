/-
  predict: Row, begin, far, Paeth: walked.
-/
import Derived.Test.YtoiegmdlbcbgoaaPrA
import Derived.Laws.OwnMore
namespace Go.Proofs.Ytoiegmdlbcbgoaa.Pr
open Go.RowKit

/-! ### Row -/
def rowN (c b k : Int) : Nat := ((c * b * k + 7) / 8).toNat
theorem gOk_bounds {p c b k : Int} (h : gOk p c b k) : 1 ≤ c ∧ c ≤ 4 ∧ 1 ≤ b ∧ b ≤ 16 ∧ 1 ≤ k ∧ k ≤ 4096 ∧ 1 ≤ c * b ∧ c * b ≤ 64 ∧ 1 ≤ c * b * k ∧ c * b * k ≤ 262144 := by
  obtain ⟨_, ⟨c1, c2⟩, hb, k1, k2⟩ := h
  have b1 : 1 ≤ b := by unfold bitsOk at hb; omega
  have b2 : b ≤ 16 := by unfold bitsOk at hb; omega
  have h1 : 1 ≤ c * b := by
    have := Int.mul_le_mul c1 b1 (by omega) (by omega : (0 : Int) ≤ c)
    omega
  have h2 : c * b ≤ 64 := by
    have := Int.mul_le_mul c2 b2 (by omega) (by omega : (0 : Int) ≤ 4)
    omega
  have h3 : 1 ≤ c * b * k := by
    have := Int.mul_le_mul h1 k1 (by omega) (by omega : (0 : Int) ≤ c * b)
    omega
  have h4 : c * b * k ≤ 262144 := by
    have := Int.mul_le_mul h2 k2 (by omega) (by omega : (0 : Int) ≤ 64)
    omega
  exact ⟨c1, c2, b1, b2, k1, k2, h1, h2, h3, h4⟩
theorem rowN_bounds {p c b k : Int} (h : gOk p c b k) : 1 ≤ rowN c b k ∧ rowN c b k ≤ 32768 := by
  have := gOk_bounds h
  unfold rowN
  omega
set_option maxHeartbeats 4000000 in
theorem bytes_walk (n : Int) (w : World) (h0 : 0 ≤ n) (h1 : n ≤ 1000000) : Calls Try.prog 16 #[.int .i64 n] w fun e w' => e = .returned (.int .i64 ((n + 7) / 8)) ∧ w = w' := by
  go_enter Try.func16, Try.ntmps16
  go_wp2_with fail
  go_ret
  exact ⟨rfl, rfl⟩
set_option maxRecDepth 100000 in
set_option maxHeartbeats 8000000 in
theorem row_walk (p c b k : Int) (w : World) (h : gOk p c b k) :
    Calls Try.prog 9 #[gV p c b k] w fun e w' => e = .returned (.int .i64 (rowN c b k : Nat)) ∧ Ext [] w w' := by
  obtain ⟨c1, c2, b1, b2, k1, k2, m1, m2, n1, n2⟩ := gOk_bounds h
  have hc := check_walk p c b k
  have hr : ((rowN c b k : Nat) : Int) = (c * b * k + 7) / 8 := by unfold rowN; omega
  rw [show gE p c b k = 0 from if_pos h] at hc
  rw [hr]
  unfold gV at hc ⊢
  have HC := Lib.hid hc
  clear hc hr h
  obtain ⟨m, hm⟩ : ∃ m, c * b = m := ⟨_, rfl⟩
  rw [hm] at m1 m2 n1 n2 ⊢
  obtain ⟨n, hn⟩ : ∃ n, m * k = n := ⟨_, rfl⟩
  rw [hn] at n1 n2 ⊢
  go_enter Try.func9, Try.ntmps9
  go_wp2_with fail
  refine (HC.out _).mono ?_
  rintro e w1 ⟨rfl, hx1⟩
  have hb := hx1.keep (heap_alloc_at (w := w) (.cells #[.int .i64 p, .int .i64 c, .int .i64 b, .int .i64 k] 23 (0, 0))) (by simp)
  have c0 := cellOf hb 0
  have c1' := cellOf hb 1
  have c2' := cellOf hb 2
  have c3' := cellOf hb 3
  have HX := Lib.hid hx1
  clear hx1 hb
  go_wp2_with fail
  refine (bytes_walk n _ (by omega) (by omega)).mono ?_
  rintro e w2 ⟨rfl, rfl⟩
  go_wp2_with fail
  go_ret
  exact ⟨rfl, ((Ext.refl _ w).alloc _).trans HX.out⟩

/-! ### Paeth -/
def farI (a b : Int) : Int := if a - b < b - a then b - a else a - b
set_option maxHeartbeats 4000000 in
theorem far_walk (a b : Int) (w : World) (ha : -100000 ≤ a) (ha2 : a ≤ 100000) (hb : -100000 ≤ b) (hb2 : b ≤ 100000) :
    Calls Try.prog 22 #[.int .i64 a, .int .i64 b] w fun e w' => e = .returned (.int .i64 (farI a b)) ∧ w = w' := by
  have hf : farI a b = if a - b < b - a then b - a else a - b := rfl
  generalize farI a b = f at hf ⊢
  have HF := Lib.hid hf
  clear hf
  go_enter Try.func22, Try.ntmps22
  go_wp2_with fail
  all_goals go_ret
  all_goals exact ⟨by rw [HF.out]; (try split) <;> first | rfl | omega, rfl⟩
def nearer (p : Int) (x near : UInt8) : UInt8 := if farI p (x.toNat : Nat) < farI p (near.toNat : Nat) then x else near
def paeth (a b c : UInt8) : UInt8 := nearer ((a.toNat : Int) + (b.toNat : Int) - (c.toNat : Int)) c (nearer ((a.toNat : Int) + (b.toNat : Int) - (c.toNat : Int)) b a)
abbrev c8 (b : UInt8) : Value := .int .u8 ((b.toNat : Nat) : Int)
set_option maxRecDepth 100000 in
set_option maxHeartbeats 8000000 in
theorem paeth_walk (a b c : UInt8) (w : World) : Calls Try.prog 12 #[.int .u8 ((a.toNat : Nat) : Int), .int .u8 ((b.toNat : Nat) : Int), .int .u8 ((c.toNat : Nat) : Int)] w fun e w' => e = .returned (.int .u8 (((paeth a b c).toNat : Nat) : Int)) ∧ w = w' := by
  have a8 := a.toNat_lt
  have b8 := b.toNat_lt
  have c8 := c.toNat_lt
  obtain ⟨p, hp⟩ : ∃ p, (a.toNat : Int) + (b.toNat : Int) - (c.toNat : Int) = p := ⟨_, rfl⟩
  have hpa : paeth a b c = nearer p c (nearer p b a) := by unfold paeth; rw [hp]
  have hp1 : -1000 ≤ p := by omega
  have hp2 : p ≤ 1000 := by omega
  have i0 : ∀ w, (Instr.index 51 (.agg #[.int .u8 ((b.toNat : Nat) : Int), .int .u8 ((c.toNat : Nat) : Int)]) (.int .i64 0)).run Try.prog w = .ok (.int .u8 ((b.toNat : Nat) : Int)) w := fun _ => by kernel_rfl
  have i1 : ∀ w, (Instr.index 51 (.agg #[.int .u8 ((b.toNat : Nat) : Int), .int .u8 ((c.toNat : Nat) : Int)]) (.int .i64 1)).run Try.prog w = .ok (.int .u8 ((c.toNat : Nat) : Int)) w := fun _ => by kernel_rfl
  rw [hpa]
  have HPA := Lib.hid hpa
  clear hpa
  go_enter Try.func12, Try.ntmps12
  go_wp2_with fail
  clear hp
  refine wp_loop_rounds 3 ?_
  rw [rounds_succ]
  go_wp2_with fail
  refine (far_walk p (b.toNat : Nat) _ (by omega) (by omega) (by omega) (by omega)).mono ?_
  rintro e w1 ⟨rfl, rfl⟩
  go_wp2_with fail
  refine (far_walk p (a.toNat : Nat) _ (by omega) (by omega) (by omega) (by omega)).mono ?_
  rintro e w1 ⟨rfl, rfl⟩
  by_cases h1 : farI p (b.toNat : Nat) < farI p (a.toNat : Nat)
  · have hn : nearer p b a = b := if_pos h1
    have HN1 := Lib.hid hn
    clear hn
    go_wp2_with fail
    rw [rounds_succ]
    go_wp2_with fail
    refine (far_walk p (c.toNat : Nat) _ (by omega) (by omega) (by omega) (by omega)).mono ?_
    rintro e w1 ⟨rfl, rfl⟩
    go_wp2_with fail
    refine (far_walk p (b.toNat : Nat) _ (by omega) (by omega) (by omega) (by omega)).mono ?_
    rintro e w1 ⟨rfl, rfl⟩
    by_cases h2 : farI p (c.toNat : Nat) < farI p (b.toNat : Nat)
    · have hn : nearer p c b = c := if_pos h2
      have HN2 := Lib.hid hn
      clear hn
      go_wp2_with fail
      rw [rounds_succ]
      go_wp2_with fail
      go_ret
      exact ⟨by rw [HN1.out, HN2.out]; rfl, rfl⟩
    · have hn : nearer p c b = b := if_neg h2
      have HN2 := Lib.hid hn
      clear hn
      go_wp2_with fail
      rw [rounds_succ]
      go_wp2_with fail
      go_ret
      exact ⟨by rw [HN1.out, HN2.out]; rfl, rfl⟩
  · have hn : nearer p b a = a := if_neg h1
    have HN1 := Lib.hid hn
    clear hn
    go_wp2_with fail
    rw [rounds_succ]
    go_wp2_with fail
    refine (far_walk p (c.toNat : Nat) _ (by omega) (by omega) (by omega) (by omega)).mono ?_
    rintro e w1 ⟨rfl, rfl⟩
    go_wp2_with fail
    refine (far_walk p (a.toNat : Nat) _ (by omega) (by omega) (by omega) (by omega)).mono ?_
    rintro e w1 ⟨rfl, rfl⟩
    by_cases h2 : farI p (c.toNat : Nat) < farI p (a.toNat : Nat)
    · have hn : nearer p c a = c := if_pos h2
      have HN2 := Lib.hid hn
      clear hn
      go_wp2_with fail
      rw [rounds_succ]
      go_wp2_with fail
      go_ret
      exact ⟨by rw [HN1.out, HN2.out]; rfl, rfl⟩
    · have hn : nearer p c a = a := if_neg h2
      have HN2 := Lib.hid hn
      clear hn
      go_wp2_with fail
      rw [rounds_succ]
      go_wp2_with fail
      go_ret
      exact ⟨by rw [HN1.out, HN2.out]; rfl, rfl⟩
end Go.Proofs.Ytoiegmdlbcbgoaa.Pr
