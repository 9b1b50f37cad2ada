/-
  lzw.width, anew, behind, Put. (Written by wip/mklzd.py.)
-/
import Derived.Test.YtcbllkopolbhaaaLzC
import Derived.LoopN
import Derived.Laws.Rows
namespace Go.Proofs.Ytcbllkopolbhaaa.Lz
open Go.RowKit Go.Maps

def wid (numbers : Nat) (early : Bool) : Nat :=
  let m := if early then numbers + 1 else numbers
  if m < 512 then 9 else if m < 1024 then 10 else if m < 2048 then 11 else 12

set_option maxRecDepth 100000 in
set_option maxHeartbeats 8000000 in
theorem width_late (n : Nat) (w : World) (hn : n < 2 ^ 40) :
    Calls Try.prog 21 #[.int .i64 n, .bool false] w fun e w' => e = .returned (.int .i64 (wid n false)) ∧ w = w' := by
  by_cases h0 : n < 512
  · have hw : wid n false = 9 := by simp only [wid, Bool.false_eq_true, if_false]; (repeat split) <;> omega
    rw [hw]
    go_enter Try.func21, Try.ntmps21
    go_wp2_with fail
    refine wp_loop_rounds 4 ?_
    rw [rounds_succ]
    go_wp2_with fail
    go_ret
    exact ⟨rfl, rfl⟩
  · skip
    by_cases h1 : n < 1024
    · have hw : wid n false = 10 := by simp only [wid, Bool.false_eq_true, if_false]; (repeat split) <;> omega
      rw [hw]
      go_enter Try.func21, Try.ntmps21
      go_wp2_with fail
      refine wp_loop_rounds 4 ?_
      rw [rounds_succ]
      go_wp2_with fail
      rw [rounds_succ]
      go_wp2_with fail
      go_ret
      exact ⟨rfl, rfl⟩
    · skip
      by_cases h2 : n < 2048
      · have hw : wid n false = 11 := by simp only [wid, Bool.false_eq_true, if_false]; (repeat split) <;> omega
        rw [hw]
        go_enter Try.func21, Try.ntmps21
        go_wp2_with fail
        refine wp_loop_rounds 4 ?_
        rw [rounds_succ]
        go_wp2_with fail
        rw [rounds_succ]
        go_wp2_with fail
        rw [rounds_succ]
        go_wp2_with fail
        go_ret
        exact ⟨rfl, rfl⟩
      · skip
        have hw : wid n false = 12 := by simp only [wid, Bool.false_eq_true, if_false]; (repeat split) <;> omega
        rw [hw]
        go_enter Try.func21, Try.ntmps21
        go_wp2_with fail
        refine wp_loop_rounds 4 ?_
        rw [rounds_succ]
        go_wp2_with fail
        rw [rounds_succ]
        go_wp2_with fail
        rw [rounds_succ]
        go_wp2_with fail
        rw [rounds_succ]
        go_wp2_with fail
        go_ret
        exact ⟨rfl, rfl⟩
set_option maxRecDepth 100000 in
set_option maxHeartbeats 8000000 in
theorem width_early (n : Nat) (w : World) (hn : n < 2 ^ 40) :
    Calls Try.prog 21 #[.int .i64 n, .bool true] w fun e w' => e = .returned (.int .i64 (wid n true)) ∧ w = w' := by
  by_cases h0 : n + 1 < 512
  · have hw : wid n true = 9 := by simp only [wid, if_true]; (repeat split) <;> omega
    rw [hw]
    go_enter Try.func21, Try.ntmps21
    go_wp2_with fail
    refine wp_loop_rounds 4 ?_
    rw [rounds_succ]
    go_wp2_with fail
    go_ret
    exact ⟨rfl, rfl⟩
  · skip
    by_cases h1 : n + 1 < 1024
    · have hw : wid n true = 10 := by simp only [wid, if_true]; (repeat split) <;> omega
      rw [hw]
      go_enter Try.func21, Try.ntmps21
      go_wp2_with fail
      refine wp_loop_rounds 4 ?_
      rw [rounds_succ]
      go_wp2_with fail
      rw [rounds_succ]
      go_wp2_with fail
      go_ret
      exact ⟨rfl, rfl⟩
    · skip
      by_cases h2 : n + 1 < 2048
      · have hw : wid n true = 11 := by simp only [wid, if_true]; (repeat split) <;> omega
        rw [hw]
        go_enter Try.func21, Try.ntmps21
        go_wp2_with fail
        refine wp_loop_rounds 4 ?_
        rw [rounds_succ]
        go_wp2_with fail
        rw [rounds_succ]
        go_wp2_with fail
        rw [rounds_succ]
        go_wp2_with fail
        go_ret
        exact ⟨rfl, rfl⟩
      · skip
        have hw : wid n true = 12 := by simp only [wid, if_true]; (repeat split) <;> omega
        rw [hw]
        go_enter Try.func21, Try.ntmps21
        go_wp2_with fail
        refine wp_loop_rounds 4 ?_
        rw [rounds_succ]
        go_wp2_with fail
        rw [rounds_succ]
        go_wp2_with fail
        rw [rounds_succ]
        go_wp2_with fail
        rw [rounds_succ]
        go_wp2_with fail
        go_ret
        exact ⟨rfl, rfl⟩
theorem width_any (n : Nat) (early : Bool) (w : World) (hn : n < 2 ^ 40) :
    Calls Try.prog 21 #[.int .i64 n, .bool early] w fun e w' => e = .returned (.int .i64 (wid n early)) ∧ w = w' := by
  cases early
  · exact width_late n w hn
  · exact width_early n w hn

end Go.Proofs.Ytcbllkopolbhaaa.Lz
