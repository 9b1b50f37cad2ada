/-
  runs.Check walked.
-/
import Derived.Test.YtiadnmhginpgfaaRnE
namespace Go.Proofs.Ytiadnmhginpgfaa.Rn
open Go.RowKit

set_option maxHeartbeats 4000000 in
theorem check_walk (s : ByteArray) (w : World) (hs : s.size ≤ 1048576) :
    Calls Try.prog 14 #[.string s] w fun e w' => e = .returned (.int .i64 ((getA 9223372036854775807 (B s)).2 : Nat)) ∧ Ext [] w w' := by
  generalize hG : getA 9223372036854775807 (B s) = G
  have HG := Lib.hid hG
  clear hG
  go_enter Try.func14, Try.ntmps14
  go_wp2_with fail
  refine (get_walk s 9223372036854775807 _ hs (by omega) (by omega)).mono ?_
  rw [HG.out]
  rintro e w1 ⟨rfl, hx⟩
  have HX := Lib.hid hx
  clear hx
  go_wp2_with fail
  go_ret
  exact ⟨rfl, HX.out⟩
theorem ex_get : getA 9 [254, 97, 0, 98, 128] = ([97, 97, 97, 98], 0) := by
  simp [getA, getL, rep, List.range, List.range.loop]
theorem ex_put : putL [97, 97, 97, 98] = [254, 97, 0, 98, 128] := by
  have h1 : same [97, 97, 97, 98] = 3 := by simp [same, sameF]
  have h2 : same [98] = 1 := by simp [same, sameF]
  have h3 : plainF [98] 1 = 1 := by simp [plainF]
  have c1 : cut [97, 97, 97, 98] = 3 := by simp [cut, h1]
  have c2 : cut [98] = 1 := by simp [cut, h2, h3]
  unfold putL
  rw [pieces_cons _ (by simp), c1]
  simp only [List.take_succ_cons, List.take_zero, List.drop_succ_cons, List.drop_zero]
  rw [pieces_cons _ (by simp), c2]
  simp [pieces_nil, many, h1, h2, enc]
end Go.Proofs.Ytiadnmhginpgfaa.Rn
