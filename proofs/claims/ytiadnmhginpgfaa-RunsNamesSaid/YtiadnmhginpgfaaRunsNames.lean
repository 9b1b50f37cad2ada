/-
  RunsNames walked.
-/
import Derived.Test.YtiadnmhginpgfaaRunsSame
import Derived.Test.YtiadnmhginpgfaaRunsBack
namespace Go.Proofs.Ytiadnmhginpgfaa.Rn
open Go.RowKit

theorem times_rep (c : UInt8) : ∀ k, B (Kt.times ⟨#[c]⟩ k) = List.replicate k c
  | 0 => rfl
  | k + 1 => by rw [Kt.times, B_append, times_rep c k, List.replicate_succ']
theorem putL_128 : putL (List.replicate 128 97) = [129, 97, 128] := by
  unfold putL
  rw [pieces_cons _ (by simp), cut_rep 97 128 (by omega)]
  unfold many
  rw [same_rep 97 128 (by omega), List.drop_replicate, List.take_replicate, show List.replicate (128 - min 128 128) (97 : UInt8) = [] from rfl, pieces_nil]
  simp [enc]
theorem putL_129 : putL (List.replicate 129 97) = [129, 97, 0, 97, 128] := by
  unfold putL
  rw [pieces_cons _ (by simp), cut_rep 97 129 (by omega)]
  unfold many
  rw [same_rep 97 129 (by omega), List.drop_replicate, List.take_replicate, show List.replicate (129 - min 129 128) (97 : UInt8) = List.replicate 1 97 from rfl, pieces_cons _ (by simp), cut_rep 97 1 (by omega)]
  unfold many
  rw [same_rep 97 1 (by omega), List.drop_replicate, List.take_replicate, show List.replicate (1 - min 1 128) (97 : UInt8) = [] from rfl, pieces_nil]
  simp [enc]
theorem putL_abbc : putL [97, 98, 98, 99] = [0, 97, 255, 98, 0, 99, 128] := by
  have a1 : same [97, 98, 98, 99] = 1 := by simp [same, sameF]
  have a2 : same [98, 98, 99] = 2 := by simp [same, sameF]
  have a3 : same [99] = 1 := by simp [same, sameF]
  have p1 : plainF [97, 98, 98, 99] 1 = 1 := by rw [plainF_stop _ _ (by simp [a2])]
  have p3 : plainF [99] 1 = 1 := by rw [plainF_stop _ _ (by simp)]
  have c1 : cut [97, 98, 98, 99] = 1 := by simp [cut, a1, p1]
  have c2 : cut [98, 98, 99] = 2 := by simp [cut, a2]
  have c3 : cut [99] = 1 := by simp [cut, a3, p3]
  unfold putL
  rw [pieces_cons _ (by simp), c1]
  simp only [List.take_succ_cons, List.take_zero, List.drop_succ_cons, List.drop_zero]
  rw [pieces_cons _ (by simp), c2]
  simp only [List.take_succ_cons, List.take_zero, List.drop_succ_cons, List.drop_zero]
  rw [pieces_cons _ (by simp), c3]
  simp [pieces_nil, many, a1, a2, a3, enc]
theorem putL_nil : putL [] = [128] := by unfold putL; rw [pieces_nil]; rfl
theorem g1 : getA 9 [1, 97] = ([], 8) := by simp [getA, getL]
theorem g2 : getA 9 [0, 97] = ([], 8) := by simp [getA, getL]
theorem g3 : getA 2 [254, 97, 128] = ([], 3) := by simp [getA, getL]
theorem g4 : getA (-1) [] = ([], 2) := by simp [getA]
theorem g5 (l : List UInt8) : getA 0 (128 :: l) = ([], 0) := by unfold getA; rw [if_neg (by omega), getL_end]
theorem g6 : (getA 9223372036854775807 [0, 97]).2 = 8 := by simp [getA, getL]
theorem g7 : (getA 9223372036854775807 [129, 97, 128]).2 = 0 := by
  have h := back_law 9223372036854775807 (List.replicate 128 97) [] (by simp)
  rw [putL_128] at h
  have h2 := congrArg Prod.snd h
  exact h2
theorem gx (s : ByteArray) (b : Int) (t : ByteArray) (n : Nat) (h : getA b (B s) = (B t, n)) (w : World) (hs : s.size ≤ 1048576) (hb : b ≤ 9223372036854775807) (hb0 : -9223372036854775808 ≤ b) :
    Calls Try.prog 11 #[.string s, .int .i64 b] w fun e w' => e = .returned (.tuple #[.string t, .int .i64 (n : Nat)]) ∧ Ext [] w w' := by
  have h2 := get_walk s b w hs hb hb0
  rw [h] at h2
  dsimp only at h2
  rw [S_B] at h2
  exact h2
theorem px (s t : ByteArray) (h : putL (B s) = B t) (w : World) (hs : s.size ≤ 1048576) : Calls Try.prog 10 #[.string s] w fun e w' => e = .returned (.string t) ∧ Ext [] w w' := by
  have h2 := put_walk s w hs
  rw [h, S_B] at h2
  exact h2
theorem cx (s : ByteArray) (n : Nat) (h : (getA 9223372036854775807 (B s)).2 = n) (w : World) (hs : s.size ≤ 1048576) : Calls Try.prog 14 #[.string s] w fun e w' => e = .returned (.int .i64 (n : Nat)) ∧ Ext [] w w' := by
  have h2 := check_walk s w hs
  rw [h] at h2
  exact h2
set_option maxRecDepth 100000 in
set_option maxHeartbeats 4000000 in
theorem runsNames_walk (w : World) : Calls Try.prog 6 #[] w fun e w' => e = .returned (.bool true) ∧ Ext [] w w' := by
  have tb : B (Kt.times ⟨#[97]⟩ 129) = List.replicate 129 97 := times_rep 97 129
  have tz := Kt.times_size ⟨#[97]⟩ 129
  rw [show ByteArray.size ⟨#[97]⟩ = 1 from rfl] at tz
  have ht := Kt.times_walk ⟨#[97]⟩ 129
  obtain ⟨t, hte⟩ : ∃ t, Kt.times ⟨#[97]⟩ 129 = t := ⟨_, rfl⟩
  rw [hte] at tb tz
  simp only [hte] at ht
  have hp2 : ∀ w, Calls Try.prog 10 #[.string t] w fun e w' => e = .returned (.string ⟨#[129, 97, 0, 97, 128]⟩) ∧ Ext [] w w' := fun w => px t ⟨#[129, 97, 0, 97, 128]⟩ (by rw [tb, putL_129]) w (by omega)
  have HT := Lib.hid ht
  have HP2 := Lib.hid hp2
  clear ht hp2 tb tz hte
  go_enter Try.func6, Try.ntmps6
  go_wp2_with fail
  refine (gx ⟨#[1, 97]⟩ 9 ⟨#[]⟩ _ g1 _ (by decide) (by omega) (by omega)).mono ?_; rintro e w1 ⟨rfl, hx1⟩
  have X := Lib.hid hx1
  clear hx1
  go_wp2_with fail
  refine (gx ⟨#[0, 97]⟩ 9 ⟨#[]⟩ _ g2 _ (by decide) (by omega) (by omega)).mono ?_; rintro e w1 ⟨rfl, hx1⟩
  have X := Lib.hid (X.out.trans hx1)
  clear hx1
  go_wp2_with fail
  refine (gx ⟨#[254, 97, 128]⟩ 2 ⟨#[]⟩ _ g3 _ (by decide) (by omega) (by omega)).mono ?_; rintro e w1 ⟨rfl, hx1⟩
  have X := Lib.hid (X.out.trans hx1)
  clear hx1
  go_wp2_with fail
  refine (gx ⟨#[]⟩ (-1) ⟨#[]⟩ _ g4 _ (by decide) (by omega) (by omega)).mono ?_; rintro e w1 ⟨rfl, hx1⟩
  have X := Lib.hid (X.out.trans hx1)
  clear hx1
  go_wp2_with fail
  refine (gx ⟨#[128, 109, 111, 114, 101]⟩ 0 ⟨#[]⟩ _ (g5 _) _ (by decide) (by omega) (by omega)).mono ?_; rintro e w1 ⟨rfl, hx1⟩
  have X := Lib.hid (X.out.trans hx1)
  clear hx1
  go_wp2_with fail
  refine (HT.out _ (by decide) (by decide)).mono ?_; rintro e w1 ⟨rfl, rfl⟩
  go_wp2_with fail
  refine (lives13 _).mono ?_; rintro e w1 ⟨rfl, hx1⟩
  have X := Lib.hid (X.out.trans hx1)
  clear hx1
  go_wp2_with fail
  refine (px ⟨#[]⟩ ⟨#[128]⟩ putL_nil _ (by decide)).mono ?_; rintro e w1 ⟨rfl, hx1⟩
  have X := Lib.hid (X.out.trans hx1)
  clear hx1
  go_wp2_with fail
  refine (HP2.out _).mono ?_; rintro e w1 ⟨rfl, hx1⟩
  have X := Lib.hid (X.out.trans hx1)
  clear hx1
  go_wp2_with fail
  refine (px ⟨#[97, 98, 98, 99]⟩ ⟨#[0, 97, 255, 98, 0, 99, 128]⟩ putL_abbc _ (by decide)).mono ?_; rintro e w1 ⟨rfl, hx1⟩
  have X := Lib.hid (X.out.trans hx1)
  clear hx1
  go_wp2_with fail
  refine (cx ⟨#[0, 97]⟩ 8 g6 _ (by decide)).mono ?_; rintro e w1 ⟨rfl, hx1⟩
  have X := Lib.hid (X.out.trans hx1)
  clear hx1
  go_wp2_with fail
  refine (cx ⟨#[129, 97, 128]⟩ 0 g7 _ (by decide)).mono ?_; rintro e w1 ⟨rfl, hx1⟩
  have X := Lib.hid (X.out.trans hx1)
  clear hx1
  go_wp2_with fail
  go_ret
  exact ⟨rfl, X.out⟩
end Go.Proofs.Ytiadnmhginpgfaa.Rn
