/-
  RunsJoin walked.
-/
import Derived.Test.YtiadnmhginpgfaaRnP
namespace Go.Proofs.Ytiadnmhginpgfaa.Rn
open Go.RowKit

theorem putL_len (l : List UInt8) : (putL l).length ≤ 2 * l.length + 1 ∧ 1 ≤ (putL l).length := by
  have := pre_len l (pieces l) [] (by simp)
  unfold putL
  rw [List.length_append, show [(128 : UInt8)].length = 1 from rfl]
  omega
theorem S_size (l : List UInt8) : (Rn.S l).size = l.length := by rw [← B_len, B_S]
theorem B_append (a b : ByteArray) : B (a ++ b) = B a ++ B b := by simp [B]
theorem join_law (s t : ByteArray) : getA ((s.size : Int) + t.size) (B ((Rn.S (putL (B s))).extract 0 ((putL (B s)).length - 1) ++ Rn.S (putL (B t)))) = (B (s ++ t), 0) := by
  unfold getA
  rw [if_neg (by omega), B_append, B_take, B_S, B_S, B_append]
  have h1 : (putL (B s)).take ((putL (B s)).length - 1) = (pieces (B s)).flatMap enc := by
    unfold putL; rw [List.length_append]; simp
  rw [h1, getL_text _ _ _ _ (by rw [B_len]; simp; omega)]
  unfold putL
  rw [getL_text _ _ _ _ (by rw [List.nil_append, B_len, B_len]; omega), getL_end, List.nil_append]
set_option maxRecDepth 100000 in
set_option maxHeartbeats 4000000 in
theorem runsJoin_walk (s t : ByteArray) (w : World) (hs : s.size ≤ maxLen) (ht : t.size ≤ maxLen) :
    Calls Try.prog 3 #[.string s, .string t] w fun e w' => e = .returned (.bool true) ∧ Ext [] w w' := by
  have hs' : s.size ≤ 9223372036854775807 := hs
  have ht' : t.size ≤ 9223372036854775807 := ht
  go_enter Try.func3, Try.ntmps3
  go_wp2_with fail
  refine (lives13 _).mono ?_; rintro e w1 ⟨rfl, hx1⟩
  have HX1 := Lib.hid hx1
  clear hx1
  by_cases h1 : s.size ≤ 1500
  · by_cases h2 : t.size ≤ 1500
    · have k1 : ¬ ((1500 : Int) < (s.size : Int)) := by omega
      have k2 : ¬ ((1500 : Int) < (t.size : Int)) := by omega
      have hj := join_law s t
      have hl1 := putL_len (B s)
      have hl2 := putL_len (B t)
      rw [B_len] at hl1 hl2
      have hp := put_walk s
      have hq := put_walk t
      obtain ⟨p, hpe⟩ : ∃ p, Rn.S (putL (B s)) = p := ⟨_, rfl⟩
      obtain ⟨q, hqe⟩ : ∃ q, Rn.S (putL (B t)) = q := ⟨_, rfl⟩
      have hps : (putL (B s)).length = p.size := by rw [← hpe, S_size]
      have hqs : (putL (B t)).length = q.size := by rw [← hqe, S_size]
      rw [hps] at hj hl1
      rw [hqs] at hl2
      simp only [hpe] at hj hp
      simp only [hqe] at hj hq
      obtain ⟨z, hze⟩ : ∃ z, p.extract 0 (p.size - 1) ++ q = z := ⟨_, rfl⟩
      have hzs : z.size = p.size - 1 + q.size := by rw [← hze]; simp
      rw [hze] at hj
      have hG : ∀ w, Calls Try.prog 11 #[.string z, .int .i64 ((s.size : Int) + t.size)] w fun e w' => e = .returned (.tuple #[.string (s ++ t), .int .i64 0]) ∧ Ext [] w w' := fun w => by
        have h := get_walk z ((s.size : Int) + t.size) w (by omega) (by omega) (by omega)
        rw [hj] at h
        dsimp only at h
        rw [S_B] at h
        exact h
      have HG := Lib.hid hG
      have HP := Lib.hid hp
      have HQ := Lib.hid hq
      obtain ⟨l1, l2⟩ := hl1
      obtain ⟨l3, l4⟩ := hl2
      have b1 : ((p.size : Int) == 0) = false := beq_eq_false_iff_ne.2 (by omega)
      clear hG hp hq hj hpe hqe hps hqs hzs
      go_wp2_with fail
      refine (HP.out _ (by omega)).mono ?_; rintro e w2 ⟨rfl, hx2⟩
      have HX2 := Lib.hid hx2
      clear hx2
      go_wp2_with fail
      refine (HQ.out _ (by omega)).mono ?_; rintro e w3 ⟨rfl, hx3⟩
      have HX3 := Lib.hid hx3
      clear hx3
      go_wp2_with fail
      refine (HG.out _).mono ?_; rintro e w4 ⟨rfl, hx4⟩
      have HX4 := Lib.hid hx4
      clear hx4
      go_wp2_with fail
      go_ret
      exact ⟨rfl, ((HX1.out.trans HX2.out).trans HX3.out).trans HX4.out⟩
    · have k1 : ¬ ((1500 : Int) < (s.size : Int)) := by omega
      have k2 : ((1500 : Int) < (t.size : Int)) := by omega
      go_wp2_with fail
      go_ret
      exact ⟨rfl, HX1.out⟩
  · have k1 : ((1500 : Int) < (s.size : Int)) := by omega
    go_wp2_with fail
    go_ret
    exact ⟨rfl, HX1.out⟩
end Go.Proofs.Ytiadnmhginpgfaa.Rn
