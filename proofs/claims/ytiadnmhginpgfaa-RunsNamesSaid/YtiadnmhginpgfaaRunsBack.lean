/-
  RunsBack: the plain laws; walked.
-/
import Derived.Test.YtiadnmhginpgfaaRunsJoin
namespace Go.Proofs.Ytiadnmhginpgfaa.Rn
open Go.RowKit

theorem getL_enc_long (b : Int) (x : Piece) (rest out : List UInt8) (hx : Ok x) (hb : b < (out.length : Int) + x.1.length) : getL b (enc x ++ rest) out = ([], 3) := by
  obtain ⟨p, m⟩ := x
  obtain ⟨h1, h2, h3⟩ := hx
  dsimp only at h1 h2 h3 hb ⊢
  cases m with
  | true =>
    obtain ⟨h4, h5⟩ := h3 rfl
    have ec : (UInt8.ofNat (257 - p.length)).toNat = 257 - p.length := by rw [UInt8.toNat_ofNat']; omega
    have he : enc (p, true) = [UInt8.ofNat (257 - p.length), p.headD 0] := rfl
    rw [he, List.cons_append, List.cons_append, List.nil_append, getL, ec, if_neg (by omega), if_pos (by omega), if_neg (by simp), if_pos (by omega)]
  | false =>
    have ec : (UInt8.ofNat (p.length - 1)).toNat = p.length - 1 := by rw [UInt8.toNat_ofNat']; omega
    have he : enc (p, false) = UInt8.ofNat (p.length - 1) :: p := rfl
    rw [he, List.cons_append, getL, ec, if_neg (by omega), if_neg (by omega), if_neg (by simp; omega), if_pos (by omega)]
theorem getL_long (b : Int) : ∀ (L : List Piece) (rest out : List UInt8), (∀ x ∈ L, Ok x) → (out.length : Int) ≤ b → b < (out.length : Int) + (L.flatMap (·.1)).length → getL b (L.flatMap enc ++ rest) out = ([], 3)
  | [], rest, out, _, h1, h2 => by simp at h2; omega
  | x :: L, rest, out, h, h1, h2 => by
    simp only [List.flatMap_cons, List.length_append, Int.natCast_add] at h2
    rw [List.flatMap_cons, List.append_assoc]
    by_cases hx : (out.length : Int) + x.1.length ≤ b
    · rw [getL_enc b x _ out (h x (by simp)) hx]
      exact getL_long b L rest (out ++ x.1) (fun y hy => h y (by simp [hy])) (by rw [List.length_append, Int.natCast_add]; omega) (by rw [List.length_append, Int.natCast_add]; omega)
    · exact getL_enc_long b x _ out (h x (by simp)) (by omega)
theorem back_law (b : Int) (l behind : List UInt8) (h : (l.length : Int) ≤ b) : getA b (putL l ++ behind) = (l, 0) := by
  unfold getA putL
  rw [if_neg (by omega), List.append_assoc, getL_text b l _ [] (by simpa using h)]
  exact getL_end b behind l
theorem back_short (l : List UInt8) : getA ((l.length : Int) - 1) (putL l) = ([], if l.length = 0 then 2 else 3) := by
  unfold getA putL
  by_cases h : l.length = 0
  · rw [if_pos (by omega), if_pos h]
  · rw [if_neg (by omega), if_neg h]
    exact getL_long _ (pieces l) _ [] (pieces_ok l) (by simp; omega) (by rw [pieces_all]; simp; omega)
theorem back_cut (b : Int) (l : List UInt8) (h : (l.length : Int) ≤ b) : getA b ((putL l).take ((putL l).length - 1)) = ([], 8) := by
  have h1 : (putL l).take ((putL l).length - 1) = (pieces l).flatMap enc ++ [] := by
    unfold putL; rw [List.length_append]; simp
  unfold getA
  rw [h1, if_neg (by omega), getL_text b l _ [] (by simpa using h), getL]
set_option maxRecDepth 100000 in
set_option maxHeartbeats 4000000 in
theorem runsBack_walk (s t : ByteArray) (w : World) (hs : s.size ≤ maxLen) (ht : t.size ≤ maxLen) :
    Calls Try.prog 8 #[.string s, .string t] w fun e w' => e = .returned (.bool true) ∧ Ext [] w w' := by
  have hs' : s.size ≤ 9223372036854775807 := hs
  have ht' : t.size ≤ 9223372036854775807 := ht
  go_enter Try.func8, Try.ntmps8
  go_wp2_with fail
  refine (lives13 _).mono ?_; rintro e w1 ⟨rfl, hx1⟩
  have HX1 := Lib.hid hx1
  clear hx1
  by_cases h1 : s.size ≤ 1500
  · by_cases h2 : t.size ≤ 1500
    · have k1 : ¬ ((1500 : Int) < (s.size : Int)) := by omega
      have k2 : ¬ ((1500 : Int) < (t.size : Int)) := by omega
      have hl1 := putL_len (B s)
      rw [B_len] at hl1
      have hp := put_walk s
      obtain ⟨p, hpe⟩ : ∃ p, Rn.S (putL (B s)) = p := ⟨_, rfl⟩
      have hBp : B p = putL (B s) := by rw [← hpe, B_S]
      have hps : (putL (B s)).length = p.size := by rw [← hpe, S_size]
      rw [hps] at hl1
      simp only [hpe] at hp
      obtain ⟨l1, l2⟩ := hl1
      obtain ⟨z, hze⟩ : ∃ z, p ++ t = z := ⟨_, rfl⟩
      obtain ⟨c, hce⟩ : ∃ c, p.extract 0 (p.size - 1) = c := ⟨_, rfl⟩
      have hzs : z.size = p.size + t.size := by rw [← hze]; simp
      have hcs : c.size ≤ p.size := by rw [← hce]; simp
      have hBz : B z = putL (B s) ++ B t := by rw [← hze, B_append, hBp]
      have hG1 : ∀ w, Calls Try.prog 11 #[.string z, .int .i64 (s.size : Int)] w fun e w' => e = .returned (.tuple #[.string s, .int .i64 0]) ∧ Ext [] w w' := fun w => by
        have h := get_walk z (s.size : Int) w (by omega) (by omega) (by omega)
        rw [hBz, back_law _ _ _ (by rw [B_len]; omega)] at h
        dsimp only at h
        rw [S_B] at h
        exact h
      have hG2 : ∀ w, Calls Try.prog 11 #[.string p, .int .i64 ((s.size : Int) - 1)] w fun e w' => e = .returned (.tuple #[.string (Rn.S []), .int .i64 ((if s.size = 0 then 2 else 3 : Nat) : Int)]) ∧ Ext [] w w' := fun w => by
        have h := get_walk p ((s.size : Int) - 1) w (by omega) (by omega) (by omega)
        have hb := back_short (B s)
        rw [B_len] at hb
        rw [hBp, hb] at h
        exact h
      have hC1 : ∀ w, Calls Try.prog 14 #[.string c] w fun e w' => e = .returned (.int .i64 8) ∧ Ext [] w w' := fun w => by
        have h := check_walk c w (by omega)
        rw [← hce, B_take, hBp, ← hps, back_cut _ _ (by rw [B_len]; omega), hps, hce] at h
        exact h
      have hC2 : ∀ w, Calls Try.prog 14 #[.string z] w fun e w' => e = .returned (.int .i64 0) ∧ Ext [] w w' := fun w => by
        have h := check_walk z w (by omega)
        rw [hBz, back_law _ _ _ (by rw [B_len]; omega)] at h
        exact h
      have HG1 := Lib.hid hG1
      have HG2 := Lib.hid hG2
      have HC1 := Lib.hid hC1
      have HC2 := Lib.hid hC2
      have HP := Lib.hid hp
      clear hG1 hG2 hC1 hC2 hp hpe hBp hps hBz hzs hcs
      by_cases h0 : s.size = 0
      · have q1 : ((s.size : Int) == 0) = true := by simp [h0]
        have q2 : ¬ ((0 : Int) < (s.size : Int)) := by omega
        rw [if_pos h0] at HG2
        have hc0 : c = ByteArray.empty := by
          rw [← hce, show p.size - 1 = 0 by omega]
          exact B_ext (by rw [B_take]; rfl)
        rw [hc0] at HC1
        clear h0 hc0 hce
        go_wp2_with fail
        refine (HP.out _ (by omega)).mono ?_; rintro e w2 ⟨rfl, hx2⟩
        have HX2 := Lib.hid hx2
        clear hx2
        go_wp2_with fail
        refine (HG1.out _).mono ?_; rintro e w3 ⟨rfl, hx3⟩
        have HX3 := Lib.hid hx3
        clear hx3
        go_wp2_with fail
        refine (HG2.out _).mono ?_; rintro e w4 ⟨rfl, hx4⟩
        have HX4 := Lib.hid hx4
        clear hx4
        go_wp2_with fail
        refine (HC1.out _).mono ?_; rintro e w5 ⟨rfl, hx5⟩
        have HX5 := Lib.hid hx5
        clear hx5
        go_wp2_with fail
        refine (HC2.out _).mono ?_; rintro e w6 ⟨rfl, hx6⟩
        have HX6 := Lib.hid hx6
        clear hx6
        go_wp2_with fail
        go_ret
        exact ⟨congrArg (fun b => Ending.returned (.bool b)) (decide_eq_true (by omega : (p.size : Int) ≤ 2 * (s.size : Int) + 1)), ((((HX1.out.trans HX2.out).trans HX3.out).trans HX4.out).trans HX5.out).trans HX6.out⟩
      · have q1 : ((s.size : Int) == 0) = false := beq_eq_false_iff_ne.2 (by omega)
        have q2 : ((0 : Int) < (s.size : Int)) := by omega
        rw [if_neg h0] at HG2
        clear h0
        by_cases hp1 : p.size = 1
        · have hc0 : c = ByteArray.empty := by
            rw [← hce, show p.size - 1 = 0 by omega]
            exact B_ext (by rw [B_take]; rfl)
          rw [hc0] at HC1
          clear hc0 hce
          have hp2 : p.size ≤ 1 := by omega
          clear hp1
          go_wp2_with fail
          refine (HP.out _ (by omega)).mono ?_; rintro e w2 ⟨rfl, hx2⟩
          have HX2 := Lib.hid hx2
          clear hx2
          go_wp2_with fail
          refine (HG1.out _).mono ?_; rintro e w3 ⟨rfl, hx3⟩
          have HX3 := Lib.hid hx3
          clear hx3
          go_wp2_with fail
          refine (HG2.out _).mono ?_; rintro e w4 ⟨rfl, hx4⟩
          have HX4 := Lib.hid hx4
          clear hx4
          go_wp2_with fail
          refine (HC1.out _).mono ?_; rintro e w5 ⟨rfl, hx5⟩
          have HX5 := Lib.hid hx5
          clear hx5
          go_wp2_with fail
          refine (HC2.out _).mono ?_; rintro e w6 ⟨rfl, hx6⟩
          have HX6 := Lib.hid hx6
          clear hx6
          go_wp2_with fail
          go_ret
          exact ⟨congrArg (fun b => Ending.returned (.bool b)) (decide_eq_true (by omega : (p.size : Int) ≤ 2 * (s.size : Int) + 1)), ((((HX1.out.trans HX2.out).trans HX3.out).trans HX4.out).trans HX5.out).trans HX6.out⟩
        · have hp2 : 2 ≤ p.size := by omega
          clear hp1
          go_wp2_with fail
          refine (HP.out _ (by omega)).mono ?_; rintro e w2 ⟨rfl, hx2⟩
          have HX2 := Lib.hid hx2
          clear hx2
          go_wp2_with fail
          refine (HG1.out _).mono ?_; rintro e w3 ⟨rfl, hx3⟩
          have HX3 := Lib.hid hx3
          clear hx3
          go_wp2_with fail
          refine (HG2.out _).mono ?_; rintro e w4 ⟨rfl, hx4⟩
          have HX4 := Lib.hid hx4
          clear hx4
          go_wp2_with fail
          refine (HC1.out _).mono ?_; rintro e w5 ⟨rfl, hx5⟩
          have HX5 := Lib.hid hx5
          clear hx5
          go_wp2_with fail
          refine (HC2.out _).mono ?_; rintro e w6 ⟨rfl, hx6⟩
          have HX6 := Lib.hid hx6
          clear hx6
          go_wp2_with fail
          go_ret
          exact ⟨congrArg (fun b => Ending.returned (.bool b)) (decide_eq_true (by omega : (p.size : Int) ≤ 2 * (s.size : Int) + 1)), ((((HX1.out.trans HX2.out).trans HX3.out).trans HX4.out).trans HX5.out).trans HX6.out⟩
    · have k1 : ¬ ((1500 : Int) < (s.size : Int)) := by omega
      have k2 : ((1500 : Int) < (t.size : Int)) := by omega
      go_wp2_with fail
      go_ret
      exact ⟨rfl, HX1.out⟩
  · have k1 : ((1500 : Int) < (s.size : Int)) := by omega
    go_wp2_with fail
    go_ret
    exact ⟨rfl, HX1.out⟩
end Go.Proofs.Ytiadnmhginpgfaa.Rn
