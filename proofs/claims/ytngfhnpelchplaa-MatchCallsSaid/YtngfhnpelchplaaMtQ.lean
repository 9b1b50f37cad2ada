/-
  MatchBack and MatchTimes walked.
-/
import Derived.Test.YtngfhnpelchplaaMtP
namespace Go.Proofs.Ytngfhnpelchplaa.Mt
open Go.RowKit

theorem allF_len (s : ByteArray) : ∀ k p, p ≤ s.size → (allF s k p).length ≤ s.size - p
  | 0, p, h => by simp [allF]
  | k + 1, p, h => by
    rw [allF]
    by_cases hp : p < s.size
    · rw [if_pos hp]
      have hf := findN_fit s p h
      split
      · have := allF_len s k (p + (findN s p).1) hf
        rw [List.length_cons]; omega
      · have := allF_len s k (p + 1) (by omega)
        rw [List.length_cons]; omega
    · rw [if_neg hp]; simp
theorem allN_len (s : ByteArray) : (allN s).length ≤ s.size := allF_len s _ 0 (Nat.zero_le _)
theorem B_back (s : ByteArray) : (⟨(B s).toArray⟩ : ByteArray) = s := by
  obtain ⟨⟨l⟩⟩ := s
  rfl
theorem All_pc (s : ByteArray) (w : World) (hs : s.size ≤ 1048576) :
    Calls Try.prog 10 #[.string s] w fun e w' => ∃ v, e = .returned v ∧ Ext [] w w' ∧ PcAt w' v (allN s) :=
  (All_walk s w hs).mono fun _ _ ⟨v, he, hx, hP, _⟩ => ⟨v, he, hx, PcAt.of_own hP⟩
theorem PcAt.slice {w : World} {v : Value} {l : List Pc} (h : PcAt w v l) : ∃ ao cap, v = .slice ao l.length cap := by
  obtain ⟨ao, cap, rfl, _⟩ := h
  exact ⟨ao, cap, rfl⟩
set_option maxRecDepth 100000 in
set_option maxHeartbeats 8000000 in
theorem back_law (s : ByteArray) (w : World) (hs : s.size ≤ maxLen) :
    Calls Try.prog 3 #[.string s] w fun e w' => e = .returned (.bool true) ∧ Ext [] w w' := by
  unfold maxLen at hs
  by_cases h6 : s.size ≤ 600
  · have h6' : ¬ 600 < s.size := by omega
    have hl := allN_len s
    have hE : expN (allN s) s.size = (B s, 0) := by
      unfold expN
      rw [if_pos (allN_chk s), allN_sum, if_neg (by omega), if_neg (by omega), allN_exp]
    have hF : expN (allN s) ((s.size : Int) - 1) = ([], if s.size = 0 then 2 else 3) := by
      unfold expN
      rw [if_pos (allN_chk s), allN_sum]
      by_cases h0 : s.size = 0
      · rw [if_pos (by omega), if_pos h0]
      · rw [if_neg (by omega), if_pos (by omega), if_neg h0]
    have hC := allN_chk s
    have hZ := allN_siz s
    have HA := Lib.hid (fun w => All_pc s w (by omega))
    generalize allN s = l at *
    have HE := Lib.hid hE
    have HF := Lib.hid hF
    have HC := Lib.hid hC
    have HZ := Lib.hid hZ
    clear hE hF hC hZ
    go_enter Try.func3, Try.ntmps3
    go_wp2_with fail
    refine (lives09 w).mono ?_
    rintro e w1 ⟨rfl, hx1⟩
    have HX := Lib.hid hx1
    clear hx1
    go_wp2_with fail
    refine (HA.out _).mono ?_
    rintro e w2 ⟨v, rfl, hx2, hP⟩
    have HX := Lib.hid (HX.out.trans hx2)
    have HP := Lib.hid hP
    clear hx2 hP HA
    go_wp2_with fail
    refine (Expand_walk v l s.size _ HP.out (by omega)).mono ?_
    rw [HE.out, B_back]
    rintro e w3 ⟨rfl, hx3⟩
    have HX := Lib.hid (HX.out.trans hx3)
    have HP := Lib.hid (HP.out.ext hx3)
    clear hx3
    go_wp2_with fail
    refine (Expand_walk v l ((s.size : Int) - 1) _ HP.out (by omega)).mono ?_
    rw [HF.out]
    rintro e w4 ⟨rfl, hx4⟩
    have HX := Lib.hid (HX.out.trans hx4)
    have HP := Lib.hid (HP.out.ext hx4)
    have hK := fun w h => Check_walk v l w h (by omega)
    have hS := fun w h => Size_walk v l w h (by omega)
    rw [HC.out] at hK
    rw [HZ.out] at hS
    have HK := Lib.hid hK
    have HS := Lib.hid hS
    clear hx4 hK hS
    by_cases h0 : s.size = 0
    · have q0 : ((s.size : Int) == 0) = true := by simp [h0]
      rw [if_pos h0]
      clear h0
      go_wp2_with fail
      refine (HK.out _ HP.out).mono ?_
      rintro e w5 ⟨rfl, hx5⟩
      have HX := Lib.hid (HX.out.trans hx5)
      have HP := Lib.hid (HP.out.ext hx5)
      clear hx5
      go_wp2_with fail
      refine (HS.out _ HP.out).mono ?_
      rintro e w6 ⟨rfl, hx6⟩
      have HX := Lib.hid (HX.out.trans hx6)
      clear hx6
      go_wp2_with fail
      go_ret
      exact ⟨rfl, HX.out⟩
    · have q0 : ((s.size : Int) == 0) = false := beq_eq_false_iff_ne.2 (by omega)
      have q1 : (0 : Int) < (s.size : Int) := by omega
      rw [if_neg h0]
      clear h0
      go_wp2_with fail
      refine (HK.out _ HP.out).mono ?_
      rintro e w5 ⟨rfl, hx5⟩
      have HX := Lib.hid (HX.out.trans hx5)
      have HP := Lib.hid (HP.out.ext hx5)
      clear hx5
      go_wp2_with fail
      refine (HS.out _ HP.out).mono ?_
      rintro e w6 ⟨rfl, hx6⟩
      have HX := Lib.hid (HX.out.trans hx6)
      clear hx6
      go_wp2_with fail
      go_ret
      exact ⟨rfl, HX.out⟩
  · have h6' : 600 < s.size := by omega
    go_enter Try.func3, Try.ntmps3
    go_wp2_with fail
    refine (lives09 w).mono ?_
    rintro e w1 ⟨rfl, hx1⟩
    go_wp2_with fail
    go_ret
    exact ⟨rfl, hx1⟩
/-! ### a text so many times over -/
def lonL (z : Nat) : List Pc → Int → Int → Int × Int
  | [], a, c => (a, c)
  | p :: l, a, c => lonL z l (a + max 1 p.2.1) (if (z : Int) ≤ a ∧ p.2.1 = 0 then c + 1 else c)
theorem lone_bound (t : ByteArray) (z : Nat) (h1 : 1 ≤ z) (h2 : z ≤ 32768) (hp : ∀ i, i + z < t.size → byteF t i = byteF t (i + z)) : ∀ k p (c : Int), p ≤ t.size → t.size < p + k →
    (lonL z (allF t k p) p c).1 = t.size ∧ (lonL z (allF t k p) p c).2 ≤ c + 2 ∧ (lonL z (allF t k p) p c).2 ≤ c + (t.size - p : Nat)
  | 0, p, c, h3, h4 => by omega
  | k + 1, p, c, h3, h4 => by
    rw [allF]
    by_cases hlt : p < t.size
    · rw [if_pos hlt]
      rcases findN_cases t p h3 with h | ⟨c1, c2, c3, c4, c5, c6, c7⟩
      · have hs := findN_spec t p h3
        rw [h, if_neg (by simp), lonL]
        have e : (p : Int) + max 1 0 = ((p + 1 : Nat) : Int) := by omega
        simp only
        rw [e]
        by_cases hz : z ≤ p
        · have hsz : t.size < p + 3 := by
            apply Decidable.byContradiction
            intro hn
            rw [h] at hs
            rcases hs with ⟨_, hs⟩ | ⟨hs, _⟩
            · have := hs z h1 hz h2
              have := longN_ge t (p - z) p 3 (by omega) (by omega) (fun i hi => by rw [hp (p - z + i) (by omega), show p - z + i + z = p + i by omega])
              omega
            · simp at hs
          rw [if_pos ⟨by omega, by trivial⟩]
          have := lone_bound t z h1 h2 hp k (p + 1) (c + 1) (by omega) (by omega)
          omega
        · rw [if_neg (fun h => hz (by omega))]
          have := lone_bound t z h1 h2 hp k (p + 1) c (by omega) (by omega)
          omega
      · rw [if_pos (by omega), lonL]
        simp only
        rw [Int.max_eq_right (by omega), if_neg (by omega), show (p : Int) + ((findN t p).1 : Nat) = ((p + (findN t p).1 : Nat) : Int) from by omega]
        have := lone_bound t z h1 h2 hp k (p + (findN t p).1) c c3 (by omega)
        omega
    · rw [if_neg hlt, lonL]
      simp only
      omega
theorem B_app (a b : ByteArray) : B (a ++ b) = B a ++ B b := by
  unfold B
  rw [ByteArray.data_append]
  simp
theorem B_times (s : ByteArray) : ∀ k, B (Kt.times s k) = (List.replicate k (B s)).flatten
  | 0 => rfl
  | k + 1 => by rw [Kt.times, B_app, B_times s k, List.replicate_succ']; simp
theorem times_per (s : ByteArray) (k i : Nat) (h : i + s.size < (Kt.times s k).size) : byteF (Kt.times s k) i = byteF (Kt.times s k) (i + s.size) := by
  have hz := Kt.times_size s k
  cases k with
  | zero => omega
  | succ k =>
    unfold byteF
    rw [B_times]
    have hM : (List.replicate k (B s)).flatten.length = k * s.size := by rw [← B_times, B_len, Kt.times_size]
    rw [Nat.add_mul, Nat.one_mul] at hz
    have e1 : (List.replicate (k + 1) (B s)).flatten = (List.replicate k (B s)).flatten ++ B s := by rw [List.replicate_succ']; simp
    have e2 : (List.replicate (k + 1) (B s)).flatten = B s ++ (List.replicate k (B s)).flatten := by rw [List.replicate_succ]; simp
    rw [List.getD_eq_getElem?_getD, List.getD_eq_getElem?_getD]
    congr 1
    rw [e1, List.getElem?_append_left (by omega), ← e1, e2, List.getElem?_append_right (by rw [B_len]; omega), B_len, Nat.add_sub_cancel]
set_option maxRecDepth 100000 in
set_option maxHeartbeats 8000000 in
theorem times_law (s : ByteArray) (n : Int) (w : World) (hs : s.size ≤ maxLen) (wn : (Lit.int .i64 n).wf = true) :
    Calls Try.prog 4 #[.string s, .int .i64 n] w fun e w' => e = .returned (.bool true) ∧ Ext [] w w' := by
  unfold maxLen at hs
  obtain ⟨n0, n1⟩ := Kt.wf_i64 wn
  clear wn
  by_cases h3 : s.size < 3
  · have h3' : (s.size : Int) < 3 := by omega
    go_enter Try.func4, Try.ntmps4
    go_wp2_with fail
    refine (lives09 w).mono ?_
    rintro e w1 ⟨rfl, hx1⟩
    go_wp2_with fail
    go_ret
    exact ⟨rfl, hx1⟩
  by_cases h6 : s.size ≤ 100
  · have h6' : ¬ 100 < s.size := by omega
    have h3' : ¬ (s.size : Int) < 3 := by omega
    obtain ⟨N, hN⟩ : ∃ N : Nat, n % 9 = N := ⟨(n % 9).toNat, by omega⟩
    have hN9 : N ≤ 8 := by omega
    have HN := Lib.hid hN
    clear hN
    have htz := Kt.times_size s (2 + N)
    have htz2 : (2 + N) * s.size ≤ 10 * 100 := Nat.mul_le_mul (by omega) h6
    rw [← htz] at htz2
    have hb := lone_bound (Kt.times s (2 + N)) s.size (by omega) (by omega) (times_per s (2 + N)) ((Kt.times s (2 + N)).size + 1) 0 0 (by omega) (by omega)
    have HT := Lib.hid (fun w => Kt.times_walk s (2 + N) w (by omega) (by omega))
    obtain ⟨t, ht⟩ : ∃ t, Kt.times s (2 + N) = t := ⟨_, rfl⟩
    rw [ht] at hb htz2 HT
    change (lonL s.size (allN t) 0 0).1 = t.size ∧ (lonL s.size (allN t) 0 0).2 ≤ 0 + 2 ∧ (lonL s.size (allN t) 0 0).2 ≤ 0 + (t.size - 0 : Nat) at hb
    clear htz ht
    have hl := allN_len t
    have HA := Lib.hid (fun w => All_pc t w (by omega))
    have hfree := all_may t (t.size + 1) 0 (by omega)
    change badN (allN t) = false at hfree
    generalize allN t = l at *
    obtain ⟨R, hR⟩ : ∃ R, lonL s.size l 0 0 = R := ⟨_, rfl⟩
    rw [hR] at hb
    obtain ⟨R1, R2⟩ := R
    simp only at hb
    obtain ⟨hb1, hb2, _⟩ := hb
    subst hb1
    have HR := Lib.hid hR
    have HB := Lib.hid hfree
    clear hR hfree
    go_enter Try.func4, Try.ntmps4
    go_wp2_with fail
    refine (lives09 w).mono ?_
    rintro e w1 ⟨rfl, hx1⟩
    have HX := Lib.hid hx1
    clear hx1
    go_wp2_with fail
    refine (Kt.pick_any n 9 _ (by omega) (by omega) n0 n1).mono ?_; rintro e w3 ⟨rfl, rfl⟩
    rw [HN.out]
    go_wp2_with fail
    have hc := HT.out w1
    rw [show ((2 + N : Nat) : Int) = 2 + (N : Int) from by omega] at hc
    refine hc.mono ?_
    clear hc HT
    rintro e w3 ⟨rfl, rfl⟩
    go_wp2_with fail
    refine (HA.out _).mono ?_
    rintro e w2 ⟨v, rfl, hx2, hP⟩
    have HX := Lib.hid (HX.out.trans hx2)
    obtain ⟨ao, cap, rfl⟩ := hP.slice
    have HP := Lib.hid hP
    clear hx2 hP HA
    go_wp2_with fail
    go_loopg [7, 8, 9] l.length (fun g av cv iv wr => ∃ (k : Nat) (a c : Int), g + k = l.length ∧ iv = .int .i64 k ∧ av = .int .i64 a ∧ cv = .int .i64 c ∧ 0 ≤ a ∧ a ≤ 258 * k ∧ 0 ≤ c ∧ c ≤ k ∧ lonL s.size (l.drop k) a c = ((t.size : Int), R2) ∧ w2 = wr)
    case atStart => exact ⟨0, 0, 0, by omega, rfl, rfl, rfl, by omega, by omega, by omega, by omega, HR.out, rfl⟩
    case round =>
      clear HR
      obtain ⟨k, a, c, hk, rfl, rfl, rfl, ha0, ha1, hc0, hc1, hR, rfl⟩ := hrel
      by_cases hlt : k < l.length
      · obtain ⟨ao2, cap2, he, hc⟩ := HP.out
        obtain ⟨b, off, rfl, hcell⟩ := hc (by omega)
        injection he with he1 he2 he3
        subst he1
        obtain ⟨x, hxk⟩ : ∃ x, l[k]? = some x := ⟨_, List.getElem?_eq_getElem hlt⟩
        obtain ⟨_, d1, _⟩ := hcell k x hxk
        have hm : mayP x = true := by
          have h := HB.out
          unfold badN at h
          rw [List.any_eq_false] at h
          simpa using h x (List.mem_of_getElem? hxk)
        have hm := mayP_iff x hm
        rw [drop_at hxk, lonL] at hR
        obtain ⟨xb, xl, xd⟩ := x
        simp only at d1 hm hR
        clear hcell hxk hc he2 he3
        rcases hm with ⟨rfl, _⟩ | ⟨_, hl3, hl4, _⟩
        · by_cases hz : (s.size : Int) ≤ a
          · rw [if_pos ⟨hz, rfl⟩] at hR
            have HR := Lib.hid hR
            clear hR
            go_wp2_with fail
            go_roundg (l.length - (k + 1))
            case measure => omega
            case rel => exact ⟨k + 1, a + 1, c + 1, by omega, by go_num, rfl, rfl, by omega, by omega, by omega, by omega, HR.out, rfl⟩
          · rw [if_neg (fun h => hz h.1)] at hR
            have HR := Lib.hid hR
            have hz' : decide ((s.size : Int) ≤ a) = false := decide_eq_false hz
            have hz2 : a < (s.size : Int) := by omega
            clear hR hz
            go_wp2_with fail
            go_roundg (l.length - (k + 1))
            case measure => omega
            case rel => exact ⟨k + 1, a + 1, c, by omega, by go_num, rfl, rfl, by omega, by omega, by omega, by omega, HR.out, rfl⟩
        · rw [if_neg (fun h => by omega)] at hR
          have HR := Lib.hid hR
          have hl1 : 1 ≤ xl := by omega
          have hl0 : (xl == 0) = false := beq_eq_false_iff_ne.2 (by omega)
          clear hR
          by_cases hz : (s.size : Int) ≤ a
          · go_wp2_with fail
            go_roundg (l.length - (k + 1))
            case measure => omega
            case rel => exact ⟨k + 1, a + max 1 xl, c, by omega, by go_num, by (first | rfl | rw [Int.max_eq_right hl1]), rfl, by omega, by omega, by omega, by omega, HR.out, rfl⟩
          · have hz' : decide ((s.size : Int) ≤ a) = false := decide_eq_false hz
            have hz2 : a < (s.size : Int) := by omega
            clear hz
            go_wp2_with fail
            go_roundg (l.length - (k + 1))
            case measure => omega
            case rel => exact ⟨k + 1, a + max 1 xl, c, by omega, by go_num, by (first | rfl | rw [Int.max_eq_right hl1]), rfl, by omega, by omega, by omega, by omega, HR.out, rfl⟩
      · obtain rfl : k = l.length := by omega
        rw [List.drop_length, lonL] at hR
        injection hR with e1 e2
        subst e1 e2
        have hc2 : c ≤ 2 := by omega
        go_wp2_with fail
        go_ret
        exact ⟨rfl, HX.out⟩
  · have h3' : ¬ (s.size : Int) < 3 := by omega
    have h6' : 100 < s.size := by omega
    go_enter Try.func4, Try.ntmps4
    go_wp2_with fail
    refine (lives09 w).mono ?_
    rintro e w1 ⟨rfl, hx1⟩
    go_wp2_with fail
    go_ret
    exact ⟨rfl, hx1⟩
end Go.Proofs.Ytngfhnpelchplaa.Mt
