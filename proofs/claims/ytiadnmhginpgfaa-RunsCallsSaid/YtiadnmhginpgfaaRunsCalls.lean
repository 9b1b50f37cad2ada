/-
  RunsCalls walked.
-/
import Derived.Test.YtiadnmhginpgfaaR13b
namespace Go.Proofs.Ytiadnmhginpgfaa.Rn
open Go.RowKit

theorem getL_wide (b b' : Int) : ∀ (m : Nat) (l out : List UInt8), l.length ≤ m → (out.length : Int) + 128 * l.length ≤ b → (out.length : Int) + 128 * l.length ≤ b' → getL b l out = getL b' l out
  | _, [], out, _, _, _ => by rw [getL, getL]
  | 0, c :: r, _, h, _, _ => by simp at h
  | m + 1, c :: r, out, h, h1, h2 => by
    simp only [List.length_cons] at h h1 h2
    have hc8 := c.toNat_lt
    by_cases h128 : c.toNat = 128
    · rw [getL, getL, if_pos h128, if_pos h128]
    · have key : ∀ nb nn : Nat, (128 < c.toNat ∧ nb = 1 ∧ nn = 257 - c.toNat ∨ c.toNat < 128 ∧ nb = c.toNat + 1 ∧ nn = c.toNat + 1) → getL b (c :: r) out = getL b' (c :: r) out := fun nb nn hh => by
        rw [getL_step b c r out nb nn h128 hh, getL_step b' c r out nb nn h128 hh]
        by_cases hr : r.length < nb
        · rw [if_pos hr, if_pos hr]
        · rw [if_neg hr, if_neg hr, if_neg (by omega), if_neg (by omega)]
          exact getL_wide b b' m _ _ (by rw [List.length_drop]; omega) (by rw [List.length_append, rep_len, List.length_drop]; omega) (by rw [List.length_append, rep_len, List.length_drop]; omega)
      by_cases h2 : 128 < c.toNat
      · exact key 1 (257 - c.toNat) (.inl ⟨h2, rfl, rfl⟩)
      · exact key (c.toNat + 1) (c.toNat + 1) (.inr ⟨by omega, rfl, rfl⟩)
theorem getA_wide (s : ByteArray) (hs : s.size ≤ 1048576) : getA 1099511627776 (B s) = getA 9223372036854775807 (B s) := by
  unfold getA
  rw [if_neg (by omega), if_neg (by omega)]
  exact getL_wide _ _ _ _ _ (Nat.le_refl _) (by rw [B_len]; simp; omega) (by rw [B_len]; simp; omega)
set_option maxHeartbeats 4000000 in
theorem rcheck13_walk (s : ByteArray) (w : World) (hs : s.size ≤ 1048576) :
    Calls Try.prog 17 #[.string s] w fun e w' => e = .returned (.int .i64 ((getA 9223372036854775807 (B s)).2 : Nat)) ∧ Ext [] w w' := by
  have hG := fun w => rget13_walk s 1099511627776 w hs (by omega) (by omega)
  rw [getA_wide s hs] at hG
  generalize getA 9223372036854775807 (B s) = G at hG ⊢
  have HG := Lib.hid hG
  clear hG
  go_enter Try.func17, Try.ntmps17
  go_wp2_with fail
  refine (HG.out _).mono ?_
  rintro e w1 ⟨rfl, hx⟩
  have HX := Lib.hid hx
  clear hx
  go_wp2_with fail
  go_ret
  exact ⟨rfl, HX.out⟩
set_option maxRecDepth 100000 in
set_option maxHeartbeats 4000000 in
theorem runsCalls_walk (s t : ByteArray) (b : Int) (w : World) (_hs : s.size ≤ maxLen) (_ht : t.size ≤ maxLen) (wb : (Lit.int .i64 b).wf = true) :
    Calls Try.prog 7 #[.string s, .string t, .int .i64 b] w fun e w' => e = .returned (.bool true) ∧ Ext [] w w' := by
  obtain ⟨b0, b1⟩ := Kt.wf_i64 wb
  have hs' : s.size ≤ 9223372036854775807 := _hs
  have ht' : t.size ≤ 9223372036854775807 := _ht
  clear wb
  by_cases h1 : s.size ≤ 1500
  · by_cases h2 : t.size ≤ 1500
    · have k1 : ¬ ((1500 : Int) < (s.size : Int)) := by omega
      have k2 : ¬ ((1500 : Int) < (t.size : Int)) := by omega
      have hg := fun w => get_walk t b w (by omega) b1 b0
      have hr := fun w => rget13_walk t b w (by omega) b1 b0
      have hp := fun w => put_walk s w (by omega)
      have hq := fun w => rput13_walk s w (by omega)
      have hc := fun w => check_walk t w (by omega)
      have hd := fun w => rcheck13_walk t w (by omega)
      generalize Rn.S (putL (B s)) = P at hp hq
      generalize (getA 9223372036854775807 (B t)).2 = C at hc hd
      generalize hA : getA b (B t) = A at hg hr
      obtain ⟨x, y⟩ := A
      dsimp only at hg hr
      generalize Rn.S x = X at hg hr
      have HG := Lib.hid hg
      have HR := Lib.hid hr
      have HP := Lib.hid hp
      have HQ := Lib.hid hq
      have HC := Lib.hid hc
      have HD := Lib.hid hd
      clear hg hr hp hq hc hd hA
      go_enter Try.func7, Try.ntmps7
      go_wp2_with fail
      refine (lives13 _).mono ?_; rintro e w1 ⟨rfl, hx1⟩
      have HX := Lib.hid hx1
      clear hx1
      go_wp2_with fail
      refine (HG.out _).mono ?_; rintro e w1 ⟨rfl, hx1⟩
      have HX := Lib.hid (HX.out.trans hx1)
      clear hx1
      go_wp2_with fail
      refine (HR.out _).mono ?_; rintro e w1 ⟨rfl, hx1⟩
      have HX := Lib.hid (HX.out.trans hx1)
      clear hx1
      go_wp2_with fail
      refine (HP.out _).mono ?_; rintro e w1 ⟨rfl, hx1⟩
      have HX := Lib.hid (HX.out.trans hx1)
      clear hx1
      go_wp2_with fail
      refine (HQ.out _).mono ?_; rintro e w1 ⟨rfl, hx1⟩
      have HX := Lib.hid (HX.out.trans hx1)
      clear hx1
      go_wp2_with fail
      refine (HC.out _).mono ?_; rintro e w1 ⟨rfl, hx1⟩
      have HX := Lib.hid (HX.out.trans hx1)
      clear hx1
      go_wp2_with fail
      refine (HD.out _).mono ?_; rintro e w1 ⟨rfl, hx1⟩
      have HX := Lib.hid (HX.out.trans hx1)
      clear hx1
      go_wp2_with fail
      go_ret
      exact ⟨rfl, HX.out⟩
    · have k1 : ¬ ((1500 : Int) < (s.size : Int)) := by omega
      have k2 : ((1500 : Int) < (t.size : Int)) := by omega
      go_enter Try.func7, Try.ntmps7
      go_wp2_with fail
      refine (lives13 _).mono ?_; rintro e w1 ⟨rfl, hx1⟩
      go_wp2_with fail
      go_ret
      exact ⟨rfl, hx1⟩
  · have k1 : ((1500 : Int) < (s.size : Int)) := by omega
    go_enter Try.func7, Try.ntmps7
    go_wp2_with fail
    refine (lives13 _).mono ?_; rintro e w1 ⟨rfl, hx1⟩
    go_wp2_with fail
    go_ret
    exact ⟨rfl, hx1⟩
end Go.Proofs.Ytiadnmhginpgfaa.Rn
