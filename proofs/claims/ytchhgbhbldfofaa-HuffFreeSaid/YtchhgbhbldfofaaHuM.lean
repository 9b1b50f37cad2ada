/-
  huff.Codes and huff.Lens of lengths and counts that may not be.
-/
import Derived.Test.YtchhgbhbldfofaaHuK
namespace Go.Proofs.Ytchhgbhbldfofaa.Hu
open Go.RowKit

set_option maxRecDepth 100000 in
set_option maxHeartbeats 4000000 in
theorem codes_err (v : Value) (l : List Int) (w : World) (hv : IntsAt w v l) (hl : l.length ≤ 1048576) (he : codesE l ≠ 0) :
    Calls Try.prog 13 #[v] w fun e w' => e = .returned (.tuple #[.slice none 0 0, .int .i64 (codesE l)]) ∧ Ext [] w w' := by
  have hst := state_walk v l w hv hl
  by_cases hb : badL l = true
  · have e : stateN l = (0, 2) := by unfold stateN; rw [if_pos hb]
    have e2 : codesE l = 2 := by unfold codesE; rw [if_pos hb]
    rw [e] at hst
    rw [e2]
    have HST := Lib.hid hst
    obtain ⟨ao, cap, rfl, hc⟩ := hv
    clear hst hc hb e e2 he
    go_enter Try.func13, Try.ntmps13
    go_wp2_with fail
    refine HST.out.mono ?_
    clear HST
    rintro e w1 ⟨rfl, hx1⟩
    have HX := Lib.hid hx1
    clear hx1
    go_wp2_with fail
    exact bodyPost_ret (results_tmp2 rfl _ _ _) rfl ⟨rfl, HX.out⟩
  · have e2 : codesE l = if 32768 < kra l then 4 else 0 := by unfold codesE; rw [if_neg hb]
    have hk : 32768 < kra l := by
      rw [e2] at he
      split at he
      · assumption
      · exact absurd rfl he
    rw [if_pos hk] at e2
    have hcz : cmpZ (kra l) 32768 = 1 := by
      rcases cmpZ_cases (kra l) 32768 with ⟨h, _⟩ | ⟨_, h⟩ | ⟨h, h2⟩ <;> omega
    have e : stateN l = (1, 0) := by unfold stateN; rw [if_neg hb, hcz]
    rw [e] at hst
    rw [e2]
    have HST := Lib.hid hst
    obtain ⟨ao, cap, rfl, hc⟩ := hv
    clear hst hc hb e e2 he hk hcz
    go_enter Try.func13, Try.ntmps13
    go_wp2_with fail
    refine HST.out.mono ?_
    clear HST
    rintro e w1 ⟨rfl, hx1⟩
    have HX := Lib.hid hx1
    clear hx1
    go_wp2_with fail
    exact bodyPost_ret (results_tmp2 rfl _ _ _) rfl ⟨rfl, HX.out⟩

set_option maxRecDepth 100000 in
set_option maxHeartbeats 16000000 in
theorem lens_err (v : Value) (l : List Int) (m : Int) (w : World) (hv : IntsArg w v l) (hl : l.length ≤ 1048576) (hm0 : -9223372036854775808 ≤ m) (hm9 : m ≤ 9223372036854775807) (he : lensErr l m = true) :
    Calls Try.prog 16 #[v, .int .i64 m] w fun e w' => e = .returned (.tuple #[.slice none 0 0, .int .i64 2]) ∧ Ext [] w w' := by
  obtain ⟨hA, ao, cap, rfl, hcap, hcm, hnil⟩ := hv
  obtain ⟨aov, capv, hev, hc⟩ := hA
  injection hev with h1 _ h3
  subst h1 h3
  have HC := Lib.hid hc
  clear hc hcap hcm hnil
  cases ha : l.any fun x => decide (x < 0 ∨ 1099511627776 < x)
  · unfold lensErr at he
    rw [ha, Bool.false_or] at he
    have hd := of_decide_eq_true he
    have HA := Lib.hid (fun x hx => by have h := List.any_eq_false.1 ha x hx; simp at h; omega : ∀ x ∈ l, 0 ≤ x ∧ x ≤ 1099511627776)
    have HSL := Lib.hid (someN_le l)
    have HD := Lib.hid hd
    clear ha he hd
    go_enter Try.func16, Try.ntmps16
    go_wp2_with fail
    go_loopg [6, 15] l.length (fun g sv iv wr => ∃ k : Nat, g + k = l.length ∧ iv = .int .i64 k ∧ sv = .int .i64 (someN (l.take k) : Nat) ∧ w = wr)
    case atStart => exact ⟨0, by omega, rfl, by simp [someN], rfl⟩
    case round =>
      obtain ⟨k, hk, rfl, rfl, rfl⟩ := hrel
      by_cases hlt : k < l.length
      · obtain ⟨b, off, rfl, hcell⟩ := HC.out (by omega)
        obtain ⟨x, hck⟩ : ∃ x, l[k]? = some x := ⟨_, List.getElem?_eq_getElem hlt⟩
        have d0 := hcell k x hck
        have hxr := HA.out x (List.mem_of_getElem? hck)
        have x1 : ¬ x < 0 := by omega
        have x2 : ¬ (1099511627776 : Int) < x := by omega
        have hs := someN_snoc (l.take k) x
        rw [← ints_take l k x hck] at hs
        have hs9 : someN (l.take k) ≤ 1048576 := by have := someN_le (l.take k); have := List.length_take_le k l; omega
        have HS := Lib.hid hs
        clear HD
        generalize someN (l.take k) = s at *
        clear hcell hck hs
        by_cases h0 : 0 < x
        · have h1 : 1 ≤ x := by omega
          go_wp2_with fail
          all_goals
            go_roundg (l.length - (k + 1))
            case measure => omega
            case rel => exact ⟨k + 1, by omega, by go_num, by (first | rw [HS.out, if_pos h0, show (s : Int) + x = ((s + 1 : Nat) : Int) from by omega] | rw [HS.out, if_pos h0, show (s : Int) + 1 = ((s + 1 : Nat) : Int) from by omega]), rfl⟩
        · obtain rfl : x = 0 := by omega
          go_wp2_with fail
          go_roundg (l.length - (k + 1))
          case measure => omega
          case rel => exact ⟨k + 1, by omega, by go_num, by rw [HS.out, if_neg (by omega)]; simp, rfl⟩
      · obtain rfl : k = l.length := by omega
        rw [List.take_length]
        have hsl := HSL.out
        have hd := HD.out
        generalize someN l = s at *
        clear HC HSL HA HD
        by_cases q0 : 288 < l.length
        · have q0' : (288 : Int) < (l.length : Int) := by omega
          clear hd
          go_wp2_with fail
          exact bodyPost_ret (results_tmp2 rfl _ _ _) rfl ⟨rfl, Ext.refl _ _⟩
        · have q0' : ¬ (288 : Int) < (l.length : Int) := by omega
          by_cases q1 : m < 1
          · clear hd
            go_wp2_with fail
            exact bodyPost_ret (results_tmp2 rfl _ _ _) rfl ⟨rfl, Ext.refl _ _⟩
          · by_cases q2 : 15 < m
            · clear hd
              go_wp2_with fail
              exact bodyPost_ret (results_tmp2 rfl _ _ _) rfl ⟨rfl, Ext.refl _ _⟩
            · obtain ⟨mm, rfl⟩ : ∃ mm : Nat, m = mm := ⟨m.toNat, by omega⟩
              rw [Int.toNat_natCast] at hd
              obtain ⟨t, ht⟩ : ∃ t, 2 ^ mm = t := ⟨_, rfl⟩
              rw [ht] at hd
              have ht9 : t ≤ 32768 := by rw [← ht]; exact Nat.pow_le_pow_right (n := 2) (by omega) (show mm ≤ 15 by omega)
              have hti : (2 : Int) ^ mm = (t : Int) := by rw [← ht]; push_cast; rfl
              have q3 : (t : Int) < (s : Int) := by omega
              clear hd ht
              go_wp2_with fail
              exact bodyPost_ret (results_tmp2 rfl _ _ _) rfl ⟨rfl, Ext.refl _ _⟩
  · clear he
    have HA := Lib.hid ha
    clear ha
    go_enter Try.func16, Try.ntmps16
    go_wp2_with fail
    go_loopg [6, 15] l.length (fun g sv iv wr => ∃ k s : Nat, g + k = l.length ∧ iv = .int .i64 k ∧ sv = .int .i64 s ∧ s ≤ k ∧ ((l.drop k).any fun x => decide (x < 0 ∨ 1099511627776 < x)) = true ∧ w = wr)
    case atStart => exact ⟨0, 0, by omega, rfl, rfl, Nat.le_refl _, HA.out, rfl⟩
    case round =>
      clear HA
      obtain ⟨k, s, hk, rfl, rfl, hs, ha, rfl⟩ := hrel
      by_cases hlt : k < l.length
      · obtain ⟨b, off, rfl, hcell⟩ := HC.out (by omega)
        obtain ⟨x, hck⟩ : ∃ x, l[k]? = some x := ⟨_, List.getElem?_eq_getElem hlt⟩
        have d0 := hcell k x hck
        have hdr : l.drop k = x :: l.drop (k + 1) := by
          obtain ⟨h1, h2⟩ := List.getElem?_eq_some_iff.1 hck
          rw [List.drop_eq_getElem_cons h1, h2]
        rw [hdr, List.any_cons] at ha
        clear hcell hck hdr
        by_cases hx0 : x < 0
        · clear ha
          go_wp2_with fail
          exact bodyPost_ret (results_tmp2 rfl _ _ _) rfl ⟨rfl, Ext.refl _ _⟩
        · by_cases hx9 : 1099511627776 < x
          · clear ha
            go_wp2_with fail
            exact bodyPost_ret (results_tmp2 rfl _ _ _) rfl ⟨rfl, Ext.refl _ _⟩
          · rw [decide_eq_false (by omega), Bool.false_or] at ha
            have HA := Lib.hid ha
            clear ha
            by_cases h0 : 0 < x
            · have h1 : 1 ≤ x := by omega
              go_wp2_with fail
              all_goals
                go_roundg (l.length - (k + 1))
                case measure => omega
                case rel => exact ⟨k + 1, s + 1, by omega, by go_num, by (first | rw [show (s : Int) + x = ((s + 1 : Nat) : Int) from by omega] | rw [show (s : Int) + 1 = ((s + 1 : Nat) : Int) from by omega]), by omega, HA.out, rfl⟩
            · obtain rfl : x = 0 := by omega
              go_wp2_with fail
              go_roundg (l.length - (k + 1))
              case measure => omega
              case rel => exact ⟨k + 1, s, by omega, by go_num, by (first | rfl | rw [Int.add_zero]), by omega, HA.out, rfl⟩
      · obtain rfl : k = l.length := by omega
        rw [List.drop_length] at ha
        cases ha
end Go.Proofs.Ytchhgbhbldfofaa.Hu
