/-
  MatchLongest walked.
-/
import Derived.Test.YtngfhnpelchplaaMtS
namespace Go.Proofs.Ytngfhnpelchplaa.Mt
open Go.RowKit

set_option maxRecDepth 100000 in
set_option maxHeartbeats 16000000 in
theorem longest_law (s : ByteArray) (at_ back : Int) (w : World) (hs : s.size ≤ maxLen) (wa : (Lit.int .i64 at_).wf = true) (wb : (Lit.int .i64 back).wf = true) :
    Calls Try.prog 8 #[.string s, .int .i64 at_, .int .i64 back] w fun e w' => e = .returned (.bool true) ∧ Ext [] w w' := by
  unfold maxLen at hs
  obtain ⟨a0, a1⟩ := Kt.wf_i64 wa
  obtain ⟨b0, b1⟩ := Kt.wf_i64 wb
  clear wa wb
  by_cases hz : s.size = 0
  · have q0 : ((s.size : Int) == 0) = true := by simp [hz]
    clear hz
    go_enter Try.func8, Try.ntmps8
    go_wp2_with fail
    refine (lives09 w).mono ?_
    rintro e w1 ⟨rfl, hx1⟩
    go_wp2_with fail
    go_ret
    exact ⟨rfl, hx1⟩
  have q0 : ((s.size : Int) == 0) = false := beq_eq_false_iff_ne.2 (by omega)
  by_cases h6 : s.size ≤ 600
  · have h6' : ¬ 600 < s.size := by omega
    obtain ⟨p, hp⟩ : ∃ p : Nat, at_ % (s.size : Int) = p := ⟨(at_ % (s.size : Int)).toNat, by have := Int.emod_nonneg at_ (show (s.size : Int) ≠ 0 by omega); omega⟩
    have hps : p < s.size := by have := Int.emod_lt_of_pos at_ (show (0 : Int) < (s.size : Int) by omega); omega
    have HPN := Lib.hid hp
    have hF := Find_walk s p
    have e : findI s p = findN s p := by unfold findI; rw [if_pos (by omega)]; rfl
    rw [e] at hF
    have hsp := findN_spec s p (by omega)
    have hcs := findN_cases s p (by omega)
    obtain ⟨n, d, hnd⟩ : ∃ n d, findN s p = (n, d) := ⟨_, _, rfl⟩
    rw [hnd] at hF hsp hcs
    have HF := Lib.hid hF
    have HSP := Lib.hid hsp
    have hn9 : n ≤ 258 ∧ p + n ≤ s.size ∧ d ≤ p ∧ (n = 0 ↔ d = 0) ∧ (n = 0 ∨ 3 ≤ n) ∧ ∀ i, i < n → byteF s (p - d + i) = byteF s (p + i) := by
      rcases hcs with h | ⟨c1, c2, c3, c4, c5, c6, c7⟩
      · injection h with h1 h2
        subst h1 h2
        exact ⟨by omega, by omega, by omega, by simp, .inl rfl, fun i hi => by omega⟩
      · simp only at c1 c2 c3 c4 c5 c7
        exact ⟨c2, c3, c5, by omega, .inr c1, c7⟩
    obtain ⟨c1, c2, c3, c4, c5, c6⟩ := hn9
    have HC6 := Lib.hid c6
    clear hp e hF hsp hcs hnd c6
    have t1 : ((n : Int) == 0) = ((d : Int) == 0) := by
      by_cases h : n = 0
      · have := c4.1 h; subst h; subst this; rfl
      · have h2 : d ≠ 0 := fun h' => h (c4.2 h')
        rw [beq_eq_false_iff_ne.2 (show (n : Int) ≠ 0 by omega), beq_eq_false_iff_ne.2 (show (d : Int) ≠ 0 by omega)]
    have T1 := Lib.hid t1
    have C45 := Lib.hid (⟨c4, c5⟩ : _ ∧ _)
    clear t1 c4 c5
    go_enter Try.func8, Try.ntmps8
    go_wp2_with fail
    refine (lives09 w).mono ?_
    rintro e w1 ⟨rfl, hx1⟩
    have HX := Lib.hid hx1
    clear hx1
    go_wp2_with fail
    refine (Kt.pick_any at_ (s.size : Int) _ (by omega) (by omega) a0 a1).mono ?_; rintro e w2 ⟨rfl, rfl⟩
    rw [HPN.out]
    go_wp2_with fail
    refine (HF.out _ (by omega)).mono ?_
    rintro e w2 ⟨rfl, hx2⟩
    have HX := Lib.hid (HX.out.trans hx2)
    clear hx2 HF
    simp only
    have p0 : (0 : Int) ≤ (p : Int) := by omega
    have p1 : (p : Int) + (n : Int) ≤ (s.size : Int) := by omega
    have p2 : (d : Int) ≤ (p : Int) := by omega
    have p3 : (n : Int) ≤ 258 := by omega
    by_cases hn0 : n = 0
    · have hd0 : d = 0 := C45.out.1.1 hn0
      have e1 : ((n : Int) == 0) = true := by simp [hn0]
      have e2 : ((d : Int) == 0) = true := by simp [hd0]
      have hn0' : (n : Int) ≤ 0 := by omega
      have HN0 := Lib.hid (⟨hn0, hd0⟩ : _ ∧ _)
      clear hn0 hd0
      go_wp2_with fail
      go_loopg [9] n (fun g iv wr => ∃ k : Nat, g + k = n ∧ iv = .int .i64 k ∧ Ext [] w wr)
      case atStart => exact ⟨0, by omega, rfl, HX.out⟩
      case round =>
        clear HX
        obtain ⟨k, hk, rfl, hx⟩ := hrel
        have HX := Lib.hid hx
        clear hx
        by_cases hkn : k < n
        · have v1 : p + k < s.size := by omega
          have v2 : p - d + k < s.size := by omega
          have hby := HC6.out k hkn
          have j1 : (k : Int) < (n : Int) := by omega
          have j5 : (0 : Int) ≤ (p : Int) + (k : Int) := by omega
          have j2 : (p : Int) + (k : Int) < (s.size : Int) := by omega
          have j4 : (0 : Int) ≤ (p : Int) + (k : Int) - (d : Int) := by omega
          have j3 : (p : Int) + (k : Int) - (d : Int) < (s.size : Int) := by omega
          have t1 : ((p : Int) + (k : Int) - (d : Int)).toNat = p - d + k := by omega
          have t2 : ((p : Int) + (k : Int)).toNat = p + k := by omega
          obtain ⟨x, hx⟩ : ∃ x, s[p - d + k]'v2 = x := ⟨_, rfl⟩
          have hy : s[p + k]'v1 = x := by rw [← hx, bget, bget, hby]
          clear hby
          go_wp2_with fail
          refine wp_region_ext (by kernel_rfl) (by kernel_rfl) ?_
          repeat (go_big_quiet_step (fail))
          refine wpQuiet_nil ?_
          rintro _ ⟨q, rfl⟩
          have HX := Lib.hid (HX.out.trans q.ext)
          go_wp2_with fail
          go_roundg (n - (k + 1))
          case measure => omega
          case rel => exact ⟨k + 1, by omega, by go_num, HX.out⟩
        · obtain rfl : n = k := by omega
          by_cases hp0 : p = 0
          · have hp1 : ((p : Int) == 0) = true := by simp [hp0]
            go_wp2_with fail
            go_ret
            exact ⟨by (first | rfl | simp [HN0.out.1]), HX.out⟩
          · have hp1 : ((p : Int) == 0) = false := beq_eq_false_iff_ne.2 (by omega)
            have hp2 : (1 : Int) ≤ (p : Int) := by omega
            obtain ⟨q, hq⟩ : ∃ q : Nat, back % (p : Int) = q := ⟨(back % (p : Int)).toNat, by have := Int.emod_nonneg back (show (p : Int) ≠ 0 by omega); omega⟩
            have hqp : q < p := by have := Int.emod_lt_of_pos back (show (0 : Int) < (p : Int) by omega); omega
            have HQ := Lib.hid hq
            clear hq
            go_wp2_with fail
            refine (Kt.pick_any back (p : Int) _ (by omega) (by omega) b0 b1).mono ?_; rintro e w3 ⟨rfl, rfl⟩
            rw [HQ.out]
            obtain ⟨bk, hbk⟩ : ∃ bk, q + 1 = bk := ⟨_, rfl⟩
            have hbI : 1 + (q : Int) = (bk : Int) := by omega
            have hb9 : 1 ≤ bk ∧ bk ≤ p := by omega
            obtain ⟨L, hL⟩ : ∃ L, longN s (p - bk) p = L := ⟨_, rfl⟩
            have hL9 : L ≤ 258 := by rw [← hL]; exact longN_le s _ _
            have hle : L ≤ max n 2 ∧ (L = n → d ≤ bk) := by
              rcases HSP.out with ⟨h, hh⟩ | ⟨h1, h2, h3, h4, h5, h6, h7⟩
              · injection h with h1 h2
                have := hh bk (by omega) (by omega) (by omega)
                omega
              · simp only at h1 h2 h3 h4 h5 h6 h7
                have := h6 bk (by omega) (by omega) (by omega)
                refine ⟨by omega, fun e => ?_⟩
                apply Decidable.byContradiction
                intro hn
                have := h7 bk (by omega) (by omega)
                omega
            have HLE := Lib.hid hle
            unfold longN at hL
            have HL := Lib.hid hL
            clear hle hL hbk
            go_upto_region 17 with (fail)
            clear hbI
            go_wp2_with fail
            go_loopg [10] 259 (fun g nv wr2 => ∃ m : Nat, g + m = 259 ∧ m ≤ 258 ∧ nv = .int .i64 m ∧ longF s (p - bk) p g m = L ∧ Ext [] w wr2)
            case atStart => exact ⟨0, by omega, by omega, rfl, HL.out, HX.out⟩
            case round =>
              clear HX HL
              obtain ⟨m, hgm, hm8, rfl, hL, hx⟩ := hrel
              have HX := Lib.hid hx
              have HL := Lib.hid hL
              clear hx hL
              by_cases k1 : m < 258
              · obtain ⟨g2, rfl⟩ : ∃ g2, gk = g2 + 1 := ⟨gk - 1, by omega⟩
                have j1 : (m : Int) < 258 := by omega
                have j5 : (0 : Int) ≤ (p : Int) + (m : Int) := by omega
                by_cases k2 : p + m < s.size
                · have j2 : (p : Int) + (m : Int) < (s.size : Int) := by omega
                  have ha : p - bk + m < s.size := by omega
                  have j4 : (0 : Int) ≤ (p : Int) + (m : Int) - (bk : Int) := by omega
                  have j3 : (p : Int) + (m : Int) - (bk : Int) < (s.size : Int) := by omega
                  have t1 : ((p : Int) + (m : Int) - (bk : Int)).toNat = p - bk + m := by omega
                  have t2 : ((p : Int) + (m : Int)).toNat = p + m := by omega
                  obtain ⟨x, hx⟩ : ∃ x, s[p - bk + m]'ha = x := ⟨_, rfl⟩
                  obtain ⟨y, hy⟩ : ∃ y, s[p + m]'k2 = y := ⟨_, rfl⟩
                  have hbx : byteF s (p - bk + m) = x := by rw [← bget s _ ha, hx]
                  have hby : byteF s (p + m) = y := by rw [← bget s _ k2, hy]
                  by_cases k3 : x = y
                  · have hst := longF_step s (p - bk) p g2 m ⟨k1, k2, by rw [hbx, hby, k3]⟩
                    rw [HL.out] at hst
                    have HST := Lib.hid hst
                    subst k3
                    clear hst hbx hby
                    go_wp2_with fail
                    refine wp_region_ext (by kernel_rfl) (by kernel_rfl) ?_
                    repeat (go_big_quiet_step (fail))
                    refine wpQuiet_nil ?_
                    rintro _ ⟨q, rfl⟩
                    have HX := Lib.hid (HX.out.trans q.ext)
                    go_wp2_with fail
                    go_roundg g2
                    case measure => omega
                    case rel => exact ⟨m + 1, by omega, by omega, by go_num, HST.out.symm, HX.out⟩
                  · have hen := longF_end s (p - bk) p g2 m (by rw [hbx, hby]; exact fun h => k3 h.2.2)
                    rw [HL.out] at hen
                    have hne : ¬ ((y.toNat : Nat) : Int) = ((x.toNat : Nat) : Int) := fun h => k3 (UInt8.toNat_inj.1 (by omega))
                    have q1 : (((y.toNat : Nat) : Int) == ((x.toNat : Nat) : Int)) = false := beq_eq_false_iff_ne.2 hne
                    have HEN := Lib.hid hen
                    clear hen hbx hby hne k3
                    have hLv : L = m := HEN.out
                    subst hLv
                    by_cases f1 : L < 3
                    · have g1 : (L : Int) < 3 := by omega
                      have g2 : (L : Int) ≤ max (n : Int) 2 := by omega
                      have g3 : decide ((L : Int) ≤ max (n : Int) 2) = true := decide_eq_true g2
                      go_wp2_with fail
                      refine wp_region_ext (by kernel_rfl) (by kernel_rfl) ?_
                      repeat (go_big_quiet_step (fail))
                      refine wpQuiet_nil ?_
                      rintro _ ⟨q, rfl⟩
                      have HX := Lib.hid (HX.out.trans q.ext)
                      go_wp2_with fail
                      all_goals (go_ret; exact ⟨by (first | rfl | simp | (simp; omega)), HX.out⟩)
                    · exact absurd HLE.out.1 (by have := HN0.out.1; omega)
                · have j2 : (s.size : Int) ≤ (p : Int) + (m : Int) := by omega
                  have j7 : decide ((p : Int) + (m : Int) < (s.size : Int)) = false := decide_eq_false (by omega)
                  have hen := longF_end s (p - bk) p g2 m (fun h => k2 h.2.1)
                  rw [HL.out] at hen
                  have HEN := Lib.hid hen
                  clear hen
                  have hLv : L = m := HEN.out
                  subst hLv
                  by_cases f1 : L < 3
                  · have g1 : (L : Int) < 3 := by omega
                    have g2 : (L : Int) ≤ max (n : Int) 2 := by omega
                    have g3 : decide ((L : Int) ≤ max (n : Int) 2) = true := decide_eq_true g2
                    go_wp2_with fail
                    refine wp_region_ext (by kernel_rfl) (by kernel_rfl) ?_
                    repeat (go_big_quiet_step (fail))
                    refine wpQuiet_nil ?_
                    rintro _ ⟨q, rfl⟩
                    have HX := Lib.hid (HX.out.trans q.ext)
                    go_wp2_with fail
                    all_goals (go_ret; exact ⟨by (first | rfl | simp | (simp; omega)), HX.out⟩)
                  · exact absurd HLE.out.1 (by have := HN0.out.1; omega)
              · obtain rfl : m = 258 := by omega
                obtain ⟨g2, rfl⟩ : ∃ g2, gk = g2 + 1 := ⟨gk - 1, by omega⟩
                have hen := longF_end s (p - bk) p g2 258 (fun h => by omega)
                rw [HL.out] at hen
                have HEN := Lib.hid hen
                clear hen
                have hLv : L = 258 := HEN.out
                subst hLv
                by_cases f1 : 258 < 3
                · have g1 : (258 : Int) < 3 := by omega
                  have g2 : (258 : Int) ≤ max (n : Int) 2 := by omega
                  have g3 : decide ((258 : Int) ≤ max (n : Int) 2) = true := decide_eq_true g2
                  go_wp2_with fail
                  refine wp_region_ext (by kernel_rfl) (by kernel_rfl) ?_
                  repeat (go_big_quiet_step (fail))
                  refine wpQuiet_nil ?_
                  rintro _ ⟨q, rfl⟩
                  have HX := Lib.hid (HX.out.trans q.ext)
                  go_wp2_with fail
                  all_goals (go_ret; exact ⟨by (first | rfl | simp | (simp; omega)), HX.out⟩)
                · exact absurd HLE.out.1 (by have := HN0.out.1; omega)
    · have hn3 : 3 ≤ n := by have := C45.out.2; omega
      have hd0 : d ≠ 0 := fun h => hn0 (C45.out.1.2 h)
      have e1 : ((n : Int) == 0) = false := beq_eq_false_iff_ne.2 (by omega)
      have e2 : ((d : Int) == 0) = false := beq_eq_false_iff_ne.2 (by omega)
      have hn3' : (3 : Int) ≤ (n : Int) := by omega
      have hn0' : (0 : Int) < (n : Int) := by omega
      clear hn0
      go_wp2_with fail
      go_loopg [9] n (fun g iv wr => ∃ k : Nat, g + k = n ∧ iv = .int .i64 k ∧ Ext [] w wr)
      case atStart => exact ⟨0, by omega, rfl, HX.out⟩
      case round =>
        clear HX
        obtain ⟨k, hk, rfl, hx⟩ := hrel
        have HX := Lib.hid hx
        clear hx
        by_cases hkn : k < n
        · have v1 : p + k < s.size := by omega
          have v2 : p - d + k < s.size := by omega
          have hby := HC6.out k hkn
          have j1 : (k : Int) < (n : Int) := by omega
          have j5 : (0 : Int) ≤ (p : Int) + (k : Int) := by omega
          have j2 : (p : Int) + (k : Int) < (s.size : Int) := by omega
          have j4 : (0 : Int) ≤ (p : Int) + (k : Int) - (d : Int) := by omega
          have j3 : (p : Int) + (k : Int) - (d : Int) < (s.size : Int) := by omega
          have t1 : ((p : Int) + (k : Int) - (d : Int)).toNat = p - d + k := by omega
          have t2 : ((p : Int) + (k : Int)).toNat = p + k := by omega
          obtain ⟨x, hx⟩ : ∃ x, s[p - d + k]'v2 = x := ⟨_, rfl⟩
          have hy : s[p + k]'v1 = x := by rw [← hx, bget, bget, hby]
          clear hby
          go_wp2_with fail
          refine wp_region_ext (by kernel_rfl) (by kernel_rfl) ?_
          repeat (go_big_quiet_step (fail))
          refine wpQuiet_nil ?_
          rintro _ ⟨q, rfl⟩
          have HX := Lib.hid (HX.out.trans q.ext)
          go_wp2_with fail
          go_roundg (n - (k + 1))
          case measure => omega
          case rel => exact ⟨k + 1, by omega, by go_num, HX.out⟩
        · obtain rfl : n = k := by omega
          by_cases hp0 : p = 0
          · exact absurd (Nat.le_antisymm (by omega) (Nat.zero_le d)) hd0
          · have hp1 : ((p : Int) == 0) = false := beq_eq_false_iff_ne.2 (by omega)
            have hp2 : (1 : Int) ≤ (p : Int) := by omega
            obtain ⟨q, hq⟩ : ∃ q : Nat, back % (p : Int) = q := ⟨(back % (p : Int)).toNat, by have := Int.emod_nonneg back (show (p : Int) ≠ 0 by omega); omega⟩
            have hqp : q < p := by have := Int.emod_lt_of_pos back (show (0 : Int) < (p : Int) by omega); omega
            have HQ := Lib.hid hq
            clear hq
            go_wp2_with fail
            refine (Kt.pick_any back (p : Int) _ (by omega) (by omega) b0 b1).mono ?_; rintro e w3 ⟨rfl, rfl⟩
            rw [HQ.out]
            obtain ⟨bk, hbk⟩ : ∃ bk, q + 1 = bk := ⟨_, rfl⟩
            have hbI : 1 + (q : Int) = (bk : Int) := by omega
            have hb9 : 1 ≤ bk ∧ bk ≤ p := by omega
            obtain ⟨L, hL⟩ : ∃ L, longN s (p - bk) p = L := ⟨_, rfl⟩
            have hL9 : L ≤ 258 := by rw [← hL]; exact longN_le s _ _
            have hle : L ≤ max n 2 ∧ (L = n → d ≤ bk) := by
              rcases HSP.out with ⟨h, hh⟩ | ⟨h1, h2, h3, h4, h5, h6, h7⟩
              · injection h with h1 h2
                have := hh bk (by omega) (by omega) (by omega)
                omega
              · simp only at h1 h2 h3 h4 h5 h6 h7
                have := h6 bk (by omega) (by omega) (by omega)
                refine ⟨by omega, fun e => ?_⟩
                apply Decidable.byContradiction
                intro hn
                have := h7 bk (by omega) (by omega)
                omega
            have HLE := Lib.hid hle
            unfold longN at hL
            have HL := Lib.hid hL
            clear hle hL hbk
            go_upto_region 17 with (fail)
            clear hbI
            go_wp2_with fail
            go_loopg [10] 259 (fun g nv wr2 => ∃ m : Nat, g + m = 259 ∧ m ≤ 258 ∧ nv = .int .i64 m ∧ longF s (p - bk) p g m = L ∧ Ext [] w wr2)
            case atStart => exact ⟨0, by omega, by omega, rfl, HL.out, HX.out⟩
            case round =>
              clear HX HL
              obtain ⟨m, hgm, hm8, rfl, hL, hx⟩ := hrel
              have HX := Lib.hid hx
              have HL := Lib.hid hL
              clear hx hL
              by_cases k1 : m < 258
              · obtain ⟨g2, rfl⟩ : ∃ g2, gk = g2 + 1 := ⟨gk - 1, by omega⟩
                have j1 : (m : Int) < 258 := by omega
                have j5 : (0 : Int) ≤ (p : Int) + (m : Int) := by omega
                by_cases k2 : p + m < s.size
                · have j2 : (p : Int) + (m : Int) < (s.size : Int) := by omega
                  have ha : p - bk + m < s.size := by omega
                  have j4 : (0 : Int) ≤ (p : Int) + (m : Int) - (bk : Int) := by omega
                  have j3 : (p : Int) + (m : Int) - (bk : Int) < (s.size : Int) := by omega
                  have t1 : ((p : Int) + (m : Int) - (bk : Int)).toNat = p - bk + m := by omega
                  have t2 : ((p : Int) + (m : Int)).toNat = p + m := by omega
                  obtain ⟨x, hx⟩ : ∃ x, s[p - bk + m]'ha = x := ⟨_, rfl⟩
                  obtain ⟨y, hy⟩ : ∃ y, s[p + m]'k2 = y := ⟨_, rfl⟩
                  have hbx : byteF s (p - bk + m) = x := by rw [← bget s _ ha, hx]
                  have hby : byteF s (p + m) = y := by rw [← bget s _ k2, hy]
                  by_cases k3 : x = y
                  · have hst := longF_step s (p - bk) p g2 m ⟨k1, k2, by rw [hbx, hby, k3]⟩
                    rw [HL.out] at hst
                    have HST := Lib.hid hst
                    subst k3
                    clear hst hbx hby
                    go_wp2_with fail
                    refine wp_region_ext (by kernel_rfl) (by kernel_rfl) ?_
                    repeat (go_big_quiet_step (fail))
                    refine wpQuiet_nil ?_
                    rintro _ ⟨q, rfl⟩
                    have HX := Lib.hid (HX.out.trans q.ext)
                    go_wp2_with fail
                    go_roundg g2
                    case measure => omega
                    case rel => exact ⟨m + 1, by omega, by omega, by go_num, HST.out.symm, HX.out⟩
                  · have hen := longF_end s (p - bk) p g2 m (by rw [hbx, hby]; exact fun h => k3 h.2.2)
                    rw [HL.out] at hen
                    have hne : ¬ ((y.toNat : Nat) : Int) = ((x.toNat : Nat) : Int) := fun h => k3 (UInt8.toNat_inj.1 (by omega))
                    have q1 : (((y.toNat : Nat) : Int) == ((x.toNat : Nat) : Int)) = false := beq_eq_false_iff_ne.2 hne
                    have HEN := Lib.hid hen
                    clear hen hbx hby hne k3
                    have hLv : L = m := HEN.out
                    subst hLv
                    by_cases f1 : L < 3
                    · have g1 : (L : Int) < 3 := by omega
                      have g2 : (L : Int) ≤ max (n : Int) 2 := by omega
                      have g3 : decide ((L : Int) ≤ max (n : Int) 2) = true := decide_eq_true g2
                      go_wp2_with fail
                      refine wp_region_ext (by kernel_rfl) (by kernel_rfl) ?_
                      repeat (go_big_quiet_step (fail))
                      refine wpQuiet_nil ?_
                      rintro _ ⟨q, rfl⟩
                      have HX := Lib.hid (HX.out.trans q.ext)
                      go_wp2_with fail
                      all_goals (go_ret; exact ⟨by (first | rfl | simp | (simp; omega)), HX.out⟩)
                    · have g1 : (3 : Int) ≤ (L : Int) := by omega
                      have g0 : ¬ ((L : Int) < 3) := by omega
                      by_cases f2 : L < n
                      · have g2 : (L : Int) < (n : Int) := by omega
                        go_wp2_with fail
                        refine wp_region_ext (by kernel_rfl) (by kernel_rfl) ?_
                        repeat (go_big_quiet_step (fail))
                        refine wpQuiet_nil ?_
                        rintro _ ⟨q, rfl⟩
                        have HX := Lib.hid (HX.out.trans q.ext)
                        go_wp2_with fail
                        all_goals (go_ret; exact ⟨by (first | rfl | simp | (simp; omega)), HX.out⟩)
                      · have hle := HLE.out
                        have f3 : L = n := by omega
                        have f4 : d ≤ bk := hle.2 f3
                        have g2 : (n : Int) ≤ (L : Int) := by omega
                        have g3 : ((L : Int) == (n : Int)) = true := beq_iff_eq.2 (by omega)
                        have g4 : (d : Int) ≤ (bk : Int) := by omega
                        clear f2 f3 hle
                        go_wp2_with fail
                        refine wp_region_ext (by kernel_rfl) (by kernel_rfl) ?_
                        repeat (go_big_quiet_step (fail))
                        refine wpQuiet_nil ?_
                        rintro _ ⟨q, rfl⟩
                        have HX := Lib.hid (HX.out.trans q.ext)
                        go_wp2_with fail
                        all_goals (go_ret; exact ⟨by (first | rfl | simp | (simp; omega)), HX.out⟩)
                · have j2 : (s.size : Int) ≤ (p : Int) + (m : Int) := by omega
                  have j7 : decide ((p : Int) + (m : Int) < (s.size : Int)) = false := decide_eq_false (by omega)
                  have hen := longF_end s (p - bk) p g2 m (fun h => k2 h.2.1)
                  rw [HL.out] at hen
                  have HEN := Lib.hid hen
                  clear hen
                  have hLv : L = m := HEN.out
                  subst hLv
                  by_cases f1 : L < 3
                  · have g1 : (L : Int) < 3 := by omega
                    have g2 : (L : Int) ≤ max (n : Int) 2 := by omega
                    have g3 : decide ((L : Int) ≤ max (n : Int) 2) = true := decide_eq_true g2
                    go_wp2_with fail
                    refine wp_region_ext (by kernel_rfl) (by kernel_rfl) ?_
                    repeat (go_big_quiet_step (fail))
                    refine wpQuiet_nil ?_
                    rintro _ ⟨q, rfl⟩
                    have HX := Lib.hid (HX.out.trans q.ext)
                    go_wp2_with fail
                    all_goals (go_ret; exact ⟨by (first | rfl | simp | (simp; omega)), HX.out⟩)
                  · have g1 : (3 : Int) ≤ (L : Int) := by omega
                    have g0 : ¬ ((L : Int) < 3) := by omega
                    by_cases f2 : L < n
                    · have g2 : (L : Int) < (n : Int) := by omega
                      go_wp2_with fail
                      refine wp_region_ext (by kernel_rfl) (by kernel_rfl) ?_
                      repeat (go_big_quiet_step (fail))
                      refine wpQuiet_nil ?_
                      rintro _ ⟨q, rfl⟩
                      have HX := Lib.hid (HX.out.trans q.ext)
                      go_wp2_with fail
                      all_goals (go_ret; exact ⟨by (first | rfl | simp | (simp; omega)), HX.out⟩)
                    · have hle := HLE.out
                      have f3 : L = n := by omega
                      have f4 : d ≤ bk := hle.2 f3
                      have g2 : (n : Int) ≤ (L : Int) := by omega
                      have g3 : ((L : Int) == (n : Int)) = true := beq_iff_eq.2 (by omega)
                      have g4 : (d : Int) ≤ (bk : Int) := by omega
                      clear f2 f3 hle
                      go_wp2_with fail
                      refine wp_region_ext (by kernel_rfl) (by kernel_rfl) ?_
                      repeat (go_big_quiet_step (fail))
                      refine wpQuiet_nil ?_
                      rintro _ ⟨q, rfl⟩
                      have HX := Lib.hid (HX.out.trans q.ext)
                      go_wp2_with fail
                      all_goals (go_ret; exact ⟨by (first | rfl | simp | (simp; omega)), HX.out⟩)
              · obtain rfl : m = 258 := by omega
                obtain ⟨g2, rfl⟩ : ∃ g2, gk = g2 + 1 := ⟨gk - 1, by omega⟩
                have hen := longF_end s (p - bk) p g2 258 (fun h => by omega)
                rw [HL.out] at hen
                have HEN := Lib.hid hen
                clear hen
                have hLv : L = 258 := HEN.out
                subst hLv
                by_cases f1 : 258 < 3
                · have g1 : (258 : Int) < 3 := by omega
                  have g2 : (258 : Int) ≤ max (n : Int) 2 := by omega
                  have g3 : decide ((258 : Int) ≤ max (n : Int) 2) = true := decide_eq_true g2
                  go_wp2_with fail
                  refine wp_region_ext (by kernel_rfl) (by kernel_rfl) ?_
                  repeat (go_big_quiet_step (fail))
                  refine wpQuiet_nil ?_
                  rintro _ ⟨q, rfl⟩
                  have HX := Lib.hid (HX.out.trans q.ext)
                  go_wp2_with fail
                  all_goals (go_ret; exact ⟨by (first | rfl | simp | (simp; omega)), HX.out⟩)
                · have g1 : (3 : Int) ≤ (258 : Int) := by omega
                  have g0 : ¬ ((258 : Int) < 3) := by omega
                  by_cases f2 : 258 < n
                  · have g2 : (258 : Int) < (n : Int) := by omega
                    go_wp2_with fail
                    refine wp_region_ext (by kernel_rfl) (by kernel_rfl) ?_
                    repeat (go_big_quiet_step (fail))
                    refine wpQuiet_nil ?_
                    rintro _ ⟨q, rfl⟩
                    have HX := Lib.hid (HX.out.trans q.ext)
                    go_wp2_with fail
                    all_goals (go_ret; exact ⟨by (first | rfl | simp | (simp; omega)), HX.out⟩)
                  · have hle := HLE.out
                    have f3 : 258 = n := by omega
                    have f4 : d ≤ bk := hle.2 f3
                    have g2 : (n : Int) ≤ (258 : Int) := by omega
                    have g3 : ((258 : Int) == (n : Int)) = true := beq_iff_eq.2 (by omega)
                    have g4 : (d : Int) ≤ (bk : Int) := by omega
                    clear f2 f3 hle
                    go_wp2_with fail
                    refine wp_region_ext (by kernel_rfl) (by kernel_rfl) ?_
                    repeat (go_big_quiet_step (fail))
                    refine wpQuiet_nil ?_
                    rintro _ ⟨q, rfl⟩
                    have HX := Lib.hid (HX.out.trans q.ext)
                    go_wp2_with fail
                    all_goals (go_ret; exact ⟨by (first | rfl | simp | (simp; omega)), HX.out⟩)
  · have h6' : 600 < s.size := by omega
    go_enter Try.func8, Try.ntmps8
    go_wp2_with fail
    refine (lives09 w).mono ?_
    rintro e w1 ⟨rfl, hx1⟩
    go_wp2_with fail
    go_ret
    exact ⟨rfl, hx1⟩
end Go.Proofs.Ytngfhnpelchplaa.Mt
