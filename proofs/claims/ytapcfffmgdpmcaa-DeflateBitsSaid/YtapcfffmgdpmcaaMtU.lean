/-
  The document's answer (pagemenderref09): Find, All walked.
-/
import Derived.Test.YtapcfffmgdpmcaaPkM
namespace Go.Proofs.Ytapcfffmgdpmcaa.Mt
open Go.RowKit

theorem rfF_le (s : ByteArray) (p : Nat) : ∀ k b st, st.1 ≤ 258 → (rfF s p k b st).1 ≤ 258
  | 0, b, st, h => h
  | k + 1, b, st, h => by
    rw [rfF]
    split
    · refine rfF_le s p k _ _ ?_
      split
      · exact longN_le s _ _
      · exact h
    · exact h
set_option maxRecDepth 100000 in
set_option maxHeartbeats 16000000 in
theorem rFind_walk (s : ByteArray) (p : Nat) (w : World) (hs : s.size ≤ 1048576) (hp : p < s.size) :
    Calls Try.prog 20 #[.string s, .int .i64 p] w fun e w' => e = .returned (.tuple #[.int .i64 ((rfN s p).1 : Nat), .int .i64 ((rfN s p).2 : Nat)]) ∧ Ext [] w w' := by
  obtain ⟨R, hR⟩ : ∃ R, rfF s p (p + 1) 1 (0, 0) = R := ⟨_, rfl⟩
  have e : rfN s p = if R.1 < 3 then (0, 0) else R := by unfold rfN; rw [hR]
  rw [e]
  have HR := Lib.hid hR
  have p0 : ¬ ((p : Int) < 0) := by omega
  have p1 : ¬ ((s.size : Int) ≤ (p : Int)) := by omega
  clear e hR
  go_enter Try.func20, Try.ntmps20
  go_wp2_with fail
  go_loopg [6, 7, 8] (p + 1) (fun g sv dv bv wr => ∃ (b : Nat) (st : Nat × Nat), g + b = p + 2 ∧ 1 ≤ b ∧ bv = .int .i64 b ∧ sv = .int .i64 (st.1 : Nat) ∧ dv = .int .i64 (st.2 : Nat) ∧ st.1 ≤ 258 ∧ st.2 ≤ b ∧ rfF s p g b st = R ∧ Ext [] w wr)
  case atStart => exact ⟨1, (0, 0), by omega, by omega, rfl, rfl, rfl, by simp, by simp, HR.out, Ext.refl _ _⟩
  case round =>
    clear HR
    obtain ⟨b, ⟨n0, d0⟩, hgb, hb1, rfl, rfl, rfl, hn0, hd0, hR, hx⟩ := hrel
    simp only at hn0 hd0 ⊢
    have HX := Lib.hid hx
    clear hx
    by_cases hbp : b ≤ p
    · by_cases hb3 : b ≤ 32768
      · obtain ⟨g', rfl⟩ : ∃ g', gk = g' + 1 := ⟨gk - 1, by omega⟩
        rw [rfF, if_pos ⟨hbp, hb3⟩] at hR
        have h1 : (b : Int) ≤ (p : Int) := by omega
        have h2 : (b : Int) ≤ 32768 := by omega
        obtain ⟨L, hL⟩ : ∃ L, longN s (p - b) p = L := ⟨_, rfl⟩
        have hL9 : L ≤ 258 := by rw [← hL]; exact longN_le s _ _
        rw [hL] at hR
        unfold longN at hL
        have HR := Lib.hid hR
        have HL := Lib.hid hL
        clear hR hL
        go_wp2_with fail
        go_loopg [9] 259 (fun g nv wr2 => ∃ n : Nat, g + n = 259 ∧ n ≤ 258 ∧ nv = .int .i64 n ∧ longF s (p - b) p g n = L ∧ Ext [] w wr2)
        case atStart => exact ⟨0, by omega, by omega, rfl, HL.out, HX.out⟩
        case round =>
          clear HX HL
          obtain ⟨n, hgn, hn8, rfl, hL, hx⟩ := hrel
          have HX := Lib.hid hx
          have HL := Lib.hid hL
          clear hx hL
          by_cases k1 : n < 258
          · obtain ⟨g2, rfl⟩ : ∃ g2, gk = g2 + 1 := ⟨gk - 1, by omega⟩
            have j1 : (n : Int) < 258 := by omega
            have j5 : (0 : Int) ≤ (p : Int) + (n : Int) := by omega
            by_cases k2 : p + n < s.size
            · have j2 : (p : Int) + (n : Int) < (s.size : Int) := by omega
              have ha : p - b + n < s.size := by omega
              have j4 : (0 : Int) ≤ (p : Int) + (n : Int) - (b : Int) := by omega
              have j3 : (p : Int) + (n : Int) - (b : Int) < (s.size : Int) := by omega
              have t1 : ((p : Int) + (n : Int) - (b : Int)).toNat = p - b + n := by omega
              have t2 : ((p : Int) + (n : Int)).toNat = p + n := by omega
              obtain ⟨x, hx⟩ : ∃ x, s[p - b + n]'ha = x := ⟨_, rfl⟩
              obtain ⟨y, hy⟩ : ∃ y, s[p + n]'k2 = y := ⟨_, rfl⟩
              have hbx : byteF s (p - b + n) = x := by rw [← bget s _ ha, hx]
              have hby : byteF s (p + n) = y := by rw [← bget s _ k2, hy]
              by_cases k3 : x = y
              · have hst := longF_step s (p - b) p g2 n ⟨k1, k2, by rw [hbx, hby, k3]⟩
                rw [HL.out] at hst
                have HST := Lib.hid hst
                subst k3
                clear hst hbx hby
                go_wp2_with fail
                refine wp_region_ext (by kernel_rfl) (by kernel_rfl) ?_
                repeat (go_big_quiet_step (fail))
                refine wpQuiet_nil ?_
                rintro _ ⟨q, rfl⟩
                have HX := Lib.hid (HX.out.trans q.ext)
                go_wp2_with fail
                go_roundg g2
                case measure => omega
                case rel => exact ⟨n + 1, by omega, by omega, by go_num, HST.out.symm, HX.out⟩
              · have hen := longF_end s (p - b) p g2 n (by rw [hbx, hby]; exact fun h => k3 h.2.2)
                rw [HL.out] at hen
                have hne : ¬ ((y.toNat : Nat) : Int) = ((x.toNat : Nat) : Int) := fun h => k3 (UInt8.toNat_inj.1 (by omega))
                have q1 : (((y.toNat : Nat) : Int) == ((x.toNat : Nat) : Int)) = false := beq_eq_false_iff_ne.2 hne
                have HEN := Lib.hid hen
                clear hen hbx hby hne k3
                --A
                have hen2 : L = n := HEN.out
                subst hen2
                by_cases hlt : n0 < L
                · have hR := HR.out
                  rw [if_pos hlt] at hR
                  have HR := Lib.hid hR
                  have q9 : (n0 : Int) < (L : Int) := by omega
                  clear hR
                  go_wp2_with fail
                  refine wp_region_ext (by kernel_rfl) (by kernel_rfl) ?_
                  repeat (go_big_quiet_step (fail))
                  refine wpQuiet_nil ?_
                  rintro _ ⟨q, rfl⟩
                  have HX := Lib.hid (HX.out.trans q.ext)
                  go_wp2_with fail
                  go_roundg g'
                  case measure => omega
                  case rel => exact ⟨b + 1, (L, b), by omega, by omega, by go_num, rfl, rfl, by (first | (simp; omega; done) | simp), by simp, HR.out, HX.out⟩
                · have hR := HR.out
                  rw [if_neg hlt] at hR
                  have HR := Lib.hid hR
                  have q9 : (L : Int) ≤ (n0 : Int) := by omega
                  clear hR
                  go_wp2_with fail
                  refine wp_region_ext (by kernel_rfl) (by kernel_rfl) ?_
                  repeat (go_big_quiet_step (fail))
                  refine wpQuiet_nil ?_
                  rintro _ ⟨q, rfl⟩
                  have HX := Lib.hid (HX.out.trans q.ext)
                  go_wp2_with fail
                  go_roundg g'
                  case measure => omega
                  case rel => exact ⟨b + 1, (n0, d0), by omega, by omega, by go_num, rfl, rfl, by simp; omega, by simp; omega, HR.out, HX.out⟩
            · have j2 : (s.size : Int) ≤ (p : Int) + (n : Int) := by omega
              have j7 : decide ((p : Int) + (n : Int) < (s.size : Int)) = false := decide_eq_false (by omega)
              have hen := longF_end s (p - b) p g2 n (fun h => k2 h.2.1)
              rw [HL.out] at hen
              have HEN := Lib.hid hen
              clear hen
              have hen2 : L = n := HEN.out
              subst hen2
              by_cases hlt : n0 < L
              · have hR := HR.out
                rw [if_pos hlt] at hR
                have HR := Lib.hid hR
                have q9 : (n0 : Int) < (L : Int) := by omega
                clear hR
                go_wp2_with fail
                refine wp_region_ext (by kernel_rfl) (by kernel_rfl) ?_
                repeat (go_big_quiet_step (fail))
                refine wpQuiet_nil ?_
                rintro _ ⟨q, rfl⟩
                have HX := Lib.hid (HX.out.trans q.ext)
                go_wp2_with fail
                go_roundg g'
                case measure => omega
                case rel => exact ⟨b + 1, (L, b), by omega, by omega, by go_num, rfl, rfl, by (first | (simp; omega; done) | simp), by simp, HR.out, HX.out⟩
              · have hR := HR.out
                rw [if_neg hlt] at hR
                have HR := Lib.hid hR
                have q9 : (L : Int) ≤ (n0 : Int) := by omega
                clear hR
                go_wp2_with fail
                refine wp_region_ext (by kernel_rfl) (by kernel_rfl) ?_
                repeat (go_big_quiet_step (fail))
                refine wpQuiet_nil ?_
                rintro _ ⟨q, rfl⟩
                have HX := Lib.hid (HX.out.trans q.ext)
                go_wp2_with fail
                go_roundg g'
                case measure => omega
                case rel => exact ⟨b + 1, (n0, d0), by omega, by omega, by go_num, rfl, rfl, by simp; omega, by simp; omega, HR.out, HX.out⟩
          · obtain rfl : n = 258 := by omega
            obtain ⟨g2, rfl⟩ : ∃ g2, gk = g2 + 1 := ⟨gk - 1, by omega⟩
            have hen := longF_end s (p - b) p g2 258 (fun h => by omega)
            rw [HL.out] at hen
            have HEN := Lib.hid hen
            clear hen
            have hen2 : L = 258 := HEN.out
            subst hen2
            by_cases hlt : n0 < 258
            · have hR := HR.out
              rw [if_pos hlt] at hR
              have HR := Lib.hid hR
              have q9 : (n0 : Int) < (258 : Int) := by omega
              clear hR
              go_wp2_with fail
              refine wp_region_ext (by kernel_rfl) (by kernel_rfl) ?_
              repeat (go_big_quiet_step (fail))
              refine wpQuiet_nil ?_
              rintro _ ⟨q, rfl⟩
              have HX := Lib.hid (HX.out.trans q.ext)
              go_wp2_with fail
              go_roundg g'
              case measure => omega
              case rel => exact ⟨b + 1, (258, b), by omega, by omega, by go_num, rfl, rfl, by (first | (simp; omega; done) | simp), by simp, HR.out, HX.out⟩
            · have hR := HR.out
              rw [if_neg hlt] at hR
              have HR := Lib.hid hR
              have q9 : (258 : Int) ≤ (n0 : Int) := by omega
              clear hR
              go_wp2_with fail
              refine wp_region_ext (by kernel_rfl) (by kernel_rfl) ?_
              repeat (go_big_quiet_step (fail))
              refine wpQuiet_nil ?_
              rintro _ ⟨q, rfl⟩
              have HX := Lib.hid (HX.out.trans q.ext)
              go_wp2_with fail
              go_roundg g'
              case measure => omega
              case rel => exact ⟨b + 1, (n0, d0), by omega, by omega, by go_num, rfl, rfl, by simp; omega, by simp; omega, HR.out, HX.out⟩
      · have e : rfF s p gk b (n0, d0) = (n0, d0) := by cases gk <;> simp [rfF] <;> omega
        rw [e] at hR
        subst hR
        have h1 : (b : Int) ≤ (p : Int) := by omega
        have h2 : (32768 : Int) < (b : Int) := by omega
        by_cases h3 : n0 < 3
        · have h3' : (n0 : Int) < 3 := by omega
          clear e
          go_wp2_with fail
          exact bodyPost_ret (results_tmp2 rfl _ _ _) rfl ⟨by simp, HX.out⟩
        · have h3' : (3 : Int) ≤ (n0 : Int) := by omega
          clear e
          go_wp2_with fail
          exact bodyPost_ret (results_tmp2 rfl _ _ _) rfl ⟨by simp, HX.out⟩
    · have e : rfF s p gk b (n0, d0) = (n0, d0) := by cases gk <;> simp [rfF] <;> omega
      rw [e] at hR
      subst hR
      have h1 : (p : Int) < (b : Int) := by omega
      by_cases h3 : n0 < 3
      · have h3' : (n0 : Int) < 3 := by omega
        clear e
        go_wp2_with fail
        exact bodyPost_ret (results_tmp2 rfl _ _ _) rfl ⟨by simp, HX.out⟩
      · have h3' : (3 : Int) ≤ (n0 : Int) := by omega
        clear e
        go_wp2_with fail
        exact bodyPost_ret (results_tmp2 rfl _ _ _) rfl ⟨by simp, HX.out⟩
end Go.Proofs.Ytapcfffmgdpmcaa.Mt
