/-
  inflate: the document's coded walked.
-/
import Derived.Test.YtgjenpdppobpkaaIpE
namespace Go.Proofs.Ytgjenpdppobpkaa.If
open Go.RowKit Bt Hu

theorem dput_p (B b : Nat) (t : St) : (dput B b t).p = t.p := by
  unfold dput
  split
  · rfl
  · split <;> rfl
theorem dput_len (B b : Nat) (t : St) : t.out.length ≤ (dput B b t).out.length := by
  unfold dput
  split
  · exact Nat.le_refl _
  · split
    · exact Nat.le_refl _
    · simp only [List.length_append]; omega
theorem dget_p (s : ByteArray) (n : Nat) (t : St) : t.p ≤ (dget s n t).2.p ∧ (dget s n t).2.out = t.out := by
  unfold dget
  split
  · exact ⟨Nat.le_refl _, rfl⟩
  · split
    · exact ⟨by simp, rfl⟩
    · exact ⟨Nat.le_refl _, rfl⟩
theorem dsym_p (s : ByteArray) (D : List Int) (t : St) (hp : t.p ≤ 8 * s.size) : t.p ≤ (dsym s D t).2.p ∧ (dsym s D t).2.out = t.out ∧ ((dsym s D t).2.e = 0 → t.p < (dsym s D t).2.p) := by
  unfold dsym
  by_cases h0 : t.e ≠ 0
  · rw [if_pos h0]
    exact ⟨Nat.le_refl _, rfl, fun h => absurd h h0⟩
  · rw [if_neg h0]
    simp only
    rw [read_doc]
    exact ⟨(rdD_place D (bit s false) (8 * s.size) 15 1 0 t.p hp).1, trivial, fun h => (rdD_ok D (bit s false) (8 * s.size) 15 1 0 t.p (by omega) h).1⟩
section
variable {w0 w : World} {ub rb : Nat} {Fr' : List Nat} {s : ByteArray} {B : Nat} {t : St} {L : List Ob}
set_option maxRecDepth 100000 in
set_option maxHeartbeats 4000000 in
theorem d_coded_dead (v1 v2 : Value) (h0 : t.e ≠ 0) (S : DS w0 w ub rb Fr' s B t L) :
    Calls Try.prog 41 #[.pointer (some ⟨ub, 0, none⟩), v1, v2] w fun e w' => e = .returned (.tuple #[]) ∧ DS w0 w' ub rb Fr' s B t L := by
  obtain ⟨ao, cap, _, _, _, c3, _⟩ := S.cells
  have HS := Lib.hid S
  have hb : (t.e == 0) = false := beq_eq_false_iff_ne.2 h0
  clear S
  generalize t.e = te at *
  clear h0
  go_enter Try.func41, Try.ntmps41
  go_wp2_with fail
  go_loopg [6] 1 (fun g _ wr => DS w0 wr ub rb Fr' s B t L ∧ w = wr)
  case atStart => exact ⟨HS.out, rfl⟩
  case round =>
    obtain ⟨S, rfl⟩ := hrel
    clear S
    go_wp2_with fail
    go_end0
    exact ⟨rfl, HS.out⟩
set_option maxRecDepth 100000 in
set_option maxHeartbeats 32000000 in
theorem d_coded (i1 i2 : Nat) {tb1 tb2 : Nat} {Ft1 Ft2 : List Nat} {D1 D2 : List Int} (hT1 : L[i1]? = some (oDT tb1 Ft1 D1)) (hT2 : L[i2]? = some (oDT tb2 Ft2 D2)) (hD1 : D1.length ≤ 288) (hD2 : D2.length ≤ 288) (hs : s.size ≤ 1048576) (hB : B ≤ 1099511627776) (S : DS w0 w ub rb Fr' s B t L) :
    Calls Try.prog 41 #[.pointer (some ⟨ub, 0, none⟩), .pointer (some ⟨tb1, 0, none⟩), .pointer (some ⟨tb2, 0, none⟩)] w fun e w' => e = .returned (.tuple #[]) ∧ DS w0 w' ub rb Fr' s B (dcoded s B D1 D2 t) L := by
  have hp := S.1
  have HS := Lib.hid S
  have HT := Lib.hid (⟨hT1, hT2⟩ : _ ∧ _)
  obtain ⟨R, hR⟩ : ∃ R, dcoded s B D1 D2 t = R := ⟨_, rfl⟩
  rw [hR]
  unfold dcoded at hR
  have HR := Lib.hid hR
  clear S hT1 hT2 hR
  go_enter Try.func41, Try.ntmps41
  go_wp2_with fail
  go_loopg [6] (8 * s.size - t.p + 1) (fun g _ wr => ∃ t : St, (t.e = 0 → 8 * s.size < t.p + g) ∧ dcodedF s B D1 D2 g t = R ∧ DS w0 wr ub rb Fr' s B t L)
  case atStart => exact ⟨t, fun _ => by omega, HR.out, HS.out⟩
  case round =>
    clear HS HR hp
    obtain ⟨t, hg, hR, S⟩ := hrel
    have hp := S.1
    obtain ⟨ao, cap, _, _, _, c3, _⟩ := S.cells
    have HS := Lib.hid S
    clear S
    by_cases h0 : t.e = 0
    · obtain ⟨g, rfl⟩ : ∃ g, gk = g + 1 := ⟨gk - 1, by have := hg h0; omega⟩
      have hg := hg h0
      rw [dcodedF, if_neg (fun h => h h0)] at hR
      rw [h0] at c3
      have HR := Lib.hid hR
      clear hR
      go_wp2_with fail
      refine (d_sym i1 HT.out.1 hD1 hs HS.out).mono ?_
      rintro e w1 ⟨rfl, S⟩
      have HS := Lib.hid S
      have hx9 := dsym_lt (s := s) D1 t
      have hpp := dsym_p s D1 t hp
      have hR := HR.out
      clear S HR c3
      generalize dsym s D1 t = Y at *
      obtain ⟨x, t1⟩ := Y
      simp only at HS hx9 hpp hR ⊢
      unfold dcodX at hR
      have hx8 : x < 288 := by omega
      have hp1 := HS.out.1
      obtain ⟨ao, cap, _, _, _, c3, _⟩ := HS.out.cells
      by_cases he : t1.e = 0
      · have hg1 : 8 * s.size < t1.p + g := by have := hpp.2.2 he; omega
        rw [he] at c3
        clear hpp hx9
        by_cases q0 : x = 256
        · subst q0
          rw [if_pos (.inr rfl)] at hR
          subst hR
          go_wp2_with fail
          first | go_end0 | refine bodyPost_ret (results_none rfl _ _ _) rfl ?_
          exact ⟨rfl, HS.out⟩
        · rw [if_neg (by omega)] at hR
          have j0 : (x == 256) = false := beq_eq_false_iff_ne.2 q0
          have j0' : ((x : Int) == 256) = false := beq_eq_false_iff_ne.2 (by omega)
          by_cases q1 : x < 256
          · rw [if_pos q1] at hR
            have q1' : (x : Int) < 256 := by omega
            have HR := Lib.hid hR
            have hpu := dput_p B x t1
            clear hR
            go_wp2_with fail
            refine (d_put x hB HS.out).mono ?_
            rintro e w2 ⟨rfl, S⟩
            have HS := Lib.hid S
            clear S j0 j0' c3
            go_wp2_with fail
            go_roundg g
            case measure => omega
            case rel => exact ⟨_, fun _ => by omega, HR.out, HS.out⟩
          · rw [if_neg q1] at hR
            have q1' : ¬ (x : Int) < 256 := by omega
            by_cases q2 : 285 < x
            · rw [if_pos q2] at hR
              have q2' : (285 : Int) < (x : Int) := by omega
              have HR := Lib.hid hR
              clear hR
              go_wp2_with fail
              refine (d_fail 4 HS.out).mono ?_
              rintro e w2 ⟨rfl, S⟩
              rw [HR.out] at S
              have HS := Lib.hid S
              clear S j0 j0' c3
              go_wp2_with fail
              first | go_end0 | refine bodyPost_ret (results_none rfl _ _ _) rfl ?_
              exact ⟨rfl, HS.out⟩
            · rw [if_neg q2] at hR
              have q2' : ¬ (285 : Int) < (x : Int) := by omega
              unfold dag at hR
              have ht := len_table x (by omega)
              have HLW := Lib.hid (fun w => (by have := dlength_walk (x : Int) w; rw [(lenBZ_at x (by omega) (by omega)).1, (lenBZ_at x (by omega) (by omega)).2] at this; exact this : Calls Try.prog 21 #[.int .i64 (x : Int)] w fun e w' => e = .returned (.tuple #[.int .i64 (lenB x), .int .i64 (lenX x)]) ∧ w = w'))
              generalize lenB x = bB at *
              generalize lenX x = bX at *
              have hbB := ht.2
              have hbX := ht.1
              have HR := Lib.hid hR
              clear ht hR
              go_wp2_with fail
              refine (HLW.out _).mono ?_
              clear HLW
              rintro e w2 ⟨rfl, rfl⟩
              clear j0 j0' c3
              go_wp2_with fail
              refine (d_get bX (by omega) hs HS.out).mono ?_
              rintro e w2 ⟨rfl, S⟩
              have HS := Lib.hid S
              have hu := dget_lt (s := s) bX (by omega) t1
              have hpp := dget_p s bX t1
              have hR := HR.out
              clear S HR
              generalize dget s bX t1 = Y at *
              obtain ⟨u, t2⟩ := Y
              simp only at HS hu hpp hR ⊢
              have hp2 := HS.out.1
              unfold dagA at hR
              obtain ⟨n, hn⟩ : ∃ n, bB + u = n := ⟨_, rfl⟩
              have hni : (bB : Int) + (u : Int) = (n : Int) := by omega
              have hn9 : n < 100000 := by omega
              rw [hn] at hR
              have HR := Lib.hid hR
              clear hR hn
              go_wp2_with fail
              refine (d_sym i2 HT.out.2 hD2 hs HS.out).mono ?_
              rintro e w3 ⟨rfl, S⟩
              have HS := Lib.hid S
              have hd9 := dsym_lt (s := s) D2 t2
              have hdz := dsym_zero (s := s) D2 t2
              have hpq := dsym_p s D2 t2 hp2
              have hR := HR.out
              clear S HR hni
              generalize dsym s D2 t2 = Y at *
              obtain ⟨d, t3⟩ := Y
              simp only at HS hd9 hdz hpq hR ⊢
              unfold dagB at hR
              have hd8 : d < 288 := by omega
              have hp3 := HS.out.1
              have hg3 : 8 * s.size < t3.p + g := by omega
              clear hd9 hpp hpq
              obtain ⟨ao, cap, _, _, _, c3, _⟩ := HS.out.cells
              by_cases he3 : t3.e = 0
              · rw [he3] at c3
                clear hdz
                by_cases hd : 29 < d
                · rw [if_pos ⟨he3, hd⟩, dcodedF_dead (by unfold dfail; rw [if_pos he3]; simp)] at hR
                  have hd' : (29 : Int) < (d : Int) := by omega
                  have HR := Lib.hid hR
                  clear hR
                  go_wp2_with fail
                  refine (d_fail 4 HS.out).mono ?_
                  rintro e w4 ⟨rfl, S⟩
                  rw [HR.out] at S
                  have HS := Lib.hid S
                  clear S c3
                  go_wp2_with fail
                  first | go_end0 | refine bodyPost_ret (results_none rfl _ _ _) rfl ?_
                  exact ⟨rfl, HS.out⟩
                · rw [if_neg (fun h => hd h.2)] at hR
                  have hd' : ¬ (29 : Int) < (d : Int) := by omega
                  clear he3
                  have ht := dst_table d (by omega)
                  have HDW := Lib.hid (fun w => (by have := ddistance_walk (d : Int) w; rw [(dstBZ_at d (by omega)).1, (dstBZ_at d (by omega)).2] at this; exact this : Calls Try.prog 22 #[.int .i64 (d : Int)] w fun e w' => e = .returned (.tuple #[.int .i64 (dstB d), .int .i64 (dstX d)]) ∧ w = w'))
                  unfold dagC at hR
                  generalize dstB d = dB at *
                  generalize dstX d = dX at *
                  have hdX := ht.1
                  have hdB := ht.2.1
                  have hdB1 := ht.2.2
                  have HR := Lib.hid hR
                  clear ht hR
                  go_wp2_with fail
                  refine (HDW.out _).mono ?_
                  clear HDW
                  rintro e w4 ⟨rfl, rfl⟩
                  clear c3
                  go_wp2_with fail
                  refine (d_get dX (by omega) hs HS.out).mono ?_
                  rintro e w5 ⟨rfl, S⟩
                  have HS := Lib.hid S
                  have hv := dget_lt (s := s) dX (by omega) t3
                  have hpp := dget_p s dX t3
                  have hR := HR.out
                  clear S HR
                  generalize dget s dX t3 = Y at *
                  obtain ⟨v, t4⟩ := Y
                  simp only at HS hv hpp hR ⊢
                  have hg4 : 8 * s.size < t4.p + g := by omega
                  obtain ⟨back, hback⟩ : ∃ back, dB + v = back := ⟨_, rfl⟩
                  have hbi : (dB : Int) + (v : Int) = (back : Int) := by omega
                  have hb1 : 1 ≤ back := by omega
                  have hb9 : back < 100000 := by omega
                  rw [hback] at hR
                  clear hback hpp
                  obtain ⟨ao, cap, _, c1, _, c3, _⟩ := HS.out.cells
                  by_cases he4 : t4.e = 0
                  · rw [he4] at c3
                    by_cases hbo : t4.out.length < back
                    · rw [if_pos ⟨he4, hbo⟩, dcodedF_dead (by unfold dfail; rw [if_pos he4]; simp)] at hR
                      have hbo' : (t4.out.length : Int) < (back : Int) := by omega
                      have HR := Lib.hid hR
                      clear hR he4
                      go_wp2_with fail
                      refine (d_fail 4 HS.out).mono ?_
                      rintro e w6 ⟨rfl, S⟩
                      rw [HR.out] at S
                      have HS := Lib.hid S
                      clear S c1 c3
                      go_wp2_with fail
                      first | go_end0 | refine bodyPost_ret (results_none rfl _ _ _) rfl ?_
                      exact ⟨rfl, HS.out⟩
                    · rw [if_neg (fun h => hbo h.2)] at hR
                      have hbo' : ¬ (t4.out.length : Int) < (back : Int) := by omega
                      have HR := Lib.hid (⟨hR, fun (_ : t4.e = 0) => (show back ≤ t4.out.length by omega)⟩ : _ ∧ _)
                      clear hR he4 hbo
                      go_wp2_with fail
                      clear c1 c3 hbo' hbi
                      obtain ⟨G, hG⟩ : ∃ G, g = G := ⟨_, rfl⟩
                      subst hG
                      go_loopg [12] n (fun g2 iv wr2 => ∃ (k : Nat) (t : St), g2 + k = n ∧ iv = .int .i64 k ∧ (t.e = 0 → back ≤ t.out.length) ∧ 8 * s.size < t.p + g ∧ dcodedF s B D1 D2 g (dcopyL B back g2 t) = R ∧ DS w0 wr2 ub rb Fr' s B t L)
                      case atStart => exact ⟨0, _, by omega, by go_num, HR.out.2, hg4, HR.out.1, HS.out⟩
                      case round =>
                        clear HS HR hg4
                        obtain ⟨k, t, hk, rfl, hbo, hg5, hR, S⟩ := hrel
                        obtain ⟨ao, cap, _, c1, _, c3, _, _, hrow⟩ := S.cells
                        have HS := Lib.hid S
                        clear S
                        cases gk with
                        | zero =>
                          obtain rfl : k = n := by omega
                          rw [dcopyL] at hR
                          have HR := Lib.hid hR
                          clear hR hrow c1 c3
                          go_wp2_with fail
                          go_roundg g
                          case measure => omega
                          case rel => exact ⟨t, fun _ => hg5, HR.out, HS.out⟩
                        | succ g2 =>
                          have hkn : (k : Int) < (n : Int) := by omega
                          by_cases h7 : t.e = 0
                          · rw [dcopyL, if_neg (fun h => h h7)] at hR
                            rw [h7] at c3
                            have hbo := hbo h7
                            obtain ⟨gb, cap2, hgb⟩ := own_at hrow (by omega)
                            injection hgb with e1 _ e3
                            subst e1 e3
                            obtain ⟨idx, hidx⟩ : ∃ idx, t.out.length - back = idx := ⟨_, rfl⟩
                            rw [hidx] at hR
                            have hix : (t.out.length : Int) - (back : Int) = (idx : Int) := by omega
                            have hio : (idx : Int) < (t.out.length : Int) := by omega
                            obtain ⟨b, hb⟩ : ∃ b, t.out[idx]? = some b := ⟨_, List.getElem?_eq_getElem (by omega)⟩
                            rw [List.getD_eq_getElem?_getD, hb, Option.getD_some] at hR
                            have c2 : wr.cell? ⟨gb, idx, none⟩ = some (b8 b) := ownsRow_at hrow (by rw [List.getElem?_map, hb]; rfl)
                            have d1 : ∀ x : Ex wr, x.w.cell? ⟨ub, 1, none⟩ = some (.slice (some ⟨gb, 0, none⟩) t.out.length cap) := fun x => x.cell c1
                            have d2 : ∀ x : Ex wr, x.w.cell? ⟨gb, idx, none⟩ = some (.int .u8 (b : Int)) := fun x => x.cell c2
                            have hl9 : t.out.length ≤ 9223372036854775807 := by
                              obtain ⟨cur, _, h1, h2, _⟩ := ownsRow_open hrow
                              unfold maxLen at h2
                              omega
                            have j3 : IntKind.i64.wrap ((t.out.length : Int) - (back : Int)) = (idx : Int) := by rw [hix]; exact IntWalk.i64_in _ (by omega)
                            have hlen := dput_len B b t
                            have hpu := dput_p B b t
                            have HR := Lib.hid hR
                            clear c1 c2 hrow hb hidx hR h7
                            go_wp2_with fail
                            refine wp_region_quiet_tail (C := fun w' => ∃ x : Ex wr, w' = x.w) 14 (by kernel_rfl) (by kernel_rfl) ⟨Ex.mk _ ((Ext.refl [] wr).drew), rfl⟩ ?_
                            simp only [List.take_succ_cons, List.take_zero, List.drop_succ_cons, List.drop_zero]
                            repeat (go_big_quiet_step (fail))
                            refine wpQuiet_nil ?_
                            rintro _ ⟨x, rfl⟩
                            clear d1 d2 j3 c3
                            have HS := Lib.hid (HS.out.quiet x.ext)
                            go_wp2_with fail
                            refine (d_put b hB HS.out).mono ?_
                            rintro e w7 ⟨rfl, S⟩
                            go_wp2_with fail
                            go_roundg g2
                            case measure => omega
                            case rel => exact ⟨k + 1, _, by omega, by go_num, fun _ => by omega, by omega, HR.out, S⟩
                          · rw [dcopyL_dead h7] at hR
                            have j7 : (t.e == 0) = false := beq_eq_false_iff_ne.2 h7
                            have HR := Lib.hid hR
                            generalize hte7 : t.e = te7 at c3 j7
                            clear hR hrow c1 h7 hbo hte7
                            go_wp2_with fail
                            go_roundg g
                            case measure => omega
                            case rel => exact ⟨t, fun _ => hg5, HR.out, HS.out⟩
                  · rw [if_neg (fun h => he4 h.1)] at hR
                    have j4 : (t4.e == 0) = false := beq_eq_false_iff_ne.2 he4
                    have HR := Lib.hid (⟨hR, fun (h : t4.e = 0) => (absurd h he4 : back ≤ t4.out.length)⟩ : _ ∧ _)
                    generalize hte9 : t4.e = te9 at c3 j4
                    clear hR he4
                    go_wp2_with fail
                    clear c1 c3 j4 hbi
                    obtain ⟨G, hG⟩ : ∃ G, g = G := ⟨_, rfl⟩
                    subst hG
                    go_loopg [12] n (fun g2 iv wr2 => ∃ (k : Nat) (t : St), g2 + k = n ∧ iv = .int .i64 k ∧ (t.e = 0 → back ≤ t.out.length) ∧ 8 * s.size < t.p + g ∧ dcodedF s B D1 D2 g (dcopyL B back g2 t) = R ∧ DS w0 wr2 ub rb Fr' s B t L)
                    case atStart => exact ⟨0, _, by omega, by go_num, HR.out.2, hg4, HR.out.1, HS.out⟩
                    case round =>
                      clear HS HR hg4
                      obtain ⟨k, t, hk, rfl, hbo, hg5, hR, S⟩ := hrel
                      obtain ⟨ao, cap, _, c1, _, c3, _, _, hrow⟩ := S.cells
                      have HS := Lib.hid S
                      clear S
                      cases gk with
                      | zero =>
                        obtain rfl : k = n := by omega
                        rw [dcopyL] at hR
                        have HR := Lib.hid hR
                        clear hR hrow c1 c3
                        go_wp2_with fail
                        go_roundg g
                        case measure => omega
                        case rel => exact ⟨t, fun _ => hg5, HR.out, HS.out⟩
                      | succ g2 =>
                        have hkn : (k : Int) < (n : Int) := by omega
                        by_cases h7 : t.e = 0
                        · rw [dcopyL, if_neg (fun h => h h7)] at hR
                          rw [h7] at c3
                          have hbo := hbo h7
                          obtain ⟨gb, cap2, hgb⟩ := own_at hrow (by omega)
                          injection hgb with e1 _ e3
                          subst e1 e3
                          obtain ⟨idx, hidx⟩ : ∃ idx, t.out.length - back = idx := ⟨_, rfl⟩
                          rw [hidx] at hR
                          have hix : (t.out.length : Int) - (back : Int) = (idx : Int) := by omega
                          have hio : (idx : Int) < (t.out.length : Int) := by omega
                          obtain ⟨b, hb⟩ : ∃ b, t.out[idx]? = some b := ⟨_, List.getElem?_eq_getElem (by omega)⟩
                          rw [List.getD_eq_getElem?_getD, hb, Option.getD_some] at hR
                          have c2 : wr.cell? ⟨gb, idx, none⟩ = some (b8 b) := ownsRow_at hrow (by rw [List.getElem?_map, hb]; rfl)
                          have d1 : ∀ x : Ex wr, x.w.cell? ⟨ub, 1, none⟩ = some (.slice (some ⟨gb, 0, none⟩) t.out.length cap) := fun x => x.cell c1
                          have d2 : ∀ x : Ex wr, x.w.cell? ⟨gb, idx, none⟩ = some (.int .u8 (b : Int)) := fun x => x.cell c2
                          have hl9 : t.out.length ≤ 9223372036854775807 := by
                            obtain ⟨cur, _, h1, h2, _⟩ := ownsRow_open hrow
                            unfold maxLen at h2
                            omega
                          have j3 : IntKind.i64.wrap ((t.out.length : Int) - (back : Int)) = (idx : Int) := by rw [hix]; exact IntWalk.i64_in _ (by omega)
                          have hlen := dput_len B b t
                          have hpu := dput_p B b t
                          have HR := Lib.hid hR
                          clear c1 c2 hrow hb hidx hR h7
                          go_wp2_with fail
                          refine wp_region_quiet_tail (C := fun w' => ∃ x : Ex wr, w' = x.w) 14 (by kernel_rfl) (by kernel_rfl) ⟨Ex.mk _ ((Ext.refl [] wr).drew), rfl⟩ ?_
                          simp only [List.take_succ_cons, List.take_zero, List.drop_succ_cons, List.drop_zero]
                          repeat (go_big_quiet_step (fail))
                          refine wpQuiet_nil ?_
                          rintro _ ⟨x, rfl⟩
                          clear d1 d2 j3 c3
                          have HS := Lib.hid (HS.out.quiet x.ext)
                          go_wp2_with fail
                          refine (d_put b hB HS.out).mono ?_
                          rintro e w7 ⟨rfl, S⟩
                          go_wp2_with fail
                          go_roundg g2
                          case measure => omega
                          case rel => exact ⟨k + 1, _, by omega, by go_num, fun _ => by omega, by omega, HR.out, S⟩
                        · rw [dcopyL_dead h7] at hR
                          have j7 : (t.e == 0) = false := beq_eq_false_iff_ne.2 h7
                          have HR := Lib.hid hR
                          generalize hte7 : t.e = te7 at c3 j7
                          clear hR hrow c1 h7 hbo hte7
                          go_wp2_with fail
                          go_roundg g
                          case measure => omega
                          case rel => exact ⟨t, fun _ => hg5, HR.out, HS.out⟩
              · have j3 : (t3.e == 0) = false := beq_eq_false_iff_ne.2 he3
                have hd0 := hdz he3
                rw [if_neg (fun h => he3 h.1)] at hR
                have hd : ¬ 29 < d := by omega
                have hd' : ¬ (29 : Int) < (d : Int) := by omega
                generalize hte : t3.e = te at c3 j3
                clear hdz he3 hd0
                have ht := dst_table d (by omega)
                have HDW := Lib.hid (fun w => (by have := ddistance_walk (d : Int) w; rw [(dstBZ_at d (by omega)).1, (dstBZ_at d (by omega)).2] at this; exact this : Calls Try.prog 22 #[.int .i64 (d : Int)] w fun e w' => e = .returned (.tuple #[.int .i64 (dstB d), .int .i64 (dstX d)]) ∧ w = w'))
                unfold dagC at hR
                generalize dstB d = dB at *
                generalize dstX d = dX at *
                have hdX := ht.1
                have hdB := ht.2.1
                have hdB1 := ht.2.2
                have HR := Lib.hid hR
                clear ht hR
                go_wp2_with fail
                refine (HDW.out _).mono ?_
                clear HDW
                rintro e w4 ⟨rfl, rfl⟩
                clear j3 c3
                go_wp2_with fail
                refine (d_get dX (by omega) hs HS.out).mono ?_
                rintro e w5 ⟨rfl, S⟩
                have HS := Lib.hid S
                have hv := dget_lt (s := s) dX (by omega) t3
                have hpp := dget_p s dX t3
                have hR := HR.out
                clear S HR
                generalize dget s dX t3 = Y at *
                obtain ⟨v, t4⟩ := Y
                simp only at HS hv hpp hR ⊢
                have hg4 : 8 * s.size < t4.p + g := by omega
                obtain ⟨back, hback⟩ : ∃ back, dB + v = back := ⟨_, rfl⟩
                have hbi : (dB : Int) + (v : Int) = (back : Int) := by omega
                have hb1 : 1 ≤ back := by omega
                have hb9 : back < 100000 := by omega
                rw [hback] at hR
                clear hback hpp
                obtain ⟨ao, cap, _, c1, _, c3, _⟩ := HS.out.cells
                by_cases he4 : t4.e = 0
                · rw [he4] at c3
                  by_cases hbo : t4.out.length < back
                  · rw [if_pos ⟨he4, hbo⟩, dcodedF_dead (by unfold dfail; rw [if_pos he4]; simp)] at hR
                    have hbo' : (t4.out.length : Int) < (back : Int) := by omega
                    have HR := Lib.hid hR
                    clear hR he4
                    go_wp2_with fail
                    refine (d_fail 4 HS.out).mono ?_
                    rintro e w6 ⟨rfl, S⟩
                    rw [HR.out] at S
                    have HS := Lib.hid S
                    clear S c1 c3
                    go_wp2_with fail
                    first | go_end0 | refine bodyPost_ret (results_none rfl _ _ _) rfl ?_
                    exact ⟨rfl, HS.out⟩
                  · rw [if_neg (fun h => hbo h.2)] at hR
                    have hbo' : ¬ (t4.out.length : Int) < (back : Int) := by omega
                    have HR := Lib.hid (⟨hR, fun (_ : t4.e = 0) => (show back ≤ t4.out.length by omega)⟩ : _ ∧ _)
                    clear hR he4 hbo
                    go_wp2_with fail
                    clear c1 c3 hbo' hbi
                    obtain ⟨G, hG⟩ : ∃ G, g = G := ⟨_, rfl⟩
                    subst hG
                    go_loopg [12] n (fun g2 iv wr2 => ∃ (k : Nat) (t : St), g2 + k = n ∧ iv = .int .i64 k ∧ (t.e = 0 → back ≤ t.out.length) ∧ 8 * s.size < t.p + g ∧ dcodedF s B D1 D2 g (dcopyL B back g2 t) = R ∧ DS w0 wr2 ub rb Fr' s B t L)
                    case atStart => exact ⟨0, _, by omega, by go_num, HR.out.2, hg4, HR.out.1, HS.out⟩
                    case round =>
                      clear HS HR hg4
                      obtain ⟨k, t, hk, rfl, hbo, hg5, hR, S⟩ := hrel
                      obtain ⟨ao, cap, _, c1, _, c3, _, _, hrow⟩ := S.cells
                      have HS := Lib.hid S
                      clear S
                      cases gk with
                      | zero =>
                        obtain rfl : k = n := by omega
                        rw [dcopyL] at hR
                        have HR := Lib.hid hR
                        clear hR hrow c1 c3
                        go_wp2_with fail
                        go_roundg g
                        case measure => omega
                        case rel => exact ⟨t, fun _ => hg5, HR.out, HS.out⟩
                      | succ g2 =>
                        have hkn : (k : Int) < (n : Int) := by omega
                        by_cases h7 : t.e = 0
                        · rw [dcopyL, if_neg (fun h => h h7)] at hR
                          rw [h7] at c3
                          have hbo := hbo h7
                          obtain ⟨gb, cap2, hgb⟩ := own_at hrow (by omega)
                          injection hgb with e1 _ e3
                          subst e1 e3
                          obtain ⟨idx, hidx⟩ : ∃ idx, t.out.length - back = idx := ⟨_, rfl⟩
                          rw [hidx] at hR
                          have hix : (t.out.length : Int) - (back : Int) = (idx : Int) := by omega
                          have hio : (idx : Int) < (t.out.length : Int) := by omega
                          obtain ⟨b, hb⟩ : ∃ b, t.out[idx]? = some b := ⟨_, List.getElem?_eq_getElem (by omega)⟩
                          rw [List.getD_eq_getElem?_getD, hb, Option.getD_some] at hR
                          have c2 : wr.cell? ⟨gb, idx, none⟩ = some (b8 b) := ownsRow_at hrow (by rw [List.getElem?_map, hb]; rfl)
                          have d1 : ∀ x : Ex wr, x.w.cell? ⟨ub, 1, none⟩ = some (.slice (some ⟨gb, 0, none⟩) t.out.length cap) := fun x => x.cell c1
                          have d2 : ∀ x : Ex wr, x.w.cell? ⟨gb, idx, none⟩ = some (.int .u8 (b : Int)) := fun x => x.cell c2
                          have hl9 : t.out.length ≤ 9223372036854775807 := by
                            obtain ⟨cur, _, h1, h2, _⟩ := ownsRow_open hrow
                            unfold maxLen at h2
                            omega
                          have j3 : IntKind.i64.wrap ((t.out.length : Int) - (back : Int)) = (idx : Int) := by rw [hix]; exact IntWalk.i64_in _ (by omega)
                          have hlen := dput_len B b t
                          have hpu := dput_p B b t
                          have HR := Lib.hid hR
                          clear c1 c2 hrow hb hidx hR h7
                          go_wp2_with fail
                          refine wp_region_quiet_tail (C := fun w' => ∃ x : Ex wr, w' = x.w) 14 (by kernel_rfl) (by kernel_rfl) ⟨Ex.mk _ ((Ext.refl [] wr).drew), rfl⟩ ?_
                          simp only [List.take_succ_cons, List.take_zero, List.drop_succ_cons, List.drop_zero]
                          repeat (go_big_quiet_step (fail))
                          refine wpQuiet_nil ?_
                          rintro _ ⟨x, rfl⟩
                          clear d1 d2 j3 c3
                          have HS := Lib.hid (HS.out.quiet x.ext)
                          go_wp2_with fail
                          refine (d_put b hB HS.out).mono ?_
                          rintro e w7 ⟨rfl, S⟩
                          go_wp2_with fail
                          go_roundg g2
                          case measure => omega
                          case rel => exact ⟨k + 1, _, by omega, by go_num, fun _ => by omega, by omega, HR.out, S⟩
                        · rw [dcopyL_dead h7] at hR
                          have j7 : (t.e == 0) = false := beq_eq_false_iff_ne.2 h7
                          have HR := Lib.hid hR
                          generalize hte7 : t.e = te7 at c3 j7
                          clear hR hrow c1 h7 hbo hte7
                          go_wp2_with fail
                          go_roundg g
                          case measure => omega
                          case rel => exact ⟨t, fun _ => hg5, HR.out, HS.out⟩
                · rw [if_neg (fun h => he4 h.1)] at hR
                  have j4 : (t4.e == 0) = false := beq_eq_false_iff_ne.2 he4
                  have HR := Lib.hid (⟨hR, fun (h : t4.e = 0) => (absurd h he4 : back ≤ t4.out.length)⟩ : _ ∧ _)
                  generalize hte9 : t4.e = te9 at c3 j4
                  clear hR he4
                  go_wp2_with fail
                  clear c1 c3 j4 hbi
                  obtain ⟨G, hG⟩ : ∃ G, g = G := ⟨_, rfl⟩
                  subst hG
                  go_loopg [12] n (fun g2 iv wr2 => ∃ (k : Nat) (t : St), g2 + k = n ∧ iv = .int .i64 k ∧ (t.e = 0 → back ≤ t.out.length) ∧ 8 * s.size < t.p + g ∧ dcodedF s B D1 D2 g (dcopyL B back g2 t) = R ∧ DS w0 wr2 ub rb Fr' s B t L)
                  case atStart => exact ⟨0, _, by omega, by go_num, HR.out.2, hg4, HR.out.1, HS.out⟩
                  case round =>
                    clear HS HR hg4
                    obtain ⟨k, t, hk, rfl, hbo, hg5, hR, S⟩ := hrel
                    obtain ⟨ao, cap, _, c1, _, c3, _, _, hrow⟩ := S.cells
                    have HS := Lib.hid S
                    clear S
                    cases gk with
                    | zero =>
                      obtain rfl : k = n := by omega
                      rw [dcopyL] at hR
                      have HR := Lib.hid hR
                      clear hR hrow c1 c3
                      go_wp2_with fail
                      go_roundg g
                      case measure => omega
                      case rel => exact ⟨t, fun _ => hg5, HR.out, HS.out⟩
                    | succ g2 =>
                      have hkn : (k : Int) < (n : Int) := by omega
                      by_cases h7 : t.e = 0
                      · rw [dcopyL, if_neg (fun h => h h7)] at hR
                        rw [h7] at c3
                        have hbo := hbo h7
                        obtain ⟨gb, cap2, hgb⟩ := own_at hrow (by omega)
                        injection hgb with e1 _ e3
                        subst e1 e3
                        obtain ⟨idx, hidx⟩ : ∃ idx, t.out.length - back = idx := ⟨_, rfl⟩
                        rw [hidx] at hR
                        have hix : (t.out.length : Int) - (back : Int) = (idx : Int) := by omega
                        have hio : (idx : Int) < (t.out.length : Int) := by omega
                        obtain ⟨b, hb⟩ : ∃ b, t.out[idx]? = some b := ⟨_, List.getElem?_eq_getElem (by omega)⟩
                        rw [List.getD_eq_getElem?_getD, hb, Option.getD_some] at hR
                        have c2 : wr.cell? ⟨gb, idx, none⟩ = some (b8 b) := ownsRow_at hrow (by rw [List.getElem?_map, hb]; rfl)
                        have d1 : ∀ x : Ex wr, x.w.cell? ⟨ub, 1, none⟩ = some (.slice (some ⟨gb, 0, none⟩) t.out.length cap) := fun x => x.cell c1
                        have d2 : ∀ x : Ex wr, x.w.cell? ⟨gb, idx, none⟩ = some (.int .u8 (b : Int)) := fun x => x.cell c2
                        have hl9 : t.out.length ≤ 9223372036854775807 := by
                          obtain ⟨cur, _, h1, h2, _⟩ := ownsRow_open hrow
                          unfold maxLen at h2
                          omega
                        have j3 : IntKind.i64.wrap ((t.out.length : Int) - (back : Int)) = (idx : Int) := by rw [hix]; exact IntWalk.i64_in _ (by omega)
                        have hlen := dput_len B b t
                        have hpu := dput_p B b t
                        have HR := Lib.hid hR
                        clear c1 c2 hrow hb hidx hR h7
                        go_wp2_with fail
                        refine wp_region_quiet_tail (C := fun w' => ∃ x : Ex wr, w' = x.w) 14 (by kernel_rfl) (by kernel_rfl) ⟨Ex.mk _ ((Ext.refl [] wr).drew), rfl⟩ ?_
                        simp only [List.take_succ_cons, List.take_zero, List.drop_succ_cons, List.drop_zero]
                        repeat (go_big_quiet_step (fail))
                        refine wpQuiet_nil ?_
                        rintro _ ⟨x, rfl⟩
                        clear d1 d2 j3 c3
                        have HS := Lib.hid (HS.out.quiet x.ext)
                        go_wp2_with fail
                        refine (d_put b hB HS.out).mono ?_
                        rintro e w7 ⟨rfl, S⟩
                        go_wp2_with fail
                        go_roundg g2
                        case measure => omega
                        case rel => exact ⟨k + 1, _, by omega, by go_num, fun _ => by omega, by omega, HR.out, S⟩
                      · rw [dcopyL_dead h7] at hR
                        have j7 : (t.e == 0) = false := beq_eq_false_iff_ne.2 h7
                        have HR := Lib.hid hR
                        generalize hte7 : t.e = te7 at c3 j7
                        clear hR hrow c1 h7 hbo hte7
                        go_wp2_with fail
                        go_roundg g
                        case measure => omega
                        case rel => exact ⟨t, fun _ => hg5, HR.out, HS.out⟩
      · rw [if_pos (.inl he)] at hR
        subst hR
        have j1 : (t1.e != 0) = true := bne_iff_ne.2 he
        generalize hte1 : t1.e = te1 at c3 j1
        clear he hpp
        go_wp2_with fail
        first | go_end0 | refine bodyPost_ret (results_none rfl _ _ _) rfl ?_
        exact ⟨rfl, HS.out⟩
    · have hb : (t.e == 0) = false := beq_eq_false_iff_ne.2 h0
      rw [dcodedF_dead h0] at hR
      subst hR
      generalize t.e = te at *
      clear h0
      go_wp2_with fail
      go_end0
      exact ⟨rfl, HS.out⟩
end
end Go.Proofs.Ytgjenpdppobpkaa.If
