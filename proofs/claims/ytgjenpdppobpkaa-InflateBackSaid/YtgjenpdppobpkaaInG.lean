/-
  inflate: again, coded walked.
-/
import Derived.Test.YtgjenpdppobpkaaInF
import Derived.IntWalk
namespace Go.Proofs.Ytgjenpdppobpkaa.If
open Go.RowKit Bt Hu

theorem len_table : ∀ x, x < 286 → lenX x ≤ 5 ∧ lenB x ≤ 258 := by decide +kernel
theorem dst_table : ∀ d, d < 30 → dstX d ≤ 13 ∧ dstB d ≤ 24577 ∧ 1 ≤ dstB d := by decide +kernel
theorem lenBZ_at (x : Nat) (h1 : 257 ≤ x) (h2 : x ≤ 285) : lenBZ (x : Int) = lenB x ∧ lenXZ (x : Int) = lenX x := by
  unfold lenBZ lenXZ
  rw [if_neg (by omega), if_neg (by omega), Int.toNat_natCast]
  exact ⟨rfl, rfl⟩
theorem dstBZ_at (x : Nat) (h2 : x ≤ 29) : dstBZ (x : Int) = dstB x ∧ dstXZ (x : Int) = dstX x := by
  unfold dstBZ dstXZ
  rw [if_neg (by omega), if_neg (by omega), Int.toNat_natCast]
  exact ⟨rfl, rfl⟩
section
variable {w0 w : World} {L : List Ob} {j ub rb : Nat} {F : List Nat} {s : ByteArray} {B p : Nat} {out : List Nat}
set_option maxRecDepth 100000 in
set_option maxHeartbeats 8000000 in
theorem a_again (i : Nat) {tb : Nat} {Ft : List Nat} {D : List Int} (x : Nat) (hx1 : 257 ≤ x) (hx2 : x ≤ 285) (hij : i ≠ j) (hj : j < L.length) (hT : L[i]? = some (oTab tb Ft D)) (S : Sep w0 w (L.set j (oRun ub rb F s B p out))) (hD : D.length ≤ 288) (hs : s.size ≤ 1048576) (hp : p ≤ 8 * s.size) (hB : B ≤ 1099511627776) :
    Calls Try.prog 82 #[.pointer (some ⟨ub, 0, none⟩), .int .i64 x, .pointer (some ⟨tb, 0, none⟩)] w (Pst w0 L j ub rb s B unit9 (againR s B x D p out)) := by
  have HS := Lib.hid S
  have HT := Lib.hid hT
  obtain ⟨R, hR⟩ : ∃ R, againR s B x D p out = R := ⟨_, rfl⟩
  rw [hR]
  unfold againR at hR
  have ht := len_table x (by omega)
  have HLW := Lib.hid (by have := length_walk (x : Int) w; rw [(lenBZ_at x hx1 hx2).1, (lenBZ_at x hx1 hx2).2] at this; exact this : Calls Try.prog 15 #[.int .i64 (x : Int)] w fun e w' => e = .returned (.tuple #[.int .i64 (lenB x), .int .i64 (lenX x)]) ∧ w = w')
  generalize lenB x = bB at *
  generalize lenX x = bX at *
  have hbB := ht.2
  have hbX := ht.1
  clear S hT ht
  cases h1 : getR s bX p out with
  | er e1 o1 =>
    rw [h1, Rs.bind_er] at hR
    have HH := Lib.hid (⟨h1, hR⟩ : _ ∧ _)
    clear h1 hR
    go_enter Try.func82, Try.ntmps82
    go_wp2_with fail
    refine HLW.out.mono ?_
    clear HLW
    rintro e w1 ⟨rfl, rfl⟩
    go_wp2_with fail
    refine (a_get bX hj HS.out hs hp (by omega)).mono ?_
    rw [HH.out.1]
    rintro e w2 ⟨rfl, F', p', S⟩
    go_wp2_with fail
    exact ⟨rfl, Pst.er HH.out.2.symm rfl F' S⟩
  | ok u p2 o2 =>
    obtain ⟨hu, rfl, rfl, hp2⟩ := getR_ok h1
    have hu5 : u < 65536 := by rw [hu]; exact getv8 s p bX (by omega)
    rw [h1, Rs.bind_ok] at hR
    have HH := Lib.hid h1
    have HR := Lib.hid hR
    clear h1 hR hu
    go_enter Try.func82, Try.ntmps82
    go_wp2_with fail
    refine HLW.out.mono ?_
    clear HLW
    rintro e w1 ⟨rfl, rfl⟩
    go_wp2_with fail
    refine (a_get bX hj HS.out hs hp (by omega)).mono ?_
    rw [HH.out]
    rintro e w2 ⟨rfl, F2, S⟩
    rw [izN_eq]
    have HS := Lib.hid S
    have hR := HR.out
    clear S HR HH
    cases h1 : symR s D (p + bX) o2 with
    | er e1 o1 =>
      rw [h1, Rs.bind_er] at hR
      have HH := Lib.hid (⟨h1, hR⟩ : _ ∧ _)
      clear h1 hR
      go_wp2_with fail
      refine (a_sym i hij hj HT.out HS.out hD hs hp2).mono ?_
      rw [HH.out.1]
      rintro e w3 ⟨rfl, F3, p', S⟩
      go_wp2_with fail
      exact ⟨rfl, Pst.er HH.out.2.symm rfl F3 S⟩
    | ok d p3 o3 =>
      obtain ⟨hp3, hp4, hd288, rfl⟩ := symR_ok h1
      rw [h1, Rs.bind_ok] at hR
      have HH := Lib.hid h1
      have HR := Lib.hid hR
      clear h1 hR
      go_wp2_with fail
      refine (a_sym i hij hj HT.out HS.out hD hs hp2).mono ?_
      rw [HH.out]
      rintro e w3 ⟨rfl, F3, S⟩
      rw [izN_eq]
      have HS := Lib.hid S
      have hR := HR.out
      clear S HR HH
      by_cases hd : d ≤ 29
      · rw [if_pos hd] at hR
        have j1 : decide ((d : Int) ≤ 29) = true := decide_eq_true (by omega)
        have ht := dst_table d (by omega)
        have HLW := Lib.hid (by have := distance_walk (d : Int) w3; rw [(dstBZ_at d hd).1, (dstBZ_at d hd).2] at this; exact this : Calls Try.prog 16 #[.int .i64 (d : Int)] w3 fun e w' => e = .returned (.tuple #[.int .i64 (dstB d), .int .i64 (dstX d)]) ∧ w3 = w')
        generalize dstB d = dB at *
        generalize dstX d = dX at *
        have hdX := ht.1
        have hdB := ht.2.1
        have hdB1 := ht.2.2
        have HR := Lib.hid hR
        clear ht hR
        go_wp2_with fail
        refine (must_ok w3).mono ?_
        rintro e w4 ⟨rfl, rfl⟩
        clear j1
        go_wp2_with fail
        refine HLW.out.mono ?_
        clear HLW
        rintro e w4 ⟨rfl, rfl⟩
        have hR := HR.out
        clear HR
        cases h1 : getR s dX p3 o3 with
        | er e1 o1 =>
          rw [h1, Rs.bind_er] at hR
          have HH := Lib.hid (⟨h1, hR⟩ : _ ∧ _)
          clear h1 hR
          go_wp2_with fail
          refine (a_get dX hj HS.out hs hp4 (by omega)).mono ?_
          rw [HH.out.1]
          rintro e w5 ⟨rfl, F5, p', S⟩
          go_wp2_with fail
          exact ⟨rfl, Pst.er HH.out.2.symm rfl F5 S⟩
        | ok v p5 o5 =>
          obtain ⟨hv, rfl, rfl, hp5⟩ := getR_ok h1
          have hv9 : v < 65536 := by rw [hv]; exact getv8 s p3 dX (by omega)
          rw [h1, Rs.bind_ok] at hR
          have HH := Lib.hid h1
          have HR := Lib.hid hR
          clear h1 hR hv
          go_wp2_with fail
          refine (a_get dX hj HS.out hs hp4 (by omega)).mono ?_
          rw [HH.out]
          rintro e w5 ⟨rfl, F5, S⟩
          rw [izN_eq]
          obtain ⟨ao, cap, _, c1, _, _, _⟩ := (show RunO w5 ub rb F5 s B (p3 + dX) o5 from S.get j (List.getElem?_set_self hj)).cells
          have HS := Lib.hid S
          have hR := HR.out
          clear S HR HH
          obtain ⟨back, hback⟩ : ∃ back, dB + v = back := ⟨_, rfl⟩
          have hbi : (dB : Int) + (v : Int) = (back : Int) := by omega
          have hb1 : 1 ≤ back := by omega
          have hb9 : back < 100000 := by omega
          rw [hback] at hR
          obtain ⟨n, hn⟩ : ∃ n, bB + u = n := ⟨_, rfl⟩
          have hni : (bB : Int) + (u : Int) = (n : Int) := by omega
          have hn9 : n < 100000 := by omega
          rw [hn] at hR
          by_cases hbo : back ≤ o5.length
          · rw [if_pos hbo] at hR
            have j1 : decide ((back : Int) ≤ (o5.length : Int)) = true := decide_eq_true (by omega)
            have j2 : decide (back ≤ o5.length) = true := decide_eq_true hbo
            have HR := Lib.hid (⟨hR, hbo⟩ : _ ∧ _)
            clear hR hbo hback hn
            go_wp2_with fail
            refine (must_ok w5).mono ?_
            rintro e w6 ⟨rfl, rfl⟩
            clear j1 j2 c1
            go_wp2_with fail
            clear hbi hni
            go_loopg [46] n (fun g iv wr => ∃ (k : Nat) (F' out : List Nat), g + k = n ∧ iv = .int .i64 k ∧ back ≤ out.length ∧ copyL B back g (p3 + dX) out = R ∧ Sep w0 wr (L.set j (oRun ub rb F' s B (p3 + dX) out)))
            case atStart => exact ⟨0, _, _, by omega, by go_num, HR.out.2, HR.out.1, HS.out⟩
            case round =>
              clear HS HR
              obtain ⟨k, F', out, hk, rfl, hbo, hR, S⟩ := hrel
              cases gk with
              | zero =>
                obtain rfl : k = n := by omega
                have HR := Lib.hid (⟨hR, S⟩ : _ ∧ _)
                clear hR S
                go_wp2_with fail
                go_end0
                exact Pst.ok HR.out.1.symm rfl F' HR.out.2
              | succ g =>
                have hkn : (k : Int) < (n : Int) := by omega
                rw [copyL] at hR
                have hO : RunO wr ub rb F' s B (p3 + dX) out := S.get j (List.getElem?_set_self hj)
                obtain ⟨ao, cap, _, c1, _, _, hrow⟩ := hO.cells
                obtain ⟨gb, cap2, hgb⟩ := own_at hrow (by omega)
                injection hgb with e1 _ e3
                subst e1 e3
                obtain ⟨idx, hidx⟩ : ∃ idx, out.length - back = idx := ⟨_, rfl⟩
                rw [hidx] at hR
                have hix : (out.length : Int) - (back : Int) = (idx : Int) := by omega
                have hio : (idx : Int) < (out.length : Int) := by omega
                obtain ⟨b, hb⟩ : ∃ b, out[idx]? = some b := ⟨_, List.getElem?_eq_getElem (by omega)⟩
                rw [List.getD_eq_getElem?_getD, hb, Option.getD_some] at hR
                have c2 : wr.cell? ⟨gb, idx, none⟩ = some (b8 b) := ownsRow_at hrow (by rw [List.getElem?_map, hb]; rfl)
                have d1 : ∀ x : Ex wr, x.w.cell? ⟨ub, 1, none⟩ = some (.slice (some ⟨gb, 0, none⟩) out.length cap) := fun x => x.cell c1
                have d2 : ∀ x : Ex wr, x.w.cell? ⟨gb, idx, none⟩ = some (.int .u8 (b : Int)) := fun x => x.cell c2
                have hl9 : out.length ≤ 9223372036854775807 := by
                  obtain ⟨cur, _, h1, h2, _⟩ := ownsRow_open hrow
                  unfold maxLen at h2
                  omega
                have HS := Lib.hid S
                clear hO c1 c2 hrow hb hidx S
                have j3 : IntKind.i64.wrap ((out.length : Int) - (back : Int)) = (idx : Int) := by rw [hix]; exact IntWalk.i64_in _ (by omega)
                cases h2 : putR B b (p3 + dX) out with
                | er e1 o1 =>
                  rw [h2, Rs.bind_er] at hR
                  have H2 := Lib.hid (⟨h2, hR⟩ : _ ∧ _)
                  clear h2 hR
                  go_wp2_with fail
                  refine wp_region_quiet_tail (C := fun w' => ∃ x : Ex wr, w' = x.w) 14 (by kernel_rfl) (by kernel_rfl) ⟨Ex.mk _ ((Ext.refl [] wr).drew), rfl⟩ ?_
                  simp only [List.take_succ_cons, List.take_zero, List.drop_succ_cons, List.drop_zero]
                  repeat (go_big_quiet_step (fail))
                  refine wpQuiet_nil ?_
                  rintro _ ⟨x, rfl⟩
                  clear d1 d2 j3
                  have HS := Lib.hid (HS.out.quiet x.ext)
                  go_wp2_with fail
                  refine (a_put b hj HS.out hB).mono ?_
                  rw [H2.out.1]
                  rintro e w7 ⟨rfl, F7, p', S⟩
                  go_wp2_with fail
                  exact ⟨rfl, Pst.er H2.out.2.symm rfl F7 S⟩
                | ok uu p7 o7 =>
                  obtain ⟨rfl, rfl, _⟩ := putR_ok h2
                  rw [h2, Rs.bind_ok] at hR
                  have H2 := Lib.hid (⟨h2, hR⟩ : _ ∧ _)
                  clear h2 hR
                  go_wp2_with fail
                  refine wp_region_quiet_tail (C := fun w' => ∃ x : Ex wr, w' = x.w) 14 (by kernel_rfl) (by kernel_rfl) ⟨Ex.mk _ ((Ext.refl [] wr).drew), rfl⟩ ?_
                  simp only [List.take_succ_cons, List.take_zero, List.drop_succ_cons, List.drop_zero]
                  repeat (go_big_quiet_step (fail))
                  refine wpQuiet_nil ?_
                  rintro _ ⟨x, rfl⟩
                  clear d1 d2 j3
                  have HS := Lib.hid (HS.out.quiet x.ext)
                  go_wp2_with fail
                  refine (a_put b hj HS.out hB).mono ?_
                  rw [H2.out.1]
                  rintro e w7 ⟨rfl, F7, S⟩
                  go_wp2_with fail
                  go_roundg g
                  case measure => omega
                  case rel => exact ⟨k + 1, F7, _, by omega, by go_num, by rw [List.length_append]; omega, H2.out.2, S⟩
          · rw [if_neg hbo] at hR
            have j1 : decide ((back : Int) ≤ (o5.length : Int)) = false := decide_eq_false (by omega)
            have j2 : decide (back ≤ o5.length) = false := decide_eq_false hbo
            have HR := Lib.hid hR
            clear hR hbo hback hn
            go_wp2_with fail
            refine (must_er w5).mono ?_
            rintro e w6 ⟨rfl, rfl⟩
            clear j1 j2 c1
            go_wp2_with fail
            exact ⟨rfl, Pst.er HR.out.symm rfl F5 HS.out⟩
      · rw [if_neg hd] at hR
        have j1 : decide ((d : Int) ≤ 29) = false := decide_eq_false (by omega)
        have HR := Lib.hid hR
        clear hR
        go_wp2_with fail
        refine (must_er w3).mono ?_
        rintro e w4 ⟨rfl, rfl⟩
        clear j1
        go_wp2_with fail
        exact ⟨rfl, Pst.er HR.out.symm rfl F3 HS.out⟩
end
end Go.Proofs.Ytgjenpdppobpkaa.If
