/-
  inflate: coded walked.
-/
import Derived.Test.YtgjenpdppobpkaaInG
namespace Go.Proofs.Ytgjenpdppobpkaa.If
open Go.RowKit Bt Hu

theorem copyL_ok {B back : Nat} : ∀ (n p : Nat) (out : List Nat) {a : Unit} {q : Nat} {o : List Nat}, copyL B back n p out = .ok a q o → q = p
  | 0, p, out, a, q, o, h => by rw [copyL] at h; injection h with _ h2 _; exact h2.symm
  | n + 1, p, out, a, q, o, h => by
    rw [copyL] at h
    cases h1 : putR B (out.getD (out.length - back) 0) p out with
    | er e o1 => rw [h1, Rs.bind_er] at h; cases h
    | ok u p1 o1 =>
      rw [h1, Rs.bind_ok] at h
      obtain ⟨rfl, _, _⟩ := putR_ok h1
      exact copyL_ok n p1 o1 h
theorem againR_ok {s : ByteArray} {B x : Nat} {D : List Int} {p : Nat} {out : List Nat} {a : Unit} {q : Nat} {o : List Nat} (h : againR s B x D p out = .ok a q o) : p < q ∧ q ≤ 8 * s.size := by
  unfold againR at h
  cases h1 : getR s (lenX x) p out with
  | er e o1 => rw [h1, Rs.bind_er] at h; cases h
  | ok u p1 o1 =>
    obtain ⟨_, rfl, rfl, hp⟩ := getR_ok h1
    rw [h1, Rs.bind_ok] at h
    cases h2 : symR s D (p + lenX x) o1 with
    | er e o2 => rw [h2, Rs.bind_er] at h; cases h
    | ok d p2 o2 =>
      obtain ⟨hp1, hp2, _, rfl⟩ := symR_ok h2
      rw [h2, Rs.bind_ok] at h
      split at h
      · cases h3 : getR s (dstX d) p2 o2 with
        | er e o3 => rw [h3, Rs.bind_er] at h; cases h
        | ok v p3 o3 =>
          obtain ⟨_, rfl, rfl, hp3⟩ := getR_ok h3
          rw [h3, Rs.bind_ok] at h
          split at h
          · have := copyL_ok _ _ _ h
            omega
          · cases h
      · cases h
section
variable {w0 w : World} {L : List Ob} {j ub rb : Nat} {F : List Nat} {s : ByteArray} {B p : Nat} {out : List Nat}
set_option maxRecDepth 100000 in
set_option maxHeartbeats 8000000 in
theorem a_coded (i1 i2 : Nat) {t1 t2 : Nat} {F1 F2 : List Nat} {D1 D2 : List Int} (h1j : i1 ≠ j) (h2j : i2 ≠ j) (hj : j < L.length) (hT1 : L[i1]? = some (oTab t1 F1 D1)) (hT2 : L[i2]? = some (oTab t2 F2 D2)) (S : Sep w0 w (L.set j (oRun ub rb F s B p out)))
    (hD1 : D1.length ≤ 288) (hD2 : D2.length ≤ 288) (hs : s.size ≤ 1048576) (hp : p ≤ 8 * s.size) (hB : B ≤ 1099511627776) :
    Calls Try.prog 75 #[.pointer (some ⟨ub, 0, none⟩), .pointer (some ⟨t1, 0, none⟩), .pointer (some ⟨t2, 0, none⟩)] w (Pst w0 L j ub rb s B unit9 (codedR s B D1 D2 p out)) := by
  have HS := Lib.hid S
  have HT := Lib.hid (⟨hT1, hT2⟩ : _ ∧ _)
  obtain ⟨R, hR⟩ : ∃ R, codedR s B D1 D2 p out = R := ⟨_, rfl⟩
  rw [hR]
  unfold codedR at hR
  have HR := Lib.hid hR
  clear S hT1 hT2 hR
  go_enter Try.func75, Try.ntmps75
  go_wp2_with fail
  go_loopg [6] (8 * s.size - p + 1) (fun g _ wr => ∃ (p : Nat) (F' out : List Nat), p ≤ 8 * s.size ∧ 8 * s.size - p < g ∧ codedF s B D1 D2 g p out = R ∧ Sep w0 wr (L.set j (oRun ub rb F' s B p out)))
  case atStart => exact ⟨_, _, _, hp, by omega, HR.out, HS.out⟩
  case round =>
    clear HS HR hp
    obtain ⟨p, F', out, hp, hpg, hR, S⟩ := hrel
    have HS := Lib.hid S
    clear S
    obtain ⟨g, rfl⟩ : ∃ g, gk = g + 1 := ⟨gk - 1, by omega⟩
    rw [codedF] at hR
    cases h1 : symR s D1 p out with
    | er e1 o1 =>
      rw [h1, Rs.bind_er] at hR
      have HH := Lib.hid (⟨h1, hR⟩ : _ ∧ _)
      clear h1 hR
      go_wp2_with fail
      refine (a_sym i1 h1j hj HT.out.1 HS.out hD1 hs hp).mono ?_
      rw [HH.out.1]
      rintro e w2 ⟨rfl, F2, p', S⟩
      go_wp2_with fail
      exact ⟨rfl, Pst.er HH.out.2.symm rfl F2 S⟩
    | ok x p2 o2 =>
      obtain ⟨hp1, hp2, hx288, rfl⟩ := symR_ok h1
      rw [h1, Rs.bind_ok] at hR
      have HH := Lib.hid h1
      have HR := Lib.hid hR
      clear h1 hR
      go_wp2_with fail
      refine (a_sym i1 h1j hj HT.out.1 HS.out hD1 hs hp).mono ?_
      rw [HH.out]
      rintro e w2 ⟨rfl, F3, S⟩
      rw [izN_eq]
      have HS := Lib.hid S
      have hR := HR.out
      clear S HR HH
      by_cases hx : x < 256
      · rw [if_pos hx] at hR
        have hx' : (x : Int) < 256 := by omega
        cases h2 : putR B x p2 o2 with
        | er e1 o1 =>
          rw [h2, Rs.bind_er] at hR
          have H2 := Lib.hid (⟨h2, hR⟩ : _ ∧ _)
          clear h2 hR
          go_wp2_with fail
          refine (a_put x hj HS.out hB).mono ?_
          rw [H2.out.1]
          rintro e w3 ⟨rfl, F4, p', S⟩
          go_wp2_with fail
          exact ⟨rfl, Pst.er H2.out.2.symm rfl F4 S⟩
        | ok uu p3 o3 =>
          obtain ⟨rfl, rfl, _⟩ := putR_ok h2
          rw [h2, Rs.bind_ok] at hR
          have H2 := Lib.hid (⟨h2, hR⟩ : _ ∧ _)
          clear h2 hR
          go_wp2_with fail
          refine (a_put x hj HS.out hB).mono ?_
          rw [H2.out.1]
          rintro e w3 ⟨rfl, F4, S⟩
          go_wp2_with fail
          go_roundg g
          case measure => omega
          case rel => exact ⟨_, F4, _, hp2, by omega, H2.out.2, S⟩
      · rw [if_neg hx] at hR
        have hx' : ¬ (x : Int) < 256 := by omega
        by_cases hx2 : x = 256
        · rw [if_pos hx2] at hR
          subst hx2
          have HR := Lib.hid hR
          clear hR
          go_wp2_with fail
          first | go_end0 | refine bodyPost_ret (results_none rfl _ _ _) rfl ?_
          exact Pst.ok HR.out.symm rfl F3 HS.out
        · rw [if_neg hx2] at hR
          have j1 : ((x : Int) == 256) = false := beq_eq_false_iff_ne.2 (by omega)
          by_cases hx3 : x ≤ 285
          · rw [if_pos hx3] at hR
            have j2 : decide ((x : Int) ≤ 285) = true := decide_eq_true (by omega)
            have hx257 : 257 ≤ x := by omega
            cases h2 : againR s B x D2 p2 o2 with
            | er e1 o1 =>
              rw [h2, Rs.bind_er] at hR
              have H2 := Lib.hid (⟨h2, hR⟩ : _ ∧ _)
              clear h2 hR
              go_wp2_with fail
              refine (must_ok w2).mono ?_
              rintro e w3 ⟨rfl, rfl⟩
              go_wp2_with fail
              refine (a_again i2 x hx257 hx3 h2j hj HT.out.2 HS.out hD2 hs hp2 hB).mono ?_
              rw [H2.out.1]
              rintro e w3 ⟨rfl, F4, p', S⟩
              go_wp2_with fail
              exact ⟨rfl, Pst.er H2.out.2.symm rfl F4 S⟩
            | ok uu p3 o3 =>
              have hq := againR_ok h2
              rw [h2, Rs.bind_ok] at hR
              have H2 := Lib.hid (⟨h2, hR⟩ : _ ∧ _)
              clear h2 hR
              go_wp2_with fail
              refine (must_ok w2).mono ?_
              rintro e w3 ⟨rfl, rfl⟩
              go_wp2_with fail
              refine (a_again i2 x hx257 hx3 h2j hj HT.out.2 HS.out hD2 hs hp2 hB).mono ?_
              rw [H2.out.1]
              rintro e w3 ⟨rfl, F4, S⟩
              go_wp2_with fail
              go_roundg g
              case measure => omega
              case rel => exact ⟨_, F4, _, hq.2, by omega, H2.out.2, S⟩
          · rw [if_neg hx3] at hR
            have j2 : decide ((x : Int) ≤ 285) = false := decide_eq_false (by omega)
            have HR := Lib.hid hR
            clear hR
            go_wp2_with fail
            refine (must_er w2).mono ?_
            rintro e w3 ⟨rfl, rfl⟩
            go_wp2_with fail
            exact ⟨rfl, Pst.er HR.out.symm rfl F3 HS.out⟩
end
end Go.Proofs.Ytgjenpdppobpkaa.If
