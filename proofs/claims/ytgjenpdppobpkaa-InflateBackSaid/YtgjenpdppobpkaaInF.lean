/-
  inflate: contracts on a run at a place of a list of objects; stored, again, coded walked.
-/
import Derived.Test.YtgjenpdppobpkaaInE
namespace Go.Proofs.Ytgjenpdppobpkaa.If
open Go.RowKit Bt Hu

theorem izN_eq (n : Nat) : izN n = .int .i64 (n : Int) := rfl
theorem Pst.set {α : Type} {w0 w' : World} {L : List Ob} {o : Ob} {j ub rb : Nat} {s : ByteArray} {B : Nat} {enc : α → Value} {R : Rs α} {e : Ending} (h : Pst w0 (L.set j o) j ub rb s B enc R e w') : Pst w0 L j ub rb s B enc R e w' := by
  unfold Pst at h ⊢
  cases R with
  | ok a p out => simpa only [List.set_set] using h
  | er e out => simpa only [List.set_set] using h
section
variable {w0 w : World} {L : List Ob} {j ub rb : Nat} {F : List Nat} {s : ByteArray} {B p : Nat} {out : List Nat}
theorem a_get (n : Nat) (hj : j < L.length) (S : Sep w0 w (L.set j (oRun ub rb F s B p out))) (hs : s.size ≤ 1048576) (hp : p ≤ 8 * s.size) (hn : n ≤ 16) :
    Calls Try.prog 47 #[.pointer (some ⟨ub, 0, none⟩), .int .i64 n] w (Pst w0 L j ub rb s B izN (getR s n p out)) :=
  (c_get n S (List.getElem?_set_self hj) hs hp hn).mono fun _ _ h => h.set
theorem a_sym (i : Nat) {tb : Nat} {Ft : List Nat} {D : List Int} (hij : i ≠ j) (hj : j < L.length) (hT : L[i]? = some (oTab tb Ft D)) (S : Sep w0 w (L.set j (oRun ub rb F s B p out))) (hD : D.length ≤ 288) (hs : s.size ≤ 1048576) (hp : p ≤ 8 * s.size) :
    Calls Try.prog 81 #[.pointer (some ⟨ub, 0, none⟩), .pointer (some ⟨tb, 0, none⟩)] w (Pst w0 L j ub rb s B izN (symR s D p out)) :=
  (c_sym i hij S (by rw [List.getElem?_set_ne (Ne.symm hij)]; exact hT) (List.getElem?_set_self hj) hD hs hp).mono fun _ _ h => h.set
theorem a_put (b : Nat) (hj : j < L.length) (S : Sep w0 w (L.set j (oRun ub rb F s B p out))) (hB : B ≤ 1099511627776) :
    Calls Try.prog 74 #[.pointer (some ⟨ub, 0, none⟩), .int .u8 b] w (Pst w0 L j ub rb s B unit9 (putR B b p out)) :=
  (c_put b S (List.getElem?_set_self hj) hB).mono fun _ _ h => h.set
theorem putR_ok {b q : Nat} {o : List Nat} {a : Unit} (h : putR B b p out = .ok a q o) : q = p ∧ o = out ++ [b] ∧ out.length < B := by
  unfold putR at h
  split at h
  · cases h
  · injection h with h1 h2 h3
    exact ⟨h2.symm, h3.symm, by omega⟩
theorem xor_full (n : Nat) (h : n < 65536) : bits .xor .i64 (n : Int) 65535 = ((65535 - n : Nat) : Int) := by
  have e : (65535 : Int) = ((65535 : Nat) : Int) := rfl
  have h2 : n ^^^ 65535 = 65535 - n := by
    have hb : ∀ i, (n ^^^ 65535).testBit i = (65535 - n).testBit i := fun i => by
      rw [Nat.testBit_xor]
      have e2 : 65535 - n = 2 ^ 16 - (n + 1) := by omega
      rw [e2, Nat.testBit_two_pow_sub_succ (by omega : n < 2 ^ 16), show (65535 : Nat) = 2 ^ 16 - 1 from rfl, Nat.testBit_two_pow_sub_one]
      by_cases hi : i < 16
      · simp [hi]
      · simp [hi]
        exact Nat.testBit_lt_two_pow (Nat.lt_of_lt_of_le (show n < 2 ^ 16 by omega) (Nat.pow_le_pow_right (by omega) (by omega)))
    exact Nat.eq_of_testBit_eq hb
  have key : (BitVec.ofInt 64 (n : Int) ^^^ BitVec.ofInt 64 65535).toNat = 65535 - n := by
    rw [BitVec.toNat_xor, BitVec.toNat_ofInt, BitVec.toNat_ofInt, ← h2]
    congr 1
    omega
  show IntKind.i64.wrap ((BitVec.ofInt 64 (n : Int) ^^^ BitVec.ofInt 64 65535).toNat : Nat) = _
  rw [key, IntKind.wrap_i64]
  omega
set_option maxRecDepth 100000 in
set_option maxHeartbeats 4000000 in
theorem a_align (hj : j < L.length) (S : Sep w0 w (L.set j (oRun ub rb F s B p out))) (hs : s.size ≤ 1048576) (hp : p ≤ 8 * s.size) :
    Calls Try.prog 73 #[.pointer (some ⟨rb, 0, none⟩)] w fun e w' => e = .returned (.int .i64 (gap p)) ∧ Sep w0 w' (L.set j (oRun ub rb F s B (p + gap p) out)) := by
  have hL : (L.set j (oRun ub rb F s B p out))[j]? = some (oRun ub rb F s B p out) := List.getElem?_set_self hj
  have hO : RunO w ub rb F s B p out := S.get j hL
  refine (align_any rb s p false w (by omega) hp hO.rd).mono ?_
  rintro e w1 ⟨rfl, hr, hx⟩
  have hFm : rb ∈ F := by obtain ⟨⟨_, _, _, rfl, _⟩, _⟩ := hO; simp
  refine ⟨rfl, ?_⟩
  have := S.upd j (oRun ub rb F s B (p + gap p) out) hL (hx.mono (fun k _ hk => by rw [List.mem_singleton] at hk; subst hk; exact hFm)) (Fr.refl _ _) (hO.read hx hr)
  rwa [List.set_set] at this
theorem gap_in (p N : Nat) (h : p ≤ 8 * N) : p + gap p ≤ 8 * N := by
  unfold gap
  omega
set_option maxRecDepth 100000 in
set_option maxHeartbeats 8000000 in
theorem a_stored (hj : j < L.length) (S : Sep w0 w (L.set j (oRun ub rb F s B p out))) (hs : s.size ≤ 1048576) (hp : p ≤ 8 * s.size) (hB : B ≤ 1099511627776) :
    Calls Try.prog 61 #[.pointer (some ⟨ub, 0, none⟩)] w (Pst w0 L j ub rb s B unit9 (storedR s B p out)) := by
  have hO : RunO w ub rb F s B p out := S.get j (List.getElem?_set_self hj)
  obtain ⟨ao, cap, c0, _, _, _, _⟩ := hO.cells
  have HS := Lib.hid S
  have hg := gap_in p s.size hp
  obtain ⟨R, hR⟩ : ∃ R, storedR s B p out = R := ⟨_, rfl⟩
  have HR := Lib.hid hR
  rw [hR]
  clear S hO hR
  go_enter Try.func61, Try.ntmps61
  go_wp2_with fail
  refine (a_align hj HS.out hs hp).mono ?_
  rintro e w1 ⟨rfl, S⟩
  have HS := Lib.hid S
  have hR := HR.out
  unfold storedR at hR
  obtain ⟨p1, hp1⟩ : ∃ p1, p + gap p = p1 := ⟨_, rfl⟩
  rw [hp1] at hR hg HS
  clear S c0 HR hp1
  cases h1 : getR s 16 p1 out with
  | er e1 o1 =>
    rw [h1, Rs.bind_er] at hR
    have HH := Lib.hid (⟨h1, hR⟩ : _ ∧ _)
    clear h1 hR
    go_wp2_with fail
    refine (a_get 16 hj HS.out hs hg (by omega)).mono ?_
    rw [HH.out.1]
    rintro e w2 ⟨rfl, F', p', S⟩
    go_wp2_with fail
    exact ⟨rfl, Pst.er HH.out.2.symm rfl F' S⟩
  | ok n p2 o2 =>
    obtain ⟨hn, rfl, rfl, hp2⟩ := getR_ok h1
    have hn16 := getv8 s p1 16 (Nat.le_refl _)
    rw [← hn] at hn16
    rw [h1, Rs.bind_ok] at hR
    have HH := Lib.hid (⟨h1, hR⟩ : _ ∧ _)
    clear h1 hR hn
    go_wp2_with fail
    refine (a_get 16 hj HS.out hs hg (by omega)).mono ?_
    rw [HH.out.1]
    rintro e w2 ⟨rfl, F', S⟩
    rw [izN_eq]
    have HS := Lib.hid S
    have hR := HH.out.2
    clear S HH
    cases h1 : getR s 16 (p1 + 16) o2 with
    | er e1 o1 =>
      rw [h1, Rs.bind_er] at hR
      have HH := Lib.hid (⟨h1, hR⟩ : _ ∧ _)
      clear h1 hR
      go_wp2_with fail
      refine (a_get 16 hj HS.out hs hp2 (by omega)).mono ?_
      rw [HH.out.1]
      rintro e w3 ⟨rfl, F2, p', S⟩
      go_wp2_with fail
      exact ⟨rfl, Pst.er HH.out.2.symm rfl F2 S⟩
    | ok m p3 o3 =>
      obtain ⟨hm, rfl, rfl, hp3⟩ := getR_ok h1
      rw [h1, Rs.bind_ok] at hR
      have HH := Lib.hid h1
      have hx := xor_full n hn16
      clear h1 hm
      go_wp2_with fail
      refine (a_get 16 hj HS.out hs hp2 (by omega)).mono ?_
      rw [HH.out]
      rintro e w3 ⟨rfl, F2, S⟩
      have HS := Lib.hid S
      rw [izN_eq]
      clear S HH
      obtain ⟨N, hN⟩ : ∃ N, 65535 - n = N := ⟨_, rfl⟩
      rw [hN] at hR hx
      by_cases hmN : m = N
      · rw [if_pos hmN] at hR
        subst hmN
        have HR := Lib.hid hR
        clear hR hN
        go_wp2_with fail
        refine (must_ok w3).mono ?_
        rintro e w4 ⟨rfl, rfl⟩
        clear hx
        go_wp2_with fail
        go_loopg [17] n (fun g iv wr => ∃ (k p : Nat) (F' out : List Nat), g + k = n ∧ iv = .int .i64 k ∧ p ≤ 8 * s.size ∧ storeL s B g p out = R ∧ Sep w0 wr (L.set j (oRun ub rb F' s B p out)))
        case atStart => exact ⟨0, _, _, _, by omega, rfl, hp3, HR.out, HS.out⟩
        case round =>
          clear HS HR
          obtain ⟨k, p, F', out, hk, rfl, hp, hR, S⟩ := hrel
          have HS := Lib.hid S
          clear S
          cases gk with
          | zero =>
            obtain rfl : k = n := by omega
            have HR := Lib.hid hR
            clear hR
            go_wp2_with fail
            go_end0
            exact Pst.ok HR.out.symm rfl F' HS.out
          | succ g =>
            have hkn : (k : Int) < (n : Int) := by omega
            rw [storeL] at hR
            cases h1 : getR s 8 p out with
            | er e1 o1 =>
              rw [h1, Rs.bind_er] at hR
              have HH := Lib.hid (⟨h1, hR⟩ : _ ∧ _)
              clear h1 hR
              go_wp2_with fail
              refine (a_get 8 hj HS.out hs hp (by omega)).mono ?_
              rw [HH.out.1]
              rintro e w2 ⟨rfl, F', p', S⟩
              go_wp2_with fail
              exact ⟨rfl, Pst.er HH.out.2.symm rfl F' S⟩
            | ok v p2 o2 =>
              obtain ⟨hv, rfl, rfl, hp2⟩ := getR_ok h1
              have hv8 : v < 256 := by rw [hv]; exact getv_lt s false p 8
              rw [h1, Rs.bind_ok] at hR
              have HH := Lib.hid h1
              clear h1 hv
              cases h2 : putR B v (p + 8) o2 with
              | er e1 o1 =>
                rw [h2, Rs.bind_er] at hR
                have H2 := Lib.hid (⟨h2, hR⟩ : _ ∧ _)
                clear h2 hR
                go_wp2_with fail
                refine (a_get 8 hj HS.out hs hp (by omega)).mono ?_
                rw [HH.out]
                rintro e w2 ⟨rfl, F', S⟩
                rw [izN_eq]
                go_wp2_with fail
                refine (a_put v hj S hB).mono ?_
                rw [H2.out.1]
                rintro e w3 ⟨rfl, F', p', S⟩
                go_wp2_with fail
                exact ⟨rfl, Pst.er H2.out.2.symm rfl F' S⟩
              | ok u p3 o3 =>
                obtain ⟨rfl, rfl, _⟩ := putR_ok h2
                rw [h2, Rs.bind_ok] at hR
                have H2 := Lib.hid (⟨h2, hR⟩ : _ ∧ _)
                clear h2 hR
                go_wp2_with fail
                refine (a_get 8 hj HS.out hs hp (by omega)).mono ?_
                rw [HH.out]
                rintro e w2 ⟨rfl, F', S⟩
                rw [izN_eq]
                go_wp2_with fail
                refine (a_put v hj S hB).mono ?_
                rw [H2.out.1]
                rintro e w3 ⟨rfl, F2, S⟩
                go_wp2_with fail
                go_roundg g
                case measure => omega
                case rel => exact ⟨k + 1, _, F2, _, by omega, by go_num, hp2, H2.out.2, S⟩
      · rw [if_neg hmN] at hR
        have HR := Lib.hid hR
        have j1 : ((m : Int) == (N : Int)) = false := beq_eq_false_iff_ne.2 (by omega)
        have j2 : (m == N) = false := beq_eq_false_iff_ne.2 hmN
        clear hR hmN hN
        go_wp2_with fail
        refine (must_er w3).mono ?_
        rintro e w4 ⟨rfl, rfl⟩
        go_wp2_with fail
        exact ⟨rfl, Pst.er HR.out.symm rfl F2 HS.out⟩
end
end Go.Proofs.Ytgjenpdppobpkaa.If
