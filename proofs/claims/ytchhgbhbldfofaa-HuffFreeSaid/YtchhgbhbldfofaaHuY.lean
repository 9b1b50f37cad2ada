/-
  The document's State and Codes (chapter 7) walked.
-/
import Derived.Test.YtchhgbhbldfofaaHuM
namespace Go.Proofs.Ytchhgbhbldfofaa.Hu
open Go.RowKit

/-! ### plain -/
def kraS : List Int → Nat
  | [] => 0
  | x :: l => (if 0 < x then 2 ^ (15 - x.toNat) else 0) + kraS l
theorem kraF_add (c d e : Nat → Nat) (h : ∀ j, c j = d j + e j) : ∀ k, kraF c k = kraF d k + kraF e k
  | 0 => rfl
  | k + 1 => by rw [kraF, kraF, kraF, kraF_add c d e h k, h, Nat.add_mul]; omega
theorem kraF_one (m : Nat) : ∀ k, kraF (fun j => if j = m then 1 else 0) k = if m < k then 2 ^ (15 - m) else 0
  | 0 => rfl
  | k + 1 => by
    rw [kraF, kraF_one m k]
    by_cases h : k = m
    · subst h; rw [if_neg (by omega), if_pos rfl, if_pos (by omega)]; omega
    · rw [if_neg h]
      by_cases h2 : m < k
      · rw [if_pos h2, if_pos (by omega)]; omega
      · rw [if_neg h2, if_neg (by omega)]; omega
theorem kraF_zero (c : Nat → Nat) (h : ∀ j, c j = 0) : ∀ k, kraF c k = 0
  | 0 => rfl
  | k + 1 => by rw [kraF, kraF_zero c h k, h]; omega
theorem kra_sum : ∀ l : List Int, (∀ x ∈ l, 0 ≤ x ∧ x ≤ 15) → kraF (cntF l) 16 = kraS l
  | [], _ => kraF_zero _ (fun j => by unfold cntF cntI; split <;> simp) 16
  | x :: l, h => by
    have hx := h x (by simp)
    have ih := kra_sum l (fun y hy => h y (by simp [hy]))
    rw [kraS, ← ih]
    by_cases h0 : 0 < x
    · obtain ⟨m, rfl⟩ : ∃ m : Nat, x = m := ⟨x.toNat, by omega⟩
      rw [if_pos h0, Int.toNat_natCast]
      have e := kraF_add (cntF ((m : Int) :: l)) (fun j => if j = m then 1 else 0) (cntF l) (fun j => by
        unfold cntF cntI
        by_cases hj : j = 0
        · rw [if_pos hj, if_pos hj, if_neg (by omega)]
        · rw [if_neg hj, if_neg hj, List.countP_cons]
          by_cases hjm : j = m
          · subst hjm; simp; omega
          · rw [if_neg hjm, decide_eq_false (show ¬ (m : Int) = (j : Int) by omega)]; simp) 16
      rw [e, kraF_one, if_pos (by omega)]
    · rw [if_neg h0, Nat.zero_add]
      congr 1
      funext j
      unfold cntF cntI
      by_cases hj : j = 0
      · rw [if_pos hj, if_pos hj]
      · rw [if_neg hj, if_neg hj, List.countP_cons, decide_eq_false (show ¬ x = (j : Int) by omega)]
        rfl
theorem codesF_at : ∀ (l : List Int) (nx : Nat → Nat) (j : Nat) (x : Int), l[j]? = some x → (codesF l nx)[j]? = some (if 0 < x then nx x.toNat + cntI (l.take j) x.toNat else 0)
  | [], _, _, _, h => by simp at h
  | y :: l, nx, 0, x, h => by
    simp at h
    subst h
    rw [codesF]
    split <;> simp [cntI]
  | y :: l, nx, j + 1, x, h => by
    rw [List.getElem?_cons_succ] at h
    rw [codesF, List.take_succ_cons]
    unfold cntI
    rw [List.countP_cons]
    by_cases hy : 0 < y
    · rw [if_pos hy, List.getElem?_cons_succ, codesF_at l _ j x h]
      by_cases hx : 0 < x
      · rw [if_pos hx, if_pos hx]
        unfold up1 cntI
        by_cases hxy : x = y
        · subst hxy
          rw [if_pos rfl, decide_eq_true (show x = ((x.toNat : Nat) : Int) by omega)]
          simp; omega
        · rw [if_neg (by omega), decide_eq_false (show ¬ y = ((x.toNat : Nat) : Int) by omega)]
          simp
      · rw [if_neg hx, if_neg hx]
    · rw [if_neg hy, List.getElem?_cons_succ, codesF_at l _ j x h]
      by_cases hx : 0 < x
      · rw [if_pos hx, if_pos hx, decide_eq_false (show ¬ y = ((x.toNat : Nat) : Int) by omega)]
        simp [cntI]
      · rw [if_neg hx, if_neg hx]
set_option maxRecDepth 100000 in
set_option maxHeartbeats 4000000 in
theorem rbad_walk (v : Value) (l : List Int) (w : World) (hv : IntsAt w v l) (hl : l.length ≤ 1048576) :
    Calls Try.prog 38 #[v] w fun e w' => e = .returned (.bool (badL l)) ∧ w = w' := by
  obtain ⟨ao, cap, rfl, hc⟩ := hv
  have HC := Lib.hid hc
  clear hc
  obtain ⟨R, hR⟩ : ∃ R, badL l = R := ⟨_, rfl⟩
  rw [hR]
  have HR := Lib.hid (show (decide (288 < l.length) || (l.drop 0).any fun x => decide (x < 0 ∨ 15 < x)) = R from hR)
  clear hR
  go_enter Try.func38, Try.ntmps38
  go_wp2_with fail
  go_loopg [3] l.length (fun g iv wr => ∃ k : Nat, g + k = l.length ∧ iv = .int .i64 k ∧ (decide (288 < l.length) || (l.drop k).any fun x => decide (x < 0 ∨ 15 < x)) = R ∧ w = wr)
  case atStart => exact ⟨0, by omega, rfl, HR.out, rfl⟩
  case round =>
    clear HR
    obtain ⟨k, hk, rfl, hR, rfl⟩ := hrel
    by_cases hlt : k < l.length
    · obtain ⟨b, off, rfl, hcell⟩ := HC.out (by omega)
      obtain ⟨x, hck⟩ : ∃ x, l[k]? = some x := ⟨_, List.getElem?_eq_getElem hlt⟩
      have d0 := hcell k x hck
      have hdr : l.drop k = x :: l.drop (k + 1) := by
        obtain ⟨h1, h2⟩ := List.getElem?_eq_some_iff.1 hck
        rw [List.drop_eq_getElem_cons h1, h2]
      rw [hdr, List.any_cons] at hR
      clear hdr hcell hck
      by_cases h1 : x < 0
      · have hRt : R = true := by rw [← hR]; simp [h1]
        subst hRt
        clear hR
        go_wp2_with fail
        go_ret
        exact ⟨rfl, rfl⟩
      · by_cases h2 : 15 < x
        · have hRt : R = true := by rw [← hR]; simp [h2]
          subst hRt
          clear hR
          go_wp2_with fail
          go_ret
          exact ⟨rfl, rfl⟩
        · rw [decide_eq_false (by omega : ¬ (x < 0 ∨ 15 < x)), Bool.false_or] at hR
          have HR := Lib.hid hR
          clear hR
          go_wp2_with fail
          go_roundg (l.length - (k + 1))
          case measure => omega
          case rel => exact ⟨k + 1, by omega, by go_num, HR.out, rfl⟩
    · obtain rfl : k = l.length := by omega
      rw [List.drop_length, List.any_nil, Bool.or_false] at hR
      have HR := Lib.hid hR
      clear hR HC
      go_wp2_with fail
      go_ret
      refine ⟨?_, rfl⟩
      rw [← HR.out]
      first | rfl | (simp; omega)
set_option maxRecDepth 100000 in
set_option maxHeartbeats 4000000 in
theorem rstate_walk (v : Value) (l : List Int) (w : World) (hv : IntsAt w v l) (hl : l.length ≤ 1048576) :
    Calls Try.prog 12 #[v] w fun e w' => e = .returned (.tuple #[.int .i64 (stateN l).1, .int .i64 (stateN l).2]) ∧ w = w' := by
  have HB := Lib.hid (rbad_walk v l w hv hl)
  obtain ⟨ao, cap, rfl, hc⟩ := hv
  have HC := Lib.hid hc
  clear hc
  cases hb : badL l
  · have e : stateN l = (cmpZ (kra l) 32768, 0) := by unfold stateN; rw [hb]; rfl
    obtain ⟨hl2, hrg⟩ := bad_false hb
    have hks := kra_sum l hrg
    have HRG := Lib.hid hrg
    rw [e]
    unfold kra
    rw [hks]
    obtain ⟨R, hR⟩ : ∃ R, kraS l = R := ⟨_, rfl⟩
    have hbd := kraF_le (cntF l) 288 (fun j => by have := cntF_le l j; omega) 16
    rw [hks, hR] at hbd
    rw [hR]
    obtain ⟨cz, hcz⟩ : ∃ cz, cmpZ (R : Int) 32768 = cz := ⟨_, rfl⟩
    rw [hcz]
    have HCZ := Lib.hid hcz
    clear hcz
    have HR := Lib.hid (show 0 + kraS (l.drop 0) = R by rw [List.drop_zero, Nat.zero_add]; exact hR)
    clear hR hks e hrg
    rw [hb] at HB
    clear hb
    go_enter Try.func12, Try.ntmps12
    go_wp2_with fail
    refine HB.out.mono ?_
    clear HB
    rintro e w1 ⟨rfl, rfl⟩
    go_wp2_with fail
    go_loopg [4, 5] l.length (fun g sv iv wr => ∃ k s : Nat, g + k = l.length ∧ iv = .int .i64 k ∧ sv = .int .i64 s ∧ s + kraS (l.drop k) = R ∧ w = wr)
    case atStart => exact ⟨0, 0, by omega, rfl, rfl, HR.out, rfl⟩
    case round =>
      clear HR
      obtain ⟨k, s, hk, rfl, rfl, hR, rfl⟩ := hrel
      by_cases hlt : k < l.length
      · obtain ⟨b, off, rfl, hcell⟩ := HC.out (by omega)
        obtain ⟨x, hck⟩ : ∃ x, l[k]? = some x := ⟨_, List.getElem?_eq_getElem hlt⟩
        have d0 := hcell k x hck
        have hxr := HRG.out x (List.mem_of_getElem? hck)
        have hdr : l.drop k = x :: l.drop (k + 1) := by
          obtain ⟨h1, h2⟩ := List.getElem?_eq_some_iff.1 hck
          rw [List.drop_eq_getElem_cons h1, h2]
        rw [hdr, kraS] at hR
        clear hdr hcell hck
        have hs : s ≤ 150994944 := by omega
        by_cases h0 : 0 < x
        · rw [if_pos h0] at hR
          obtain ⟨t, ht⟩ : ∃ t, 2 ^ (15 - x.toNat) = t := ⟨_, rfl⟩
          rw [ht] at hR
          have ht9 : t ≤ 32768 := by rw [← ht]; exact Nat.pow_le_pow_right (n := 2) (by omega) (show 15 - x.toNat ≤ 15 by omega)
          have hti : (2 : Int) ^ (15 - x).toNat = (t : Int) := by rw [← ht, show (15 - x).toNat = 15 - x.toNat by omega]; push_cast; rfl
          have x1 : 0 ≤ 15 - x := by omega
          have x2 : 15 - x ≤ 14 := by omega
          have HF := Lib.hid hR
          clear hR ht hxr
          go_wp2_with fail
          go_roundg (l.length - (k + 1))
          case measure => omega
          case rel => exact ⟨k + 1, s + t, by omega, by go_num, by go_num, by have := HF.out; omega, rfl⟩
        · rw [if_neg h0, Nat.zero_add] at hR
          have HF := Lib.hid hR
          clear hR
          go_wp2_with fail
          go_roundg (l.length - (k + 1))
          case measure => omega
          case rel => exact ⟨k + 1, s, by omega, by go_num, by go_num, HF.out, rfl⟩
      · obtain rfl : k = l.length := by omega
        rw [List.drop_length, kraS, Nat.add_zero] at hR
        have hcz := HCZ.out
        rw [← hR] at hcz
        clear HCZ hR
        rcases cmpZ_cases (s : Int) 32768 with ⟨h1, h2⟩ | ⟨h1, h2⟩ | ⟨h1, h2⟩
        · rw [h2] at hcz
          subst hcz
          clear h2 HC
          go_wp2_with fail
          exact bodyPost_ret (results_tmp2 rfl _ _ _) rfl ⟨rfl, rfl⟩
        · rw [h2] at hcz
          subst hcz
          have h3 : ¬ (s : Int) < 32768 := by omega
          clear h2 HC hbd
          generalize (s : Int) = z at *
          go_wp2_with fail
          exact bodyPost_ret (results_tmp2 rfl _ _ _) rfl ⟨rfl, rfl⟩
        · rw [h2] at hcz
          subst hcz
          have h3 : s = 32768 := by omega
          subst h3
          clear h2 HC
          go_wp2_with fail
          exact bodyPost_ret (results_tmp2 rfl _ _ _) rfl ⟨rfl, rfl⟩
  · have e : stateN l = (0, 2) := by unfold stateN; rw [hb]; rfl
    rw [e]
    rw [hb] at HB
    clear hb e
    go_enter Try.func12, Try.ntmps12
    go_wp2_with fail
    refine HB.out.mono ?_
    clear HB
    rintro e w1 ⟨rfl, rfl⟩
    go_wp2_with fail
    exact bodyPost_ret (results_tmp2 rfl _ _ _) rfl ⟨rfl, rfl⟩
end Go.Proofs.Ytchhgbhbldfofaa.Hu
