/-
  huff's Table: Read walked.
-/
import Derived.Test.YtchhgbhbldfofaaHuT
namespace Go.Proofs.Ytchhgbhbldfofaa.Hu
open Go.RowKit Bt

/-! ### plain -/
def rdF (cnt : Nat → Nat) (sy : List Nat) (bt : Nat → Nat) (N : Nat) : Nat → Nat → Nat → Nat → Nat → Nat × Int × Nat
  | 0, _, _, _, p => (0, 4, p)
  | g + 1, k, d, a, p => if p < N then (if 2 * d + bt p < cnt k then (sy.getD (a + (2 * d + bt p)) 0, 0, p + 1) else rdF cnt sy bt N g (k + 1) (2 * d + bt p - cnt k) (a + cnt k) (p + 1)) else (0, 8, p)
def readN (l : List Int) (bt : Nat → Nat) (N p : Nat) : Nat × Int × Nat := rdF (cntF l) (symsN l) bt N 15 1 0 0 p
def sumF (c : Nat → Nat) : Nat → Nat → Nat
  | _, 0 => 0
  | k, g + 1 => c k + sumF c (k + 1) g
theorem symF_cnt : ∀ (l : List Int) (i n : Nat), (symF l i n).length = cntI l n
  | [], _, _ => by simp [symF, cntI]
  | x :: l, i, n => by
    have e := symF_cnt l (i + 1) n
    rw [symF]
    unfold cntI at e ⊢
    rw [List.countP_cons]
    by_cases h : x = (n : Int)
    · rw [if_pos h, List.length_cons, e]; simp [h]
    · rw [if_neg h, e]; simp [h]
theorem symT_cnt (l : List Int) : ∀ g k, 0 < k → (symT l k g).length = sumF (cntF l) k g
  | 0, _, _ => rfl
  | g + 1, k, h => by
    rw [symT, List.length_append, symF_cnt, symT_cnt l g (k + 1) (by omega), sumF]
    unfold cntF
    rw [if_neg (by omega)]
theorem getv_one (s : ByteArray) (hi : Bool) (p : Nat) : getv s hi p 1 = bit s hi p := by
  rw [getv, getv]
  cases hi <;> simp
theorem tread_nil (v : Value) (w : World) (hv : ∃ p, v = .pointer p) : Calls Try.prog 25 #[.pointer none, v] w fun e w' => e = .returned (.tuple #[.int .i64 0, .int .i64 1]) ∧ w = w' := by
  obtain ⟨p, rfl⟩ := hv
  go_enter Try.func25, Try.ntmps25
  go_wp2_with fail
  exact bodyPost_ret (results_tmp2 rfl _ _ _) rfl ⟨rfl, rfl⟩
theorem tread_nil2 (tb : Nat) (w : World) : Calls Try.prog 25 #[.pointer (some ⟨tb, 0, none⟩), .pointer none] w fun e w' => e = .returned (.tuple #[.int .i64 0, .int .i64 1]) ∧ w = w' := by
  go_enter Try.func25, Try.ntmps25
  go_wp2_with fail
  exact bodyPost_ret (results_tmp2 rfl _ _ _) rfl ⟨rfl, rfl⟩
set_option maxRecDepth 100000 in
set_option maxHeartbeats 16000000 in
theorem sTRead (i j : Nat) (hij : i ≠ j) {w0 w : World} {L : List Ob} {tb : Nat} {F : List Nat} {l : List Int} {b : Nat} {t : ByteArray} {p0 : Nat} {hi : Bool} (S : Sep w0 w L) (hT : L[i]? = some (oTab tb F l)) (hR : L[j]? = some (oR b t p0 hi))
    (hl : l.length ≤ 288) (ht : t.size ≤ 140737488355328) (hp0 : p0 ≤ 8 * t.size) :
    Calls Try.prog 25 #[.pointer (some ⟨tb, 0, none⟩), .pointer (some ⟨b, 0, none⟩)] w fun e w' =>
      e = .returned (.tuple #[.int .i64 (readN l (bit t hi) (8 * t.size) p0).1, .int .i64 (readN l (bit t hi) (8 * t.size) p0).2.1]) ∧ Sep w0 w' (L.set j (oR b t (readN l (bit t hi) (8 * t.size) p0).2.2 hi)) := by
  obtain ⟨R, hRR⟩ : ∃ R, readN l (bit t hi) (8 * t.size) p0 = R := ⟨_, rfl⟩
  rw [hRR]
  have hsl : (symsN l).length = sumF (cntF l) 1 15 := symT_cnt l 15 1 (by omega)
  have hcl := cntF_le l
  have hsy : (symsN l).length ≤ 5000 := by have := symT_len l 1 15; unfold symsN; omega
  have HTAB := Lib.hid (fun (w : World) (h : (oTab tb F l).P w) => (by
      obtain ⟨vl, vc, vs, hb, h1, h2, h3, _⟩ := h
      refine ⟨fun k hk => (cellOf hb (2 + k)).trans (tabC_at _ _ _ _ k hk), fun q hq => ?_⟩
      obtain ⟨g, cap, rfl⟩ := own_at h3 (by omega)
      exact ⟨g, _, cap, cellOf hb 18, hq, ownsRow_at h3 (by rw [List.getElem?_map, List.getElem?_eq_getElem hq, List.getD_eq_getElem?_getD, List.getElem?_eq_getElem hq]; rfl)⟩ :
      (∀ k, k < 16 → w.cell? ⟨tb, 2 + k, none⟩ = some (iz (cntF l k))) ∧ ∀ q, q < (symsN l).length → ∃ g n cap, w.cell? ⟨tb, 18, none⟩ = some (.slice (some ⟨g, 0, none⟩) n cap) ∧ q < n ∧ w.cell? ⟨g, q, none⟩ = some (iz ((symsN l).getD q 0 : Nat))))
  have HT := Lib.hid hT
  have HR := Lib.hid hR
  have HS := Lib.hid S
  have H0 := Lib.hid hRR
  unfold readN at H0
  generalize symsN l = sy at *
  generalize cntF l = c at *
  have HCL := Lib.hid (⟨hcl, hsl, hsy⟩ : _ ∧ _ ∧ _)
  clear hT hR S hRR hcl hsl hsy
  have hS0 : L.set j (oR b t p0 hi) = L := set_same HR.out
  have HS0 := Lib.hid hS0
  clear hS0
  go_enter Try.func25, Try.ntmps25
  go_wp2_with fail
  go_loopg [6, 7, 8, 9] 15 (fun g cv fv av kv wr => ∃ k cc f d a p : Nat, g + k = 16 ∧ 1 ≤ k ∧ cv = .int .i64 cc ∧ fv = .int .i64 f ∧ av = .int .i64 a ∧ kv = .int .i64 k ∧ cc = f + d ∧ cc < 2 ^ (k - 1) ∧ p ≤ 8 * t.size ∧ a + sumF c k g = sy.length ∧ rdF c sy (bit t hi) (8 * t.size) g k d a p = R ∧ Sep w0 wr (L.set j (oR b t p hi)))
  case atStart => exact ⟨1, 0, 0, 0, 0, p0, rfl, by omega, rfl, rfl, rfl, rfl, rfl, by decide, hp0, by rw [Nat.zero_add]; exact HCL.out.2.1.symm, H0.out, by rw [HS0.out]; exact HS.out⟩
  case round =>
    clear HS HS0 H0 hp0
    obtain ⟨k, cc, f, d, a, p, hgk, hk1, rfl, rfl, rfl, rfl, hcc, hc2, hp, hsum, hrd, S⟩ := hrel
    have HS := Lib.hid S
    have HQ := Lib.hid (⟨hcc, hc2, hsum, hrd⟩ : _ ∧ _ ∧ _ ∧ _)
    clear S hcc hc2 hsum hrd
    cases gk with
    | zero =>
      obtain rfl : k = 16 := by omega
      go_wp2_with fail
      have hrd := HQ.out.2.2.2
      rw [rdF] at hrd
      subst hrd
      refine bodyPost_ret (results_tmp2 rfl _ _ _) rfl ⟨rfl, HS.out⟩
    | succ g =>
      have hk15 : k ≤ 15 := by omega
      have hk15' : (k : Int) ≤ 15 := by omega
      go_wp2_with fail
      clear hk15'
      by_cases hpt : p < 8 * t.size
      · refine (sGet j (n := 1) HS.out (set_self HR.out) ht (by omega) (by omega)).mono ?_
        rintro e w9 ⟨rfl, S⟩
        rw [getv_one]
        rw [List.set_set] at S
        have hb1 := bit_le t hi p
        have hrd := HQ.out.2.2.2
        rw [rdF, if_pos hpt] at hrd
        obtain ⟨u, hu⟩ : ∃ u, bit t hi p = u := ⟨_, rfl⟩
        rw [hu] at hrd hb1 ⊢
        obtain ⟨hcc, hc2, hsum, _⟩ := HQ.out
        have hp2 : 2 ^ (k - 1) ≤ 2 ^ 14 := Nat.pow_le_pow_right (by omega) (by omega)
        have hcb : cc < 16384 := by omega
        have hor := i64_or_bit cc u (by omega) hb1
        have hfb : f ≤ cc := by omega
        obtain ⟨hn1, hn2⟩ := HTAB.out w9 (S.get i (set_get hij HT.out))
        have c1 := hn1 k (by omega)
        have hck : c k ≤ 288 := by have := HCL.out.1 k; omega
        obtain ⟨ck, hckk⟩ : ∃ ck, c k = ck := ⟨_, rfl⟩
        rw [hckk] at c1 hck hrd
        rw [sumF, hckk] at hsum
        have hsub : ((cc : Int) * 2 + (u : Int)) - (f : Int) * 2 = ((2 * d + u : Nat) : Int) := by omega
        obtain ⟨d2, hd2⟩ : ∃ d2, 2 * d + u = d2 := ⟨_, rfl⟩
        rw [hd2] at hsub hrd
        have hsy := HCL.out.2.2
        have ha5 : a ≤ 5000 := by omega
        by_cases hlt : d2 < ck
        · rw [if_pos hlt] at hrd
          have hlt' : (d2 : Int) < (ck : Int) := by omega
          obtain ⟨g9, n9, cap9, e1, e2, e3⟩ := hn2 (a + d2) (by omega)
          obtain ⟨z, hz⟩ : ∃ z, sy.getD (a + d2) 0 = z := ⟨_, rfl⟩
          rw [hz] at e3 hrd
          have HF := Lib.hid (⟨hrd, S⟩ : _ ∧ _)
          have hd5 : d2 ≤ 288 := by omega
          clear hrd S hcc hc2 hsum hn1 hn2 hckk hd2 hz hp2 hu hsy HS HQ
          go_wp2_with fail
          have hrd := HF.out.1
          subst hrd
          exact bodyPost_ret (results_tmp2 rfl _ _ _) rfl ⟨rfl, HF.out.2⟩
        · rw [if_neg hlt] at hrd
          have hlt' : ¬ (d2 : Int) < (ck : Int) := by omega
          have HF := Lib.hid (⟨hrd, S, hcc, hc2, hsum, hd2⟩ : _ ∧ _ ∧ _ ∧ _ ∧ _ ∧ _)
          clear hrd S hcc hc2 hsum hn1 hn2 hckk hd2 hp2 hu hsy HS HQ
          go_wp2_with fail
          go_roundg g
          case measure => omega
          case rel =>
            obtain ⟨hrd, S, hcc, hc2, hsum, hd2⟩ := HF.out
            refine ⟨k + 1, 2 * cc + u, 2 * f + ck, d2 - ck, a + ck, p + 1, by omega, by omega, by go_num, by go_num, by go_num, by go_num, by omega, ?_, by omega, by omega, hrd, S⟩
            have e : 2 ^ (k + 1 - 1) = 2 * 2 ^ (k - 1) := by
              rw [show k + 1 - 1 = (k - 1) + 1 by omega, Nat.pow_succ, Nat.mul_comm]
            rw [e]
            omega
      · obtain rfl : p = 8 * t.size := by omega
        refine (sGetMore j (n := 1) HS.out (set_self HR.out) ht (by omega) (by omega) (by omega)).mono ?_
        rintro e w9 ⟨rfl, S⟩
        have HS := Lib.hid S
        clear S
        go_wp2_with fail
        have hrd := HQ.out.2.2.2
        rw [rdF, if_neg (by omega)] at hrd
        subst hrd
        refine bodyPost_ret (results_tmp2 rfl _ _ _) rfl ⟨rfl, HS.out⟩
end Go.Proofs.Ytchhgbhbldfofaa.Hu
