/-
  LzwWidths: as long as there are few codes, early or not is the same; codes alone as numbers of nine bits are they.
-/
import Derived.Test.YtcbllkopolbhaaaLzS
namespace Go.Proofs.Ytcbllkopolbhaaa.Lz
open Go.RowKit Go.Maps

theorem codesF_small : ∀ (f : Nat) (tb : List (Nat × Nat)) (known : Nat) (l : List Nat), known + l.length < 4094 → (codesF f tb known l).length ≤ l.length + 1
  | 0, _, _, _, _ => by simp [codesF]
  | f + 1, _, _, [], _ => by simp [codesF]
  | f + 1, tb, known, c :: r, h => by
    have hl := ext_len tb c r
    simp only [List.length_cons] at h
    have h2 := codesF_small f (grow tb (ext tb c r).1 (ext tb c r).2) (known + 1) (ext tb c r).2 (by omega)
    unfold codesF
    simp only
    rw [if_neg (by omega)]
    simp only [List.length_cons]
    omega
theorem codes_small (l : List Nat) (h : l.length ≤ 200) : (codes l).length ≤ l.length + 2 := by
  have := codesF_small l.length [] 257 l (by omega)
  simp only [codes, List.length_cons]; omega
theorem wid_nine (n : Nat) (early : Bool) (h : n ≤ 510) : wid n early = 9 := by
  unfold wid
  have hm : (if early then n + 1 else n) < 512 := by split <;> omega
  simp only [if_pos hm]
theorem bhN_le (n c : Nat) (b : Bool) : bhN n b c ≤ max 258 (n + 1) := by
  unfold bhN
  split
  · omega
  · split <;> omega
theorem putF_flat (early : Bool) : ∀ (l : List Nat) (n : Nat) (b : Bool), n + l.length ≤ 510 → 258 + l.length ≤ 510 → putF early n b l = l.flatMap (fun c => Bt.bitsOf true c 9)
  | [], _, _, _, _ => rfl
  | c :: r, n, b, h, h' => by
    simp only [List.length_cons] at h h'
    have := bhN_le n c b
    rw [putF, List.flatMap_cons, wid_nine n early (by omega), putF_flat early r _ _ (by omega) (by omega)]
theorem fits_nine (early : Bool) : ∀ (l : List Nat) (n : Nat) (b : Bool), n + l.length ≤ 510 → 258 + l.length ≤ 510 → fits early n b l → ∀ c ∈ l, c < 512
  | [], _, _, _, _, _ => by simp
  | c :: r, n, b, h, h', hf => by
    simp only [List.length_cons] at h h'
    have := bhN_le n c b
    have h1 := hf.1.1
    rw [wid_nine n early (by omega)] at h1
    intro x hx
    rcases List.mem_cons.1 hx with rfl | hx
    · omega
    · exact fits_nine early r _ _ (by omega) (by omega) hf.2 x hx
theorem flat_len (l : List Nat) : (l.flatMap (fun c => Bt.bitsOf true c 9)).length = 9 * l.length := by
  induction l with
  | nil => rfl
  | cons c r ih => rw [List.flatMap_cons, List.length_append, ih, Bt.bitsOf_length, List.length_cons]; omega
theorem flat_at (l : List Nat) (i : Nat) (h : i < l.length) : ∃ A R, l.flatMap (fun c => Bt.bitsOf true c 9) = A ++ Bt.bitsOf true l[i] 9 ++ R ∧ A.length = 9 * i := by
  refine ⟨(l.take i).flatMap (fun c => Bt.bitsOf true c 9), (l.drop (i + 1)).flatMap (fun c => Bt.bitsOf true c 9), ?_, ?_⟩
  · conv => lhs; rw [← List.take_append_drop i l, List.drop_eq_getElem_cons h]
    rw [List.flatMap_append, List.flatMap_cons, List.append_assoc]
  · rw [flat_len, List.length_take, Nat.min_eq_left (by omega)]
theorem putB_nine (s : ByteArray) (early : Bool) (h : s.size ≤ 200) : putB early s = (codes (tailB s 0)).flatMap (fun c => Bt.bitsOf true c 9) ∧ (∀ c ∈ codes (tailB s 0), c < 512) ∧ (codes (tailB s 0)).length ≤ s.size + 2 := by
  have h1 := codes_small (tailB s 0) (by rw [tailB_len]; omega)
  rw [tailB_len] at h1
  exact ⟨putF_flat early _ _ _ (by omega) (by omega), fits_nine early _ _ _ (by omega) (by omega) (codes_fits early _ (tailB_lt s 0)), by omega⟩
theorem nine_back (s : ByteArray) (early : Bool) (h : s.size ≤ 200) (i : Nat) (hi : i < (codes (tailB s 0)).length) : Bt.getv (putS early s) true (9 * i) 9 = (codes (tailB s 0))[i] := by
  obtain ⟨e, hc, _⟩ := putB_nine s early h
  obtain ⟨A, R, hA, hl⟩ := flat_at _ i hi
  rw [← hl]
  refine Bv.getv_put true _ A R _ 9 (putF_bin _ _ _ _) (hc _ (List.getElem_mem hi)) ?_
  show putB early s = _
  rw [e, hA]
theorem putS_size (s : ByteArray) (early : Bool) (h : s.size ≤ 200) : (putS early s).size = (9 * (codes (tailB s 0)).length + 7) / 8 := by
  obtain ⟨e, _, _⟩ := putB_nine s early h
  rw [putS, Bt.txt_size, Bt.packB_length, e, flat_len]
theorem putS_same (s : ByteArray) (h : s.size ≤ 200) : putS true s = putS false s := by
  unfold putS
  rw [(putB_nine s true h).1, (putB_nine s false h).1]
theorem and_one8 (x : Nat) (h : x < 2 ^ 8) : bits BinOp.and IntKind.u8 (x : Int) 1 = ((x % 2 : Nat) : Int) := by
  have h7 : (BitVec.ofInt 8 1).toNat = 1 := by decide
  have hx : (BitVec.ofInt 8 (x : Int)).toNat = x := by
    rw [BitVec.toNat_ofInt]
    omega
  have h8 : (BitVec.ofInt 8 (x : Int) &&& BitVec.ofInt 8 1).toNat = x % 2 := by
    rw [BitVec.toNat_and, h7, hx, Nat.and_one_is_mod]
  show IntKind.u8.wrap ((BitVec.ofInt 8 (x : Int) &&& BitVec.ofInt 8 1).toNat : Int) = _
  rw [h8, IntKind.wrap_u8]
  omega
theorem bit8 (s : ByteArray) (p : Nat) (h : p / 8 < s.size) : bits BinOp.and IntKind.u8 (((s[p / 8]'h).toNat : Int) / 2 ^ (7 - p % 8)) 1 = ((Bt.bit s true p : Nat) : Int) := by
  have h1 := and_one8 ((s[p / 8]'h).toNat / 2 ^ (7 - p % 8)) (Nat.lt_of_le_of_lt (Nat.div_le_self _ _) (by have := (s[p / 8]'h).toNat_lt; omega))
  have h2 : ((((s[p / 8]'h).toNat / 2 ^ (7 - p % 8) : Nat)) : Int) = ((s[p / 8]'h).toNat : Int) / 2 ^ (7 - p % 8) := by push_cast; rfl
  rw [h2] at h1
  rw [h1, Bt.byteAt_eq]
  simp [Bt.bit, Bt.bitOf]

set_option maxRecDepth 100000 in
set_option maxHeartbeats 8000000 in
theorem widths_walk (s : ByteArray) (w : World) (_hs : s.size ≤ maxLen) :
    Calls Try.prog 3 #[.string s] w fun e w' => e = .returned (.bool true) ∧ Ext [] w w' := by
  unfold maxLen at _hs
  by_cases h2 : s.size ≤ 200
  · obtain ⟨cl, hcl⟩ : ∃ cl, cl = codes (tailB s 0) := ⟨_, rfl⟩
    obtain ⟨p, hp⟩ : ∃ p, p = putS true s := ⟨_, rfl⟩
    have hq : p = putS false s := by rw [hp]; exact putS_same s h2
    have hsz := putS_size s true h2
    rw [← hp, ← hcl] at hsz
    have hlen := (putB_nine s true h2).2.2
    rw [← hcl] at hlen
    have hnine := fun i hi => nine_back s true h2 i hi
    rw [← hp, ← hcl] at hnine
    have hpos : 0 < cl.length := by rw [hcl]; simp [codes]
    have hz : ((p.size : Int) != (9 * (cl.length : Int) + 7) / 8) = false := by simp; omega
    have HC := Lib.hid hcl
    have HP := Lib.hid hp
    have HQ := Lib.hid hq
    have HZ := Lib.hid hsz
    have HN := Lib.hid hnine
    clear hcl hp hq hsz hnine
    go_enter Try.func3, Try.ntmps3
    go_wp2_with fail
    refine (lives_any w).mono ?_; rintro e w1 ⟨rfl, hx⟩
    have S := (Sep.start w).quiet hx
    clear hx
    go_wp2_with fail
    refine (sCodes s (by omega) S).mono ?_; clear S; rintro e w2 ⟨v, rfl, S⟩
    rw [← HC.out] at S
    obtain ⟨g, cap, hv⟩ := row_form (S.get 0 rfl) hpos
    rw [hv] at S ⊢
    clear hv
    have HS := Lib.hid S
    clear S
    go_wp2_with fail
    refine (put_walk s true _ (by omega)).mono ?_; rintro e w3 ⟨rfl, hx3⟩
    rw [← HP.out]
    go_wp2_with fail
    refine (put_walk s false _ (by omega)).mono ?_; rintro e w4 ⟨rfl, hx4⟩
    rw [← HQ.out]
    have S := (HS.out.quiet hx3).quiet hx4
    clear HS hx3 hx4
    have HS := Lib.hid S
    clear S
    go_wp2_with fail
    clear hz
    go_loopg [6, 7, 8] cl.length (fun gg i vv kk wr => ∃ k : Nat, gg + k = cl.length ∧ i = .int .i64 k ∧ wr = w4)
    case atStart => exact ⟨0, by omega, rfl, rfl⟩
    case round =>
      obtain ⟨k, hk, rfl, rfl⟩ := hrel
      by_cases hlt : k < cl.length
      · have hcell : wr.cell? ⟨g, k, none⟩ = some (.int .i64 cl[k]) := ownsRow_at (HS.out.get 0 rfl) (by simp [hlt, iv])
        go_wp2_with fail
        go_loopg [7, 8] 9 (fun g2 vv kk wr2 => ∃ j : Nat, g2 + j = 9 ∧ kk = .int .i64 (9 * k + j : Nat) ∧ vv = .int .i64 (Bt.getv p true (9 * k) j) ∧ wr2 = wr)
        case atStart => exact ⟨0, by omega, by go_num, rfl, rfl⟩
        case round =>
          obtain ⟨j, hj, rfl, rfl, rfl⟩ := hrel
          by_cases hj9 : j < 9
          · have hb1 := Bt.bit_le p true (9 * k + j)
            have hg1 := Bt.getv_lt p true (9 * k) j
            have hg2 : 2 ^ j ≤ 2 ^ 9 := Nat.pow_le_pow_right (by omega) (by omega)
            have hp8 : (9 * k + j) / 8 < p.size := by have := HZ.out; omega
            have e1 := bit8 p (9 * k + j) hp8
            have hg3 : Bt.getv p true (9 * k) j ≤ 511 := by omega
            have hgs : Bt.getv p true (9 * k) (j + 1) = 2 * Bt.getv p true (9 * k) j + Bt.bit p true (9 * k + j) := by rw [Bt.getv]; rfl
            have HG := Lib.hid hgs
            clear hg1 hg2 hgs
            generalize Bt.getv p true (9 * k) j = gv at hg3 HG
            generalize Bt.bit p true (9 * k + j) = bv at hb1 e1 HG
            go_wp2_with fail
            go_roundg (9 - (j + 1))
            case measure => omega
            case rel => exact ⟨j + 1, by omega, by go_num, by rw [HG.out]; go_num, rfl⟩
          · obtain rfl : j = 9 := by omega
            have e9 := HN.out k hlt
            generalize cl[k] = ck at hcell e9
            rw [e9]
            go_wp2_with fail
            go_roundg (cl.length - (k + 1))
            case measure => omega
            case rel => exact ⟨k + 1, by omega, by go_num, rfl⟩
      · go_wp2_with fail
        go_ret
        exact ⟨rfl, HS.out.ext⟩
  · go_enter Try.func3, Try.ntmps3
    go_wp2_with fail
    refine (lives_any w).mono ?_; rintro e w1 ⟨rfl, hx⟩
    go_wp2_with fail
    go_ret
    exact ⟨rfl, hx⟩
end Go.Proofs.Ytcbllkopolbhaaa.Lz
