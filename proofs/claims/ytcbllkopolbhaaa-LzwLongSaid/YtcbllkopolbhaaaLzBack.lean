/-
  LzwBack: Get of Put is the text, early or not, whatever stands behind.
-/
import Derived.Test.YtcbllkopolbhaaaLzBackP
import Derived.Test.YtcbllkopolbhaaaLzS
namespace Go.Proofs.Ytcbllkopolbhaaa.Lz
open Go.RowKit Go.Maps

set_option maxRecDepth 100000 in
set_option maxHeartbeats 4000000 in
theorem get_any (s : ByteArray) (early : Bool) (budget : Int) (w : World) (hs : s.size ≤ 1048576) (hb0 : -9223372036854775808 ≤ budget) (hb1 : budget ≤ 9223372036854775807) :
    Calls Try.prog 12 #[.string s, .bool early, .int .i64 budget] w fun e w' => e = .returned (.tuple #[.string (Bt.txt (getL s early budget).1), .int .i64 (getL s early budget).2]) ∧ Ext [] w w' := by
  by_cases h : budget < 0
  · have hg : getL s early budget = ([], 2) := if_pos h
    rw [hg]
    go_enter Try.func12, Try.ntmps12
    go_wp2_with fail
    go_ret2
    exact ⟨rfl, Ext.refl _ _⟩
  · exact get_walk s early budget w hs (by omega) hb1

theorem txt_tail (s : ByteArray) : Bt.txt (tailB s 0) = s := by
  unfold Bt.txt tailB
  have h : ((List.range (s.size - 0)).map fun i => Bt.byteAt s (0 + i)).map UInt8.ofNat = s.data.toList := by
    apply List.ext_getElem
    · simp
    · intro i h1 h2
      have hi : i < s.size := by simpa using h2
      simp only [List.getElem_map, List.getElem_range, Nat.zero_add]
      rw [← Bt.byteAt_eq s i hi, UInt8.ofNat_toNat]
      rfl
  rw [h]
theorem putB_eq (s : ByteArray) (early : Bool) : putB early s = Bt.bitsOf true 256 (wid 258 early) ++ putF early (max 258 257) false (codesF (tailB s 0).length [] 257 (tailB s 0)) := rfl
theorem get_put (t s : ByteArray) (early : Bool) (budget : Int) (hr : Rd t (putB early s)) (hb : 0 ≤ budget) (hcut : 8 * t.size < (putB early s).length → (s.size : Int) ≤ budget) :
    getL t early budget = if 8 * t.size < (putB early s).length then ([], 8) else if budget < s.size then ([], 3) else (tailB s 0, 0) := by
  have hL := putB_eq s early
  have hfit := codesF_fits early (tailB s 0).length [] 257 false (tailB s 0) (tailB_lt s 0) (by simp) (by omega) (fun _ => rfl) (fun h => by cases h)
  have hlen := tailB_len s 0
  have hll : (putB early s).length = wid 258 early + (putF early (max 258 257) false (codesF (tailB s 0).length [] 257 (tailB s 0))).length := by rw [hL, List.length_append, Bt.bitsOf_length]
  have hw := wid_le 258 early
  rw [getL, if_neg (by omega)]
  by_cases hm : 8 * t.size < 0 + wid (258 + ([] : List (Nat × Nat)).length) early
  · rw [getF_more hm, if_pos (by simp at hm; omega)]
  · have h0 : ([] : List Nat).length = 0 := rfl
    have hrd : Bt.getv t true 0 (wid (258 + ([] : List (Nat × Nat)).length) early) = 256 := read_one (A := []) hr (by rw [hL]; rfl) (wid_small _ _ _ (by omega)) (by simpa using hm)
    rw [getF_clear hm hrd]
    have e0 : 0 + wid (258 + ([] : List (Nat × Nat)).length) early = (Bt.bitsOf true 256 (wid 258 early)).length := by rw [Bt.bitsOf_length]; simp
    rw [e0]
    have := sim t (putB early s) early budget hr (tailB s 0).length [] 257 false (tailB s 0) [] (-1) [] [] (8 * t.size) (Bt.bitsOf true 256 (wid 258 early)) (Nat.le_refl _) (tailB_lt s 0) (by omega) (.inl ⟨rfl, rfl, rfl, rfl, rfl⟩)
      hfit hL (by rw [Bt.bitsOf_length]; simpa using hm) (by rw [Bt.bitsOf_length]; omega) (by simpa using hb) (fun h => by have := hcut h; simp; omega)
    rw [this]
    simp only [List.nil_append, hlen, Nat.sub_zero]
theorem putS_sz (s : ByteArray) (early : Bool) : (putS early s).size = ((putB early s).length + 7) / 8 := by rw [putS, Bt.txt_size, Bt.packB_length]
theorem Rd.put (s : ByteArray) (early : Bool) : Rd (putS early s) (putB early s) := fun i hi h8 => Bt.bit_txt true _ (putF_bin _ _ _ _) i (by rw [putS_sz] at h8; exact h8)
theorem byteAt_append (a b : ByteArray) (i : Nat) (h : i < a.size) : Bt.byteAt (a ++ b) i = Bt.byteAt a i := by
  have e : (a ++ b).data.toList = a.data.toList ++ b.data.toList := by simp
  unfold Bt.byteAt
  rw [e, List.getD_eq_getElem?_getD, List.getD_eq_getElem?_getD, List.getElem?_append_left (by simpa using h)]
theorem Rd.behind (s b : ByteArray) (early : Bool) : Rd (putS early s ++ b) (putB early s) := fun i hi _ => by
  have hsz := putS_sz s early
  rw [← Rd.put s early i hi (by omega)]
  unfold Bt.bit
  rw [byteAt_append _ _ _ (by omega)]
theorem putS_bound (s : ByteArray) (early : Bool) (h : s.size ≤ 60000) : (putS early s).size ≤ 200000 := by
  have h1 := putF_len early 258 false (codes (tailB s 0))
  have h2 := codes_len (tailB s 0)
  rw [tailB_len] at h2
  have h3 := putS_sz s early
  have h4 : (putB early s).length ≤ 12 * (codes (tailB s 0)).length := h1
  omega

set_option maxRecDepth 100000 in
set_option maxHeartbeats 8000000 in
theorem back_walk (s behind : ByteArray) (early : Bool) (w : World) (_hs : s.size ≤ maxLen) (_hb : behind.size ≤ maxLen) :
    Calls Try.prog 6 #[.string s, .string behind, .bool early] w fun e w' => e = .returned (.bool true) ∧ Ext [] w w' := by
  unfold maxLen at _hs _hb
  by_cases h1 : s.size ≤ 700
  · by_cases h2 : behind.size ≤ 700
    · have hp := putS_bound s early (by omega)
      have hsz := putS_sz s early
      have hap : (putS early s ++ behind).size = (putS early s).size + behind.size := by simp
      have hg1 : getL (putS early s ++ behind) early s.size = (tailB s 0, 0) := by
        rw [get_put _ s early _ (Rd.behind s behind early) (by omega) (fun h => by omega), if_neg (by omega), if_neg (by omega)]
      have hg2 : getL (putS early s) early (s.size - 1) = if s.size = 0 then ([], 2) else ([], 3) := by
        by_cases h0 : s.size = 0
        · rw [if_pos h0, getL, if_pos (by omega)]
        · rw [if_neg h0, get_put _ s early _ (Rd.put s early) (by omega) (fun h => by omega), if_neg (by omega), if_pos (by omega)]
      have HG1 := Lib.hid hg1
      have HG2 := Lib.hid hg2
      have HA := Lib.hid hap
      clear hg1 hg2 hap hsz
      obtain ⟨p, hpp⟩ : ∃ p, p = putS early s := ⟨_, rfl⟩
      rw [← hpp] at hp HG1 HG2 HA
      have HP := Lib.hid hpp
      clear hpp
      go_enter Try.func6, Try.ntmps6
      go_wp2_with fail
      refine (lives14 w).mono ?_; rintro e w1 ⟨rfl, hx⟩
      go_wp2_with fail
      refine (put_walk s early _ (by omega)).mono ?_; rintro e w2 ⟨rfl, hx2⟩
      rw [← HP.out]
      have hx := hx.trans hx2
      clear hx2
      go_wp2_with fail
      refine (get_any (p ++ behind) early s.size _ (by have := HA.out; omega) (by omega) (by omega)).mono ?_; rintro e w3 ⟨rfl, hx3⟩
      rw [HG1.out, txt_tail]
      have hx := hx.trans hx3
      clear hx3
      go_wp2_with fail
      refine (get_any p early (s.size - 1) _ (by omega) (by omega) (by omega)).mono ?_; rintro e w4 ⟨rfl, hx4⟩
      have hx := hx.trans hx4
      clear hx4
      rw [HG2.out]
      by_cases h0 : s.size = 0
      · rw [if_pos h0]
        go_wp2_with fail
        go_ret
        exact ⟨rfl, hx⟩
      · rw [if_neg h0]
        have h0' : 0 < s.size := by omega
        go_wp2_with fail
        go_ret
        exact ⟨rfl, hx⟩
    · have h2' : 700 < behind.size := by omega
      go_enter Try.func6, Try.ntmps6
      go_wp2_with fail
      refine (lives14 w).mono ?_; rintro e w1 ⟨rfl, hx⟩
      go_wp2_with fail
      go_ret
      exact ⟨rfl, hx⟩
  · have h1' : 700 < s.size := by omega
    go_enter Try.func6, Try.ntmps6
    go_wp2_with fail
    refine (lives14 w).mono ?_; rintro e w1 ⟨rfl, hx⟩
    go_wp2_with fail
    go_ret
    exact ⟨rfl, hx⟩
end Go.Proofs.Ytcbllkopolbhaaa.Lz
