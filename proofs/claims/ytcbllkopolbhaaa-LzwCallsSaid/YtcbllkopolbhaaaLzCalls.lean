/-
  LzwCalls: codes are put and read as the document says.
-/
import Derived.Test.YtcbllkopolbhaaaLzRd
import Derived.Test.YtcbllkopolbhaaaLzCuts
namespace Go.Proofs.Ytcbllkopolbhaaa.Lz
open Go.RowKit Go.Maps

set_option maxRecDepth 100000 in
set_option maxHeartbeats 4000000 in
theorem rget_any (s : ByteArray) (early : Bool) (budget : Int) (w : World) (hs : s.size ≤ 100000) (hb0 : -9223372036854775808 ≤ budget) (hb1 : budget ≤ 9223372036854775807) :
    Calls Try.prog 13 #[.string s, .bool early, .int .i64 budget] w fun e w' => e = .returned (.tuple #[.string (Bt.txt (getL s early budget).1), .int .i64 (getL s early budget).2]) ∧ Ext [] w w' := by
  by_cases h : budget < 0
  · have hg : getL s early budget = ([], 2) := if_pos h
    rw [hg]
    go_enter Try.func13, Try.ntmps13
    go_wp2_with fail
    go_ret2
    exact ⟨rfl, Ext.refl _ _⟩
  · exact rget_walk s early budget w hs (by omega) hb1

set_option maxRecDepth 100000 in
set_option maxHeartbeats 8000000 in
theorem calls_walk (s t : ByteArray) (early : Bool) (budget : Int) (w : World) (_hs : s.size ≤ maxLen) (_ht : t.size ≤ maxLen) (wb : (Lit.int .i64 budget).wf = true) :
    Calls Try.prog 5 #[.string s, .string t, .bool early, .int .i64 budget] w fun e w' => e = .returned (.bool true) ∧ Ext [] w w' := by
  unfold maxLen at _hs _ht
  obtain ⟨hb0, hb1⟩ := wf_i64 wb
  clear wb
  by_cases h1 : s.size ≤ 700
  · by_cases h2 : t.size ≤ 700
    · by_cases h3 : budget ≤ 20000
      · generalize hR : getL t early budget = R
        obtain ⟨Ra, Rb⟩ := R
        have HR := Lib.hid hR
        clear hR
        generalize hP : putS early s = p
        have HP := Lib.hid hP
        generalize hC : codes (tailB s 0) = cl
        have HC := Lib.hid hC
        have hpos : 0 < cl.length := by rw [← hC]; simp [codes]
        clear hP hC
        go_enter Try.func5, Try.ntmps5
        go_wp2_with fail
        refine (lives14 w).mono ?_; rintro e w1 ⟨rfl, hx⟩
        have S := (Sep.start w).quiet hx
        clear hx
        go_wp2_with fail
        refine (get_any t early budget _ (by omega) hb0 hb1).mono ?_; rintro e w2 ⟨rfl, hx⟩
        rw [HR.out]
        have S := S.quiet hx
        clear hx
        go_wp2_with fail
        refine (rget_any t early budget _ (by omega) hb0 hb1).mono ?_; rintro e w3 ⟨rfl, hx⟩
        rw [HR.out]
        have S := S.quiet hx
        clear hx
        go_wp2_with fail
        refine (sCodes s (by omega) S).mono ?_; clear S; rintro e w4 ⟨v1, rfl, S⟩
        rw [HC.out] at S
        go_wp2_with fail
        refine (sRCodes s (by omega) S).mono ?_; clear S; rintro e w5 ⟨v2, rfl, S⟩
        rw [HC.out] at S
        go_wp2_with fail
        refine (same_any v1 v2 cl cl _ (S.get 1 rfl) (S.get 0 rfl)).mono ?_; rintro e w6 ⟨rfl, hx⟩
        rw [show decide (cl = cl) = true by simp]
        have S := S.quiet hx
        clear hx
        go_wp2_with fail
        refine (put_walk s early _ (by omega)).mono ?_; rintro e w7 ⟨rfl, hx⟩
        rw [HP.out]
        have S := S.quiet hx
        clear hx
        go_wp2_with fail
        refine (rput_walk s early _ (by omega)).mono ?_; rintro e w8 ⟨rfl, hx⟩
        rw [HP.out]
        have S := S.quiet hx
        clear hx
        go_wp2_with fail
        go_ret
        exact ⟨rfl, S.ext⟩
      · have h3' : 20000 < budget := by omega
        go_enter Try.func5, Try.ntmps5
        go_wp2_with fail
        refine (lives14 w).mono ?_; rintro e w1 ⟨rfl, hx⟩
        go_wp2_with fail
        go_ret
        exact ⟨rfl, hx⟩
    · have h2' : 700 < t.size := by omega
      go_enter Try.func5, Try.ntmps5
      go_wp2_with fail
      refine (lives14 w).mono ?_; rintro e w1 ⟨rfl, hx⟩
      go_wp2_with fail
      go_ret
      exact ⟨rfl, hx⟩
  · have h1' : 700 < s.size := by omega
    go_enter Try.func5, Try.ntmps5
    go_wp2_with fail
    refine (lives14 w).mono ?_; rintro e w1 ⟨rfl, hx⟩
    go_wp2_with fail
    go_ret
    exact ⟨rfl, hx⟩
end Go.Proofs.Ytcbllkopolbhaaa.Lz
