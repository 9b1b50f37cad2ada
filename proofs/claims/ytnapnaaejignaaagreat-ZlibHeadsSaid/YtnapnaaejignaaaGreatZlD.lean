/-
  zlib: Get, Salvage walked.
-/
import Derived.Test.YtnapnaaejignaaaGreatZlF
import Derived.Test.YtnapnaaejignaaaGreatPkP
namespace Go.Proofs.YtnapnaaejignaaaGreat.De
open Go.RowKit Bt Hu If Mt

theorem nOf_le (s : ByteArray) (b : Nat) : nOf (runR s b) ≤ s.size := by
  cases h : runR s b with
  | ok a p o =>
    have := run_fits h
    show (p + 7) / 8 ≤ s.size
    omega
  | er e o => exact Nat.zero_le _
theorem outOf_le (s : ByteArray) (b : Nat) : (outOf (runR s b)).length ≤ b := (runR_g (s := s) (B := b)).1
theorem run_parts (s : ByteArray) (b : Nat) (w : World) (hs : s.size ≤ 1048576) (hb : b ≤ 1099511627776) :
    Calls Tryz.prog 19 #[.string s, .int .i64 b] w fun e w' => e = .returned (.tuple #[.string (txt (outOf (runR s b))), .int .i64 (nOf (runR s b) : Nat), .int .i64 (eOf (runR s b))]) ∧ Ext [] w w' := by
  have h := run_walk s b w hs hb
  rw [runV_parts] at h
  exact h
theorem tail_size (s : ByteArray) (k : Nat) : (tailB s k).size = s.size - k := by
  unfold tailB
  simp
set_option maxRecDepth 100000 in
set_option maxHeartbeats 8000000 in
theorem zget_walk (s : ByteArray) (b : Int) (w : World) (hs : s.size ≤ 1048576) (hb : b ≤ 4096) :
    Calls Tryz.prog 10 #[.string s, .int .i64 b] w fun e w' => e = .returned (.tuple #[.string (getZ s b).1, .int .i64 (getZ s b).2]) ∧ Ext [] w w' := by
  by_cases h0 : b < 0
  · have e : getZ s b = (txt [], 2) := by unfold getZ; rw [if_pos h0]
    rw [e]
    clear e
    go_enter Tryz.func10, Tryz.ntmps10
    go_wp2_with fail
    exact bodyPost_ret (results_tmp2 rfl _ _ _) rfl ⟨rfl, Ext.refl _ _⟩
  obtain ⟨bb, rfl⟩ : ∃ bb : Nat, b = bb := ⟨b.toNat, by omega⟩
  by_cases h2 : s.size < 2
  · have e : getZ s (bb : Int) = (txt [], 8) := by unfold getZ; rw [if_neg h0, if_pos h2]
    rw [e]
    clear e
    have h2z : (s.size : Int) < 2 := by omega
    go_enter Tryz.func10, Tryz.ntmps10
    go_wp2_with fail
    exact bodyPost_ret (results_tmp2 rfl _ _ _) rfl ⟨rfl, Ext.refl _ _⟩
  have h2z : ¬ (s.size : Int) < 2 := by omega
  have hfw := fun w => framed_walk s w
  cases hf : frB s with
  | false =>
    have e : getZ s (bb : Int) = (txt [], 4) := by unfold getZ; rw [if_neg h0, if_neg h2, if_pos hf]
    rw [e]
    rw [hf] at hfw
    have HFW := Lib.hid hfw
    clear e hf hfw
    go_enter Tryz.func10, Tryz.ntmps10
    go_wp2_with fail
    refine (HFW.out w).mono ?_
    rintro e w1 ⟨rfl, hx⟩
    have HX := Lib.hid hx
    clear hx
    go_wp2_with fail
    exact bodyPost_ret (results_tmp2 rfl _ _ _) rfl ⟨rfl, HX.out⟩
  | true =>
    rw [hf] at hfw
    have HFW := Lib.hid hfw
    obtain ⟨T, hT⟩ : ∃ T, tailB s 2 = T := ⟨_, rfl⟩
    have hTs : T.size = s.size - 2 := by rw [← hT]; exact tail_size s 2
    have hTx : s.extract 2 s.size = T := hT
    have hrw := fun w => run_parts T bb w (by omega) (by omega)
    have hn := nOf_le T bb
    have ho := outOf_le T bb
    have hg : getZ s (bb : Int) = if eOf (runR T bb) ≠ 0 then (txt [], eOf (runR T bb)) else if T.size - nOf (runR T bb) < 4 then (txt [], 8) else if num4 (tailB T (nOf (runR T bb))) ≠ adlN (Mt.B (txt (outOf (runR T bb)))) then (txt [], 4) else (txt (outOf (runR T bb)), 0) := by
      unfold getZ
      rw [if_neg h0, if_neg h2, hf, if_neg (by simp), Int.toNat_natCast, hT]
    obtain ⟨e0, he⟩ : ∃ e0, eOf (runR T bb) = e0 := ⟨_, rfl⟩
    obtain ⟨n0, hn0⟩ : ∃ n0, nOf (runR T bb) = n0 := ⟨_, rfl⟩
    obtain ⟨o0, ho0⟩ : ∃ o0, outOf (runR T bb) = o0 := ⟨_, rfl⟩
    simp only [he, hn0, ho0] at hrw hn ho hg
    have hO : (txt o0).size = o0.length := txt_size o0
    obtain ⟨O, hOO⟩ : ∃ O, txt o0 = O := ⟨_, rfl⟩
    simp only [hOO] at hrw hg hO
    have hUs := tail_size T n0
    obtain ⟨U, hU⟩ : ∃ U, tailB T n0 = U := ⟨_, rfl⟩
    rw [hU] at hg hUs
    have hUx : T.extract n0 T.size = U := hU
    have hO9 : O.size ≤ 4096 := by omega
    obtain ⟨r1, r2, hr⟩ : ∃ r1 r2, getZ s (bb : Int) = (r1, r2) := ⟨_, _, rfl⟩
    rw [hr] at hg ⊢
    have HG := Lib.hid hg.symm
    clear hr
    have HRW := Lib.hid hrw
    have HTX := Lib.hid hTx
    have HUX := Lib.hid hUx
    have n1 : (0 : Int) ≤ (n0 : Int) := by omega
    have n2 : (n0 : Int) ≤ (T.size : Int) := by omega
    have s2 : (2 : Int) ≤ (s.size : Int) := by omega
    have HUS := Lib.hid hUs
    clear hg hrw hTx hUx hU hOO hO ho ho0 hn0 he hf hfw hT hTs hUs
    show Calls Tryz.prog 10 #[.string s, .int .i64 (bb : Int)] w fun e w' => e = .returned (.tuple #[.string r1, .int .i64 r2]) ∧ Ext [] w w'
    go_enter Tryz.func10, Tryz.ntmps10
    go_wp2_with fail
    refine (HFW.out w).mono ?_
    rintro e w1 ⟨rfl, hx⟩
    have HX := Lib.hid hx
    clear hx
    go_upto_region 8 with fail
    rw [HTX.out]
    go_wp2_with fail
    refine (HRW.out w1).mono ?_
    rintro e w2 ⟨rfl, hx⟩
    have HX := Lib.hid (HX.out.trans hx)
    clear hx
    go_upto_region 10 with fail
    rw [HUX.out]
    by_cases q1 : e0 = 0
    · subst q1
      have hG := HG.out
      rw [if_neg (by simp : ¬ (0 : Int) ≠ 0)] at hG
      have hUs := HUS.out
      by_cases q2 : T.size - n0 < 4
      · have q2z : (U.size : Int) < 4 := by omega
        clear hUs
        rw [if_pos q2] at hG
        obtain ⟨rfl, rfl⟩ := Prod.mk.inj hG
        go_wp2_with fail
        exact bodyPost_ret (results_tmp2 rfl _ _ _) rfl ⟨rfl, HX.out⟩
      · have q2z : ¬ (U.size : Int) < 4 := by omega
        have q2n : 4 ≤ U.size := by omega
        clear hUs
        rw [if_neg q2] at hG
        have HG2 := Lib.hid hG
        clear hG
        go_wp2_with fail
        refine (number_walk U w2 q2n).mono ?_
        rintro e w3 ⟨rfl, hx⟩
        have HX := Lib.hid (HX.out.trans hx)
        clear hx
        go_wp2_with fail
        refine (adler_walk O w3 hO9).mono ?_
        rintro e w4 ⟨rfl, hx⟩
        have HX := Lib.hid (HX.out.trans hx)
        clear hx
        have hG := HG2.out
        by_cases q3 : num4 U = adlN (Mt.B O)
        · rw [if_neg (fun h => h q3)] at hG
          obtain ⟨rfl, rfl⟩ := Prod.mk.inj hG
          clear hG
          obtain ⟨x, hx⟩ : ∃ x, adlN (Mt.B O) = x := ⟨_, rfl⟩
          rw [q3, hx]
          go_wp2_with fail
          exact bodyPost_ret (results_tmp2 rfl _ _ _) rfl ⟨rfl, HX.out⟩
        · rw [if_pos q3] at hG
          obtain ⟨rfl, rfl⟩ := Prod.mk.inj hG
          clear hG
          obtain ⟨x, hx⟩ : ∃ x, adlN (Mt.B O) = x := ⟨_, rfl⟩
          obtain ⟨y, hy⟩ : ∃ y, num4 U = y := ⟨_, rfl⟩
          rw [hx, hy] at q3 ⊢
          have q4 : ((y : Int) == (x : Int)) = false := beq_eq_false_iff_ne.2 (by omega)
          have q5 : (y == x) = false := beq_eq_false_iff_ne.2 q3
          clear hx hy
          go_wp2_with fail
          exact bodyPost_ret (results_tmp2 rfl _ _ _) rfl ⟨rfl, HX.out⟩
    · have hG := HG.out
      rw [if_pos q1] at hG
      obtain ⟨rfl, rfl⟩ := Prod.mk.inj hG
      clear hG
      have q4 : (e0 == 0) = false := beq_eq_false_iff_ne.2 q1
      go_wp2_with fail
      exact bodyPost_ret (results_tmp2 rfl _ _ _) rfl ⟨rfl, HX.out⟩
set_option maxRecDepth 100000 in
set_option maxHeartbeats 8000000 in
theorem zsal_walk (s : ByteArray) (b : Int) (w : World) (hs : s.size ≤ 1048576) (hb : b ≤ 4096) :
    Calls Tryz.prog 11 #[.string s, .int .i64 b] w fun e w' => e = .returned (.tuple #[.string (salZ s b).1, .bool (salZ s b).2]) ∧ Ext [] w w' := by
  have hgw := fun w => zget_walk s b w hs hb
  obtain ⟨g1, hg1⟩ : ∃ g1, (getZ s b).1 = g1 := ⟨_, rfl⟩
  obtain ⟨g2, hg2⟩ : ∃ g2, (getZ s b).2 = g2 := ⟨_, rfl⟩
  rw [hg1, hg2] at hgw
  have hsal : salZ s b = if g2 = 0 then (g1, true) else if b < 0 then (txt [], false) else (txt (outOf (runR (salT s) b.toNat)), false) := by
    unfold salZ
    rw [hg1, hg2]
  have HSAL := Lib.hid hsal
  have HGW := Lib.hid hgw
  have hfw := fun w => framed_walk s w
  clear hsal hgw hg1 hg2
  rw [HSAL.out]
  by_cases q1 : g2 = 0
  · subst q1
    rw [if_pos rfl]
    go_enter Tryz.func11, Tryz.ntmps11
    go_wp2_with fail
    refine (HGW.out w).mono ?_
    rintro e w1 ⟨rfl, hx⟩
    have HX := Lib.hid hx
    clear hx
    go_wp2_with fail
    exact bodyPost_ret (results_tmp2 rfl _ _ _) rfl ⟨rfl, HX.out⟩
  · rw [if_neg q1]
    have q4 : (g2 == 0) = false := beq_eq_false_iff_ne.2 q1
    have key : ∀ w, Calls Tryz.prog 19 #[.string (salT s), .int .i64 b] w fun e w' => (∃ n r : Int, e = .returned (.tuple #[.string (if b < 0 then txt [] else txt (outOf (runR (salT s) b.toNat))), .int .i64 n, .int .i64 r])) ∧ Ext [] w w' := fun w => by
      by_cases h0 : b < 0
      · rw [if_pos h0]
        refine (run_neg (salT s) b w h0).mono ?_
        rintro e w' ⟨rfl, hx⟩
        exact ⟨⟨_, _, rfl⟩, hx⟩
      · rw [if_neg h0]
        obtain ⟨bb, rfl⟩ : ∃ bb : Nat, b = bb := ⟨b.toNat, by omega⟩
        rw [Int.toNat_natCast]
        refine (run_parts (salT s) bb w ?_ (by omega)).mono ?_
        · unfold salT
          split
          · rw [tail_size]; omega
          · exact hs
        · rintro e w' ⟨rfl, hx⟩
          exact ⟨⟨_, _, rfl⟩, hx⟩
    have e2 : (if b < 0 then (txt [], false) else (txt (outOf (runR (salT s) b.toNat)), false) : ByteArray × Bool) = ((if b < 0 then txt [] else txt (outOf (runR (salT s) b.toNat))), false) := by split <;> rfl
    rw [e2]
    obtain ⟨O, hO⟩ : ∃ O, (if b < 0 then txt [] else txt (outOf (runR (salT s) b.toNat))) = O := ⟨_, rfl⟩
    simp only [hO] at key ⊢
    clear e2 hO
    cases hf : frB s with
    | true =>
      have hT : salT s = s.extract 2 s.size := by unfold salT; rw [hf, if_pos rfl]; rfl
      have h2 : 2 ≤ s.size := by unfold frB at hf; exact (of_decide_eq_true hf).1
      have s2 : (2 : Int) ≤ (s.size : Int) := by omega
      rw [hf] at hfw
      rw [hT] at key
      have HFW := Lib.hid hfw
      have HK := Lib.hid key
      clear hf hT key hfw h2
      go_enter Tryz.func11, Tryz.ntmps11
      go_wp2_with fail
      refine (HGW.out w).mono ?_
      rintro e w1 ⟨rfl, hx⟩
      have HX := Lib.hid hx
      clear hx
      go_wp2_with fail
      refine (HFW.out w1).mono ?_
      rintro e w2 ⟨rfl, hx⟩
      have HX := Lib.hid (HX.out.trans hx)
      clear hx
      go_wp2_with fail
      refine (HK.out w2).mono ?_
      rintro e w3 ⟨⟨n, r, rfl⟩, hx⟩
      have HX := Lib.hid (HX.out.trans hx)
      clear hx
      go_wp2_with fail
      exact bodyPost_ret (results_tmp2 rfl _ _ _) rfl ⟨rfl, HX.out⟩
    | false =>
      have hT : salT s = s := by unfold salT; rw [hf, if_neg (by simp)]
      rw [hf] at hfw
      rw [hT] at key
      have HFW := Lib.hid hfw
      have HK := Lib.hid key
      clear hf hT key hfw
      go_enter Tryz.func11, Tryz.ntmps11
      go_wp2_with fail
      refine (HGW.out w).mono ?_
      rintro e w1 ⟨rfl, hx⟩
      have HX := Lib.hid hx
      clear hx
      go_wp2_with fail
      refine (HFW.out w1).mono ?_
      rintro e w2 ⟨rfl, hx⟩
      have HX := Lib.hid (HX.out.trans hx)
      clear hx
      go_wp2_with fail
      refine (HK.out w2).mono ?_
      rintro e w3 ⟨⟨n, r, rfl⟩, hx⟩
      have HX := Lib.hid (HX.out.trans hx)
      clear hx
      go_wp2_with fail
      exact bodyPost_ret (results_tmp2 rfl _ _ _) rfl ⟨rfl, HX.out⟩
end Go.Proofs.YtnapnaaejignaaaGreat.De
