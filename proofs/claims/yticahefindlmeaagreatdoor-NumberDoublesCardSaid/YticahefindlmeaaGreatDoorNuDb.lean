/-
  The law NumberDoubles walked.
-/
import Derived.Test.YticahefindlmeaaGreatDoorNuDa
import Derived.Test.YticahefindlmeaaGreatDoorNuT
namespace Go.Proofs.YticahefindlmeaaGreatDoor.Nu
open Go.RowKit

theorem itxt_nat (n : Nat) : itxt (n : Int) = Lib.decDigits n := by
  unfold itxt Lib.itoa
  rw [if_neg (by omega)]
  rfl
set_option maxRecDepth 100000 in
set_option maxHeartbeats 8000000 in
theorem doubles_law (n pl : Int) (neg : Bool) (w : World) (_wn : (Lit.int .i64 n).wf = true) (_wp : (Lit.int .i64 pl).wf = true) (hw : Tabs w) : Calls Tryz.prog 4 #[.int .i64 n, .int .i64 pl, .bool neg] w fun e w' => e = .returned (.bool true) ∧ Ext [] w w' := by
  have HW := Lib.hid hw
  have HLV := Lib.hid (lives02 w hw)
  clear hw
  by_cases hc : 0 ≤ n ∧ n ≤ 1000000000 ∧ 0 ≤ pl ∧ pl ≤ 6
  · obtain ⟨c1, c2, c3, c4⟩ := hc
    obtain ⟨k, rfl⟩ : ∃ k : Nat, n = k := ⟨n.toNat, by omega⟩
    obtain ⟨p, rfl⟩ : ∃ p : Nat, pl = p := ⟨pl.toNat, by omega⟩
    have d1 : ¬ (k : Int) < 0 := by omega
    have d2 : ¬ (1000000000 : Int) < (k : Int) := by omega
    have d3 : ¬ (p : Int) < 0 := by omega
    have d4 : ¬ (6 : Int) < (p : Int) := by omega
    have hOK : DblOk k p neg (dtx neg (padN (Lib.decDigits k) p) ((padN (Lib.decDigits k) p).length - p)) := by
      by_cases h0 : k = 0
      · subst h0
        exact dbl_nought p neg (by omega)
      · exact dbl_some k p neg (by omega) (by omega) (by omega)
    have HT := Lib.hid (fun w hw => intText_walk (k : Int) (by omega) (by omega) w hw)
    rw [if_pos ⟨by omega, by omega⟩, if_pos ⟨by omega, by omega⟩, itxt_nat] at HT
    have dl := dec_len' 9 k (by omega)
    have dp := dec_pos k
    generalize Lib.decDigits k = D at *
    obtain ⟨c, hcc⟩ : ∃ c, p + 1 - D.length = c := ⟨_, rfl⟩
    have hPd : padN D p = List.replicate c 48 ++ D := by unfold padN; rw [hcc]
    obtain ⟨Q, hQ⟩ : ∃ Q : Nat → ByteArray, Q = fun j => S (List.replicate j 48 ++ D) := ⟨_, rfl⟩
    have q0 : S D = Q 0 := by rw [hQ]; rfl
    have qs : ∀ j, (⟨#[48]⟩ : ByteArray) ++ Q j = Q (j + 1) := fun j => by
      rw [hQ]
      show (⟨#[48]⟩ : ByteArray) ++ S (List.replicate j 48 ++ D) = S (List.replicate (j + 1) 48 ++ D)
      rw [show (⟨#[48]⟩ : ByteArray) = S [48] from rfl, S_app]
      rfl
    have ql : ∀ j, (Q j).size = j + D.length := fun j => by
      rw [hQ]
      show (S (List.replicate j 48 ++ D)).size = _
      rw [S_size, List.length_append, List.length_replicate]
    have qc : Q c = S (padN D p) := by rw [hQ, hPd]
    clear hQ
    have hPl : (padN D p).length = c + D.length := by rw [hPd, List.length_append, List.length_replicate]
    rw [q0] at HT
    generalize padN D p = P at *
    obtain ⟨a, ha⟩ : ∃ a, P.length - p = a := ⟨_, rfl⟩
    rw [ha] at hOK
    have e1 : (Q c).extract 0 a = S (P.take a) := by rw [qc, S_ext, List.drop_zero, B_S]
    have e2 : (Q c).extract a (Q c).size = S (P.drop a) := by rw [qc, S_tail, B_S]
    have e3 : S (P.take a) ++ ⟨#[46]⟩ ++ S (P.drop a) = S (dtx false P a) := by
      rw [show (⟨#[46]⟩ : ByteArray) = S [46] from rfl, S_app, S_app]
      rfl
    have e4 : (⟨#[45]⟩ : ByteArray) ++ S (dtx false P a) = S (dtx true P a) := by
      rw [show (⟨#[45]⟩ : ByteArray) = S [45] from rfl, S_app]
      rfl
    have HE := Lib.hid (⟨e1, e2, e3⟩ : _ ∧ _ ∧ _)
    have HE4 := Lib.hid e4
    have haz : ((Q c).size : Int) - (p : Int) = (a : Int) := by rw [ql]; omega
    have haz0 : (0 : Int) ≤ (a : Int) := by omega
    have ha30 : (a : Int) ≤ 30 := by omega
    have haP2 : (a : Int) ≤ ((Q c).size : Int) := by rw [ql]; omega
    have hAZ := Lib.hid haz
    have hAP := Lib.hid haP2
    have z1 : (S (P.take a)).size ≤ 30 := by rw [S_size, List.length_take]; omega
    have z2 : (S (P.drop a)).size ≤ 30 := by rw [S_size, List.length_drop]; omega
    have z3 : (S (dtx false P a)).size ≤ 100 := by
      rw [← e3, ByteArray.size_append, ByteArray.size_append]
      have : (⟨#[46]⟩ : ByteArray).size = 1 := rfl
      omega
    have HQS := Lib.hid qs
    have HQL := Lib.hid ql
    have HOK := Lib.hid hOK
    have HCD := Lib.hid hcc
    clear q0 qs ql qc hOK e1 e2 e3 e4 hcc hPd hPl ha haz haP2
    go_enter Tryz.func4, Tryz.ntmps4
    go_wp2_with fail
    refine HLV.out.mono ?_
    rintro e w1 ⟨rfl, hx⟩
    have HX := Lib.hid hx
    clear hx
    go_wp2_with fail
    refine (HT.out _ (HW.out.ext HX.out)).mono ?_
    rintro e w2 ⟨rfl, hx⟩
    have HX := Lib.hid (HX.out.trans hx)
    clear hx
    go_wp2_with fail
    go_loopg [7] c (fun g dv wr => ∃ j : Nat, g + j = c ∧ dv = .string (Q j) ∧ wr = w2)
    case atStart => exact ⟨0, rfl, rfl, rfl⟩
    case round =>
      obtain ⟨j, hj, rfl, rfl⟩ := hrel
      have hcd := HCD.out
      have hql := HQL.out j
      by_cases hlt : j < c
      · obtain ⟨g, rfl⟩ : ∃ g, gk = g + 1 := ⟨gk - 1, by omega⟩
        have hltz : ((Q j).size : Int) ≤ (p : Int) := by omega
        have hqs := HQS.out j
        clear hcd hql
        go_wp2_with fail
        go_roundg g
        case measure => omega
        case rel => exact ⟨j + 1, by omega, rfl, rfl⟩
      · obtain rfl : j = c := by omega
        have hltz : ¬ ((Q j).size : Int) ≤ (p : Int) := by omega
        have haz := hAZ.out
        have haP2 := hAP.out
        clear hcd hql hj hlt
        go_upto_region 8 with fail
        refine wp_region_ext (by kernel_rfl) (by kernel_rfl) ?_
        repeat (go_big_quiet_step (fail))
        refine wpQuiet_nil ?_
        rintro _ ⟨y, rfl⟩
        have HX := Lib.hid (HX.out.trans y.ext)
        rw [HE.out.1, HE.out.2.1, HE.out.2.2]
        cases neg with
        | true =>
          have e4 := HE4.out
          obtain ⟨s, hs⟩ : ∃ s, dtx true P a = s := ⟨_, rfl⟩
          rw [hs] at HOK e4
          clear hs
          go_upto_region 11 with fail
          clear e4
          obtain ⟨⟨r, x, m, o1, o2, o3, o4, o5, o6, o7, o8⟩, ol⟩ := HOK.out
          have t1 := fun w => real_walk (S s) w (by rw [S_size]; omega)
          have t2 := fun w hw => near_walk (S s) w (by rw [S_size]; omega) (by rw [B_S]; exact o2) (by rw [B_S]; exact o3) x 0 (by rw [B_S]; exact o4) hw
          have t3 := fun w hw => of_walk x p m o5 w hw
          rw [B_S, o1] at t1
          rw [o6] at t3
          simp only at t1 t3
          have H1 := Lib.hid t1
          have H2 := Lib.hid t2
          have H3 := Lib.hid t3
          have H7 := Lib.hid o7
          have H8 := Lib.hid o8
          clear t1 t2 t3 o1 o2 o3 o4 o5 o6 o7 o8 ol
          generalize S r = R at *
          go_wp2_with fail
          refine (H1.out _).mono ?_
          rintro e w3 ⟨rfl, hx⟩
          have HX := Lib.hid (HX.out.trans hx)
          clear hx
          go_wp2_with fail
          refine (H2.out _ (HW.out.ext HX.out)).mono ?_
          rintro e w4 ⟨rfl, hx⟩
          have HX := Lib.hid (HX.out.trans hx)
          clear hx
          go_wp2_with fail
          refine (H3.out _ (HW.out.ext HX.out)).mono ?_
          rintro e w5 ⟨rfl, hx⟩
          have HX := Lib.hid (HX.out.trans hx)
          clear hx
          have o7 := H7.out
          have o8 := H8.out
          by_cases k0 : k = 0
          · subst k0
            have f1 : (F64.order x 0 == some Ordering.eq) = true := o7.trans (decide_eq_true rfl)
            have f2 : (F64.order x 0 == some Ordering.lt) = false := o8.trans (by rw [decide_eq_false (by omega), Bool.and_false])
            clear o7 o8
            go_wp2_with fail
            go_ret
            exact ⟨rfl, HX.out⟩
          · have kp : (0 : Int) < (k : Int) := by omega
            have kn : 0 < k := by omega
            have kb : ((k : Int) == 0) = false := beq_eq_false_iff_ne.2 (by omega)
            have f1 : (F64.order x 0 == some Ordering.eq) = false := o7.trans (decide_eq_false k0)
            have f2 := o8.trans (show _ = true by rw [decide_eq_true (by omega)]; rfl)
            clear o7 o8 k0
            go_wp2_with fail
            go_ret
            exact ⟨rfl, HX.out⟩
        | false =>
          obtain ⟨s, hs⟩ : ∃ s, dtx false P a = s := ⟨_, rfl⟩
          rw [hs] at HOK ⊢
          clear hs
          obtain ⟨⟨r, x, m, o1, o2, o3, o4, o5, o6, o7, o8⟩, ol⟩ := HOK.out
          have t1 := fun w => real_walk (S s) w (by rw [S_size]; omega)
          have t2 := fun w hw => near_walk (S s) w (by rw [S_size]; omega) (by rw [B_S]; exact o2) (by rw [B_S]; exact o3) x 0 (by rw [B_S]; exact o4) hw
          have t3 := fun w hw => of_walk x p m o5 w hw
          rw [B_S, o1] at t1
          rw [o6] at t3
          simp only at t1 t3
          have H1 := Lib.hid t1
          have H2 := Lib.hid t2
          have H3 := Lib.hid t3
          have H7 := Lib.hid o7
          have H8 := Lib.hid o8
          clear t1 t2 t3 o1 o2 o3 o4 o5 o6 o7 o8 ol
          generalize S r = R at *
          go_wp2_with fail
          refine (H1.out _).mono ?_
          rintro e w3 ⟨rfl, hx⟩
          have HX := Lib.hid (HX.out.trans hx)
          clear hx
          go_wp2_with fail
          refine (H2.out _ (HW.out.ext HX.out)).mono ?_
          rintro e w4 ⟨rfl, hx⟩
          have HX := Lib.hid (HX.out.trans hx)
          clear hx
          go_wp2_with fail
          refine (H3.out _ (HW.out.ext HX.out)).mono ?_
          rintro e w5 ⟨rfl, hx⟩
          have HX := Lib.hid (HX.out.trans hx)
          clear hx
          have o7 := H7.out
          have o8 := H8.out
          by_cases k0 : k = 0
          · subst k0
            have f1 : (F64.order x 0 == some Ordering.eq) = true := o7.trans (decide_eq_true rfl)
            have f2 : (F64.order x 0 == some Ordering.lt) = false := o8.trans (by rw [decide_eq_false (by omega), Bool.and_false])
            clear o7 o8
            go_wp2_with fail
            go_ret
            exact ⟨rfl, HX.out⟩
          · have kp : (0 : Int) < (k : Int) := by omega
            have kn : 0 < k := by omega
            have kb : ((k : Int) == 0) = false := beq_eq_false_iff_ne.2 (by omega)
            have f1 : (F64.order x 0 == some Ordering.eq) = false := o7.trans (decide_eq_false k0)
            have f2 := o8.trans (show _ = false by rw [decide_eq_true (by omega)]; rfl)
            clear o7 o8 k0
            go_wp2_with fail
            go_ret
            exact ⟨rfl, HX.out⟩
  · have hc4 : n < 0 ∨ 1000000000 < n ∨ pl < 0 ∨ 6 < pl := by omega
    clear hc
    by_cases b1 : n < 0
    · clear hc4
      go_enter Tryz.func4, Tryz.ntmps4
      go_wp2_with fail
      refine HLV.out.mono ?_
      rintro e w1 ⟨rfl, hx⟩
      have HX := Lib.hid hx
      clear hx
      go_wp2_with fail
      go_ret
      exact ⟨rfl, HX.out⟩
    · by_cases b2 : 1000000000 < n
      · clear hc4
        go_enter Tryz.func4, Tryz.ntmps4
        go_wp2_with fail
        refine HLV.out.mono ?_
        rintro e w1 ⟨rfl, hx⟩
        have HX := Lib.hid hx
        clear hx
        go_wp2_with fail
        go_ret
        exact ⟨rfl, HX.out⟩
      · by_cases b3 : pl < 0
        · clear hc4
          go_enter Tryz.func4, Tryz.ntmps4
          go_wp2_with fail
          refine HLV.out.mono ?_
          rintro e w1 ⟨rfl, hx⟩
          have HX := Lib.hid hx
          clear hx
          go_wp2_with fail
          go_ret
          exact ⟨rfl, HX.out⟩
        · have b4 : 6 < pl := by omega
          clear hc4
          go_enter Tryz.func4, Tryz.ntmps4
          go_wp2_with fail
          refine HLV.out.mono ?_
          rintro e w1 ⟨rfl, hx⟩
          have HX := Lib.hid hx
          clear hx
          go_wp2_with fail
          go_ret
          exact ⟨rfl, HX.out⟩
end Go.Proofs.YticahefindlmeaaGreatDoor.Nu
