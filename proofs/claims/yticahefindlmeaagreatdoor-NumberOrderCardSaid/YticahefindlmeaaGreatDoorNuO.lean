/-
  The law NumberOrder walked.
-/
import Derived.Test.YticahefindlmeaaGreatDoorNuN
import Derived.Test.YticahefindlmeaaGreatDoorNuT
namespace Go.Proofs.YticahefindlmeaaGreatDoor.Nu
open Go.RowKit

theorem itx_len {n : Int} (h : n.natAbs ≤ 2147483647) (t : List UInt8) : (itxt n ++ t).length ≤ 11 + t.length ∧ (Lib.decDigits n.natAbs).length ≤ 10 := by
  have hl := dec_len' 9 n.natAbs (by omega)
  rw [itx_parts]
  split
  · rw [List.length_cons, List.length_append]; omega
  · rw [List.length_append]; omega
theorem cmp_both (l m : List UInt8) (p q : Num) (h1 : cutN l = p) (h2 : cutN m = q) (h3 : p.kind ≠ 0) (h4 : q.kind ≠ 0) (h5 : p.a.length + p.b.length ≤ 64) (h6 : q.a.length + q.b.length ≤ 64) : cmpN l m = (cmpB (bareN p) (bareN q), 0) := by
  unfold cmpN
  rw [h1, h2, if_neg (fun h => h.elim h3 h4)]
  unfold longN
  rw [decide_eq_false (by omega), decide_eq_false (by omega)]
  rfl
theorem order_plain (a b : Int) (ha : a.natAbs ≤ 2147483647) (hb : b.natAbs ≤ 2147483647) :
    cmpN (itxt a) (itxt b) = (Lib.compareInt a b, 0) ∧ intN (itxt a) = (a, 0) ∧ cmpN (itxt a ++ [46, 48]) (itxt b ++ [46]) = (Lib.compareInt a b, 0) ∧
      ∀ s : List UInt8, s.length ≤ 60 → ∃ err l m : Int, cmpN (itxt a) s = (l, err) ∧ cmpN s (itxt b) = (m, err) ∧ (err ≠ 0 ∨ 0 < l ∨ 0 < m ∨ Lib.compareInt a b ≤ 0) := by
  have ca := cut_itx a ha 1 [] [] (.inl ⟨rfl, rfl, rfl⟩)
  have cb := cut_itx b hb 1 [] [] (.inl ⟨rfl, rfl, rfl⟩)
  rw [List.append_nil] at ca cb
  have ca2 := cut_itx a ha 2 [48] [46, 48] (.inr ⟨rfl, rfl, rfl⟩)
  have cb2 := cut_itx b hb 2 [] [46] (.inr ⟨rfl, rfl, rfl⟩)
  have la := (itx_len ha []).2
  have lb := (itx_len hb []).2
  have ba := bare_itx a ha 1 [] rfl
  have bb := bare_itx b hb 1 [] rfl
  have ba2 := bare_itx a ha 2 [48] rfl
  have bb2 := bare_itx b hb 2 [] rfl
  have e1 : cmpN (itxt a) (itxt b) = (Lib.compareInt a b, 0) := by
    rw [cmp_both _ _ _ _ ca cb (show (1 : Nat) ≠ 0 by decide) (show (1 : Nat) ≠ 0 by decide) (by show (Lib.decDigits a.natAbs).length + 0 ≤ 64; omega) (by show (Lib.decDigits b.natAbs).length + 0 ≤ 64; omega), ba, bb, cmp_itx 1 1 a b ha hb]
  refine ⟨e1, ?_, ?_, fun s hs => ?_⟩
  · unfold intN
    rw [ca, if_neg (by simp), ba]
    obtain ⟨v1, _⟩ := key_val ha
    have hk : (key a.natAbs).length ≤ 10 := Nat.le_trans (tl_le _) la
    show (if 10 < (key a.natAbs).length then _ else if 2147483647 < valF 0 (key a.natAbs) then _ else if decide (a < 0) then ((-(valF 0 (key a.natAbs) : Nat) : Int), (0 : Int)) else ((valF 0 (key a.natAbs) : Nat), 0)) = _
    rw [v1, if_neg (by omega), if_neg (by omega)]
    by_cases h : a < 0
    · rw [decide_eq_true h, if_pos rfl, show (-(a.natAbs : Nat) : Int) = a by omega]
    · rw [decide_eq_false h, if_neg (by simp), show ((a.natAbs : Nat) : Int) = a by omega]
  · rw [cmp_both _ _ _ _ ca2 cb2 (show (2 : Nat) ≠ 0 by decide) (show (2 : Nat) ≠ 0 by decide) (by show (Lib.decDigits a.natAbs).length + 1 ≤ 64; omega) (by show (Lib.decDigits b.natAbs).length + 0 ≤ 64; omega), ba2, bb2, cmp_itx 2 2 a b ha hb]
  · by_cases hk : (cutN s).kind = 0
    · refine ⟨7, 0, 0, ?_, ?_, .inl (by decide)⟩
      · unfold cmpN
        rw [if_pos (.inr hk)]
      · unfold cmpN
        rw [if_pos (.inl hk)]
    · have l1 : (cutN s).a.length + (cutN s).b.length ≤ s.length := by
        have hsg : (sgnR s).length ≤ s.length := by
          unfold sgnR
          split
          · rw [List.length_drop]; omega
          · exact Nat.le_refl _
        have hbl := bef_le (sgnR s)
        unfold cutN
        split
        · show (befL _).length + (aftL _).length ≤ _
          omega
        · exact Nat.zero_le _
      have c1 := cmp_both (itxt a) s _ _ ca rfl (show (1 : Nat) ≠ 0 by decide) hk (by show (Lib.decDigits a.natAbs).length + 0 ≤ 64; omega) (by omega)
      have c2 := cmp_both s (itxt b) _ _ rfl cb hk (show (1 : Nat) ≠ 0 by decide) (by omega) (by show (Lib.decDigits b.natAbs).length + 0 ≤ 64; omega)
      refine ⟨0, _, _, c1, c2, ?_⟩
      rw [ba, bb]
      by_cases p1 : 0 < cmpB ⟨1, decide (a < 0), key a.natAbs, []⟩ (bareN (cutN s))
      · exact .inr (.inl p1)
      · by_cases p2 : 0 < cmpB (bareN (cutN s)) ⟨1, decide (b < 0), key b.natAbs, []⟩
        · exact .inr (.inr (.inl p2))
        · refine .inr (.inr (.inr ?_))
          rw [← cmp_itx 1 1 a b ha hb]
          exact cmpB_trans _ (bareN (cutN s)) _ (Int.not_lt.1 p1) (Int.not_lt.1 p2)
set_option maxRecDepth 100000 in
set_option maxHeartbeats 4000000 in
theorem order_law (a b : Int) (s : ByteArray) (w : World) (wa : (Lit.int .i64 a).wf = true) (wb : (Lit.int .i64 b).wf = true) (_hs : s.size ≤ maxLen) (hw : Tabs w) :
    Calls Tryz.prog 3 #[.int .i64 a, .int .i64 b, .string s] w fun e w' => e = .returned (.bool true) ∧ Ext [] w w' := by
  obtain ⟨a0, a1⟩ := Kt.wf_i64 wa
  obtain ⟨b0, b1⟩ := Kt.wf_i64 wb
  have HW := Lib.hid hw
  have HLV := Lib.hid (lives02 w hw)
  have hta := fun w hw => intText_walk a a0 a1 w hw
  have htb := fun w hw => intText_walk b b0 b1 w hw
  clear wa wb hw
  by_cases al : -2147483647 ≤ a
  · by_cases ah : a ≤ 2147483647
    · by_cases bl : -2147483647 ≤ b
      · by_cases bh : b ≤ 2147483647
        · rw [if_pos ⟨al, ah⟩, if_pos ⟨al, ah⟩] at hta
          have ra1 : ¬ 2147483647 < a := by omega
          have ra2 : ¬ a < -2147483647 := by omega
          rw [if_pos ⟨bl, bh⟩, if_pos ⟨bl, bh⟩] at htb
          have rb1 : ¬ 2147483647 < b := by omega
          have rb2 : ¬ b < -2147483647 := by omega
          have HTA := Lib.hid hta
          have HTB := Lib.hid htb
          clear hta htb
          clear al ah bl bh
          have hab : a.natAbs ≤ 2147483647 := by omega
          have hbb : b.natAbs ≤ 2147483647 := by omega
          by_cases hs6 : s.size ≤ 60
          · have hs6z : ¬ (60 : Int) < (s.size : Int) := by omega
            obtain ⟨c1, c2, c3, c4⟩ := order_plain a b hab hbb
            obtain ⟨err, l, m, d1, d2, d3⟩ := c4 (B s) (by rw [B_len]; exact hs6)
            have la := (itx_len hab []).1
            have lb := (itx_len hbb []).1
            rw [List.append_nil] at la lb
            have la2 := (itx_len hab [46, 48]).1
            have lb2 := (itx_len hbb [46]).1
            have w1 := fun w => compare_walk (S (itxt a)) (S (itxt b)) w (by rw [S_size]; simp only [List.length_nil] at la; omega) (by rw [S_size]; simp only [List.length_nil] at lb; omega)
            have w2 := fun w => int_walk (S (itxt a)) w (by rw [S_size]; simp only [List.length_nil] at la; omega)
            have w3 := fun w => compare_walk (S (itxt a)) s w (by rw [S_size]; simp only [List.length_nil] at la; omega) (by omega)
            have w4 := fun w => compare_walk s (S (itxt b)) w (by omega) (by rw [S_size]; simp only [List.length_nil] at lb; omega)
            have w5 := fun w => compare_walk (S (itxt a ++ [46, 48])) (S (itxt b ++ [46])) w (by rw [S_size]; simp only [List.length_cons, List.length_nil] at la2; omega) (by rw [S_size]; simp only [List.length_cons, List.length_nil] at lb2; omega)
            simp only [B_S] at w1 w2 w3 w4 w5
            rw [c1] at w1
            rw [c2] at w2
            rw [d1] at w3
            rw [d2] at w4
            rw [c3] at w5
            have e1 : S (itxt a) ++ ⟨#[46, 48]⟩ = S (itxt a ++ [46, 48]) := by rw [show (⟨#[46, 48]⟩ : ByteArray) = S [46, 48] from rfl, S_app]
            have e2 : S (itxt b) ++ ⟨#[46]⟩ = S (itxt b ++ [46]) := by rw [show (⟨#[46]⟩ : ByteArray) = S [46] from rfl, S_app]
            rw [← e1, ← e2] at w5
            have HC := Lib.hid (⟨w1, w2, w3, w4, w5⟩ : _ ∧ _ ∧ _ ∧ _ ∧ _)
            have xl : (S (itxt a)).size ≤ 20 := by rw [S_size]; simp only [List.length_nil] at la; omega
            have yl : (S (itxt b)).size ≤ 20 := by rw [S_size]; simp only [List.length_nil] at lb; omega
            obtain ⟨X, hX⟩ : ∃ X, S (itxt a) = X := ⟨_, rfl⟩
            obtain ⟨Y, hY⟩ : ∃ Y, S (itxt b) = Y := ⟨_, rfl⟩
            simp only [hX, hY] at HC HTA HTB xl yl
            have hci : (a < b ∧ Lib.compareInt a b = -1) ∨ (b < a ∧ Lib.compareInt a b = 1) ∨ (a = b ∧ Lib.compareInt a b = 0) := by
              unfold Lib.compareInt
              by_cases q1 : a < b
              · exact .inl ⟨q1, if_pos q1⟩
              · by_cases q2 : b < a
                · exact .inr (.inl ⟨q2, by rw [if_neg q1, if_pos q2]⟩)
                · exact .inr (.inr ⟨by omega, by rw [if_neg q1, if_neg q2]⟩)
            have HD := Lib.hid d3
            clear c1 c2 c3 c4 d1 d2 d3 la lb la2 lb2 w1 w2 w3 w4 w5 e1 e2 hX hY hab hbb hs6
            obtain ⟨ci, hci0⟩ : ∃ ci, Lib.compareInt a b = ci := ⟨_, rfl⟩
            simp only [hci0] at HC HD hci
            clear hci0
            rcases hci with ⟨hlt, rfl⟩ | ⟨hlt, rfl⟩ | ⟨hlt, rfl⟩
            · have k1 : a < b := hlt
              clear hlt
              by_cases he : err = 0
              · subst he
                have hd := HD.out
                by_cases hl : 0 < l
                · clear hd
                  go_enter Tryz.func3, Tryz.ntmps3
                  go_wp2_with fail
                  refine HLV.out.mono ?_
                  rintro e w1 ⟨rfl, hx⟩
                  have HX := Lib.hid hx
                  clear hx
                  go_wp2_with fail
                  refine (HTA.out _ (HW.out.ext HX.out)).mono ?_
                  rintro e w2 ⟨rfl, hx⟩
                  have HX := Lib.hid (HX.out.trans hx)
                  clear hx
                  go_wp2_with fail
                  refine (HTB.out _ (HW.out.ext HX.out)).mono ?_
                  rintro e w3 ⟨rfl, hx⟩
                  have HX := Lib.hid (HX.out.trans hx)
                  clear hx
                  go_wp2_with fail
                  refine (HC.out.1 _).mono ?_
                  rintro e w4 ⟨rfl, hx⟩
                  have HX := Lib.hid (HX.out.trans hx)
                  clear hx
                  go_wp2_with fail
                  refine (HC.out.2.1 _).mono ?_
                  rintro e w5 ⟨rfl, hx⟩
                  have HX := Lib.hid (HX.out.trans hx)
                  clear hx
                  go_wp2_with fail
                  refine (HC.out.2.2.1 _).mono ?_
                  rintro e w6 ⟨rfl, hx⟩
                  have HX := Lib.hid (HX.out.trans hx)
                  clear hx
                  go_wp2_with fail
                  refine (HC.out.2.2.2.1 _).mono ?_
                  rintro e w7 ⟨rfl, hx⟩
                  have HX := Lib.hid (HX.out.trans hx)
                  clear hx
                  go_wp2_with fail
                  refine (HC.out.2.2.2.2 _).mono ?_
                  rintro e w8 ⟨rfl, hx⟩
                  have HX := Lib.hid (HX.out.trans hx)
                  clear hx
                  go_wp2_with fail
                  go_ret
                  exact ⟨rfl, HX.out⟩
                · by_cases hm : 0 < m
                  · clear hd
                    go_enter Tryz.func3, Tryz.ntmps3
                    go_wp2_with fail
                    refine HLV.out.mono ?_
                    rintro e w1 ⟨rfl, hx⟩
                    have HX := Lib.hid hx
                    clear hx
                    go_wp2_with fail
                    refine (HTA.out _ (HW.out.ext HX.out)).mono ?_
                    rintro e w2 ⟨rfl, hx⟩
                    have HX := Lib.hid (HX.out.trans hx)
                    clear hx
                    go_wp2_with fail
                    refine (HTB.out _ (HW.out.ext HX.out)).mono ?_
                    rintro e w3 ⟨rfl, hx⟩
                    have HX := Lib.hid (HX.out.trans hx)
                    clear hx
                    go_wp2_with fail
                    refine (HC.out.1 _).mono ?_
                    rintro e w4 ⟨rfl, hx⟩
                    have HX := Lib.hid (HX.out.trans hx)
                    clear hx
                    go_wp2_with fail
                    refine (HC.out.2.1 _).mono ?_
                    rintro e w5 ⟨rfl, hx⟩
                    have HX := Lib.hid (HX.out.trans hx)
                    clear hx
                    go_wp2_with fail
                    refine (HC.out.2.2.1 _).mono ?_
                    rintro e w6 ⟨rfl, hx⟩
                    have HX := Lib.hid (HX.out.trans hx)
                    clear hx
                    go_wp2_with fail
                    refine (HC.out.2.2.2.1 _).mono ?_
                    rintro e w7 ⟨rfl, hx⟩
                    have HX := Lib.hid (HX.out.trans hx)
                    clear hx
                    go_wp2_with fail
                    refine (HC.out.2.2.2.2 _).mono ?_
                    rintro e w8 ⟨rfl, hx⟩
                    have HX := Lib.hid (HX.out.trans hx)
                    clear hx
                    go_wp2_with fail
                    go_ret
                    exact ⟨rfl, HX.out⟩
                  · clear hd
                    go_enter Tryz.func3, Tryz.ntmps3
                    go_wp2_with fail
                    refine HLV.out.mono ?_
                    rintro e w1 ⟨rfl, hx⟩
                    have HX := Lib.hid hx
                    clear hx
                    go_wp2_with fail
                    refine (HTA.out _ (HW.out.ext HX.out)).mono ?_
                    rintro e w2 ⟨rfl, hx⟩
                    have HX := Lib.hid (HX.out.trans hx)
                    clear hx
                    go_wp2_with fail
                    refine (HTB.out _ (HW.out.ext HX.out)).mono ?_
                    rintro e w3 ⟨rfl, hx⟩
                    have HX := Lib.hid (HX.out.trans hx)
                    clear hx
                    go_wp2_with fail
                    refine (HC.out.1 _).mono ?_
                    rintro e w4 ⟨rfl, hx⟩
                    have HX := Lib.hid (HX.out.trans hx)
                    clear hx
                    go_wp2_with fail
                    refine (HC.out.2.1 _).mono ?_
                    rintro e w5 ⟨rfl, hx⟩
                    have HX := Lib.hid (HX.out.trans hx)
                    clear hx
                    go_wp2_with fail
                    refine (HC.out.2.2.1 _).mono ?_
                    rintro e w6 ⟨rfl, hx⟩
                    have HX := Lib.hid (HX.out.trans hx)
                    clear hx
                    go_wp2_with fail
                    refine (HC.out.2.2.2.1 _).mono ?_
                    rintro e w7 ⟨rfl, hx⟩
                    have HX := Lib.hid (HX.out.trans hx)
                    clear hx
                    go_wp2_with fail
                    refine (HC.out.2.2.2.2 _).mono ?_
                    rintro e w8 ⟨rfl, hx⟩
                    have HX := Lib.hid (HX.out.trans hx)
                    clear hx
                    go_wp2_with fail
                    go_ret
                    exact ⟨rfl, HX.out⟩
              · have heb : (err == 0) = false := beq_eq_false_iff_ne.2 he
                have hec : (err != 0) = true := bne_iff_ne.2 he
                go_enter Tryz.func3, Tryz.ntmps3
                go_wp2_with fail
                refine HLV.out.mono ?_
                rintro e w1 ⟨rfl, hx⟩
                have HX := Lib.hid hx
                clear hx
                go_wp2_with fail
                refine (HTA.out _ (HW.out.ext HX.out)).mono ?_
                rintro e w2 ⟨rfl, hx⟩
                have HX := Lib.hid (HX.out.trans hx)
                clear hx
                go_wp2_with fail
                refine (HTB.out _ (HW.out.ext HX.out)).mono ?_
                rintro e w3 ⟨rfl, hx⟩
                have HX := Lib.hid (HX.out.trans hx)
                clear hx
                go_wp2_with fail
                refine (HC.out.1 _).mono ?_
                rintro e w4 ⟨rfl, hx⟩
                have HX := Lib.hid (HX.out.trans hx)
                clear hx
                go_wp2_with fail
                refine (HC.out.2.1 _).mono ?_
                rintro e w5 ⟨rfl, hx⟩
                have HX := Lib.hid (HX.out.trans hx)
                clear hx
                go_wp2_with fail
                refine (HC.out.2.2.1 _).mono ?_
                rintro e w6 ⟨rfl, hx⟩
                have HX := Lib.hid (HX.out.trans hx)
                clear hx
                go_wp2_with fail
                refine (HC.out.2.2.2.1 _).mono ?_
                rintro e w7 ⟨rfl, hx⟩
                have HX := Lib.hid (HX.out.trans hx)
                clear hx
                go_wp2_with fail
                refine (HC.out.2.2.2.2 _).mono ?_
                rintro e w8 ⟨rfl, hx⟩
                have HX := Lib.hid (HX.out.trans hx)
                clear hx
                go_wp2_with fail
                go_ret
                exact ⟨rfl, HX.out⟩
            · have k1 : ¬ a < b := by omega
              have k2 : b < a := hlt
              clear hlt
              by_cases he : err = 0
              · subst he
                have hd := HD.out
                by_cases hl : 0 < l
                · clear hd
                  go_enter Tryz.func3, Tryz.ntmps3
                  go_wp2_with fail
                  refine HLV.out.mono ?_
                  rintro e w1 ⟨rfl, hx⟩
                  have HX := Lib.hid hx
                  clear hx
                  go_wp2_with fail
                  refine (HTA.out _ (HW.out.ext HX.out)).mono ?_
                  rintro e w2 ⟨rfl, hx⟩
                  have HX := Lib.hid (HX.out.trans hx)
                  clear hx
                  go_wp2_with fail
                  refine (HTB.out _ (HW.out.ext HX.out)).mono ?_
                  rintro e w3 ⟨rfl, hx⟩
                  have HX := Lib.hid (HX.out.trans hx)
                  clear hx
                  go_wp2_with fail
                  refine (HC.out.1 _).mono ?_
                  rintro e w4 ⟨rfl, hx⟩
                  have HX := Lib.hid (HX.out.trans hx)
                  clear hx
                  go_wp2_with fail
                  refine (HC.out.2.1 _).mono ?_
                  rintro e w5 ⟨rfl, hx⟩
                  have HX := Lib.hid (HX.out.trans hx)
                  clear hx
                  go_wp2_with fail
                  refine (HC.out.2.2.1 _).mono ?_
                  rintro e w6 ⟨rfl, hx⟩
                  have HX := Lib.hid (HX.out.trans hx)
                  clear hx
                  go_wp2_with fail
                  refine (HC.out.2.2.2.1 _).mono ?_
                  rintro e w7 ⟨rfl, hx⟩
                  have HX := Lib.hid (HX.out.trans hx)
                  clear hx
                  go_wp2_with fail
                  refine (HC.out.2.2.2.2 _).mono ?_
                  rintro e w8 ⟨rfl, hx⟩
                  have HX := Lib.hid (HX.out.trans hx)
                  clear hx
                  go_wp2_with fail
                  go_ret
                  exact ⟨rfl, HX.out⟩
                · by_cases hm : 0 < m
                  · clear hd
                    go_enter Tryz.func3, Tryz.ntmps3
                    go_wp2_with fail
                    refine HLV.out.mono ?_
                    rintro e w1 ⟨rfl, hx⟩
                    have HX := Lib.hid hx
                    clear hx
                    go_wp2_with fail
                    refine (HTA.out _ (HW.out.ext HX.out)).mono ?_
                    rintro e w2 ⟨rfl, hx⟩
                    have HX := Lib.hid (HX.out.trans hx)
                    clear hx
                    go_wp2_with fail
                    refine (HTB.out _ (HW.out.ext HX.out)).mono ?_
                    rintro e w3 ⟨rfl, hx⟩
                    have HX := Lib.hid (HX.out.trans hx)
                    clear hx
                    go_wp2_with fail
                    refine (HC.out.1 _).mono ?_
                    rintro e w4 ⟨rfl, hx⟩
                    have HX := Lib.hid (HX.out.trans hx)
                    clear hx
                    go_wp2_with fail
                    refine (HC.out.2.1 _).mono ?_
                    rintro e w5 ⟨rfl, hx⟩
                    have HX := Lib.hid (HX.out.trans hx)
                    clear hx
                    go_wp2_with fail
                    refine (HC.out.2.2.1 _).mono ?_
                    rintro e w6 ⟨rfl, hx⟩
                    have HX := Lib.hid (HX.out.trans hx)
                    clear hx
                    go_wp2_with fail
                    refine (HC.out.2.2.2.1 _).mono ?_
                    rintro e w7 ⟨rfl, hx⟩
                    have HX := Lib.hid (HX.out.trans hx)
                    clear hx
                    go_wp2_with fail
                    refine (HC.out.2.2.2.2 _).mono ?_
                    rintro e w8 ⟨rfl, hx⟩
                    have HX := Lib.hid (HX.out.trans hx)
                    clear hx
                    go_wp2_with fail
                    go_ret
                    exact ⟨rfl, HX.out⟩
                  · exact absurd (hd.resolve_left (by simp)) (fun h => h.elim hl (fun h => h.elim hm (by decide)))
              · have heb : (err == 0) = false := beq_eq_false_iff_ne.2 he
                have hec : (err != 0) = true := bne_iff_ne.2 he
                go_enter Tryz.func3, Tryz.ntmps3
                go_wp2_with fail
                refine HLV.out.mono ?_
                rintro e w1 ⟨rfl, hx⟩
                have HX := Lib.hid hx
                clear hx
                go_wp2_with fail
                refine (HTA.out _ (HW.out.ext HX.out)).mono ?_
                rintro e w2 ⟨rfl, hx⟩
                have HX := Lib.hid (HX.out.trans hx)
                clear hx
                go_wp2_with fail
                refine (HTB.out _ (HW.out.ext HX.out)).mono ?_
                rintro e w3 ⟨rfl, hx⟩
                have HX := Lib.hid (HX.out.trans hx)
                clear hx
                go_wp2_with fail
                refine (HC.out.1 _).mono ?_
                rintro e w4 ⟨rfl, hx⟩
                have HX := Lib.hid (HX.out.trans hx)
                clear hx
                go_wp2_with fail
                refine (HC.out.2.1 _).mono ?_
                rintro e w5 ⟨rfl, hx⟩
                have HX := Lib.hid (HX.out.trans hx)
                clear hx
                go_wp2_with fail
                refine (HC.out.2.2.1 _).mono ?_
                rintro e w6 ⟨rfl, hx⟩
                have HX := Lib.hid (HX.out.trans hx)
                clear hx
                go_wp2_with fail
                refine (HC.out.2.2.2.1 _).mono ?_
                rintro e w7 ⟨rfl, hx⟩
                have HX := Lib.hid (HX.out.trans hx)
                clear hx
                go_wp2_with fail
                refine (HC.out.2.2.2.2 _).mono ?_
                rintro e w8 ⟨rfl, hx⟩
                have HX := Lib.hid (HX.out.trans hx)
                clear hx
                go_wp2_with fail
                go_ret
                exact ⟨rfl, HX.out⟩
            · subst hlt
              by_cases he : err = 0
              · subst he
                have hd := HD.out
                by_cases hl : 0 < l
                · clear hd
                  go_enter Tryz.func3, Tryz.ntmps3
                  go_wp2_with fail
                  refine HLV.out.mono ?_
                  rintro e w1 ⟨rfl, hx⟩
                  have HX := Lib.hid hx
                  clear hx
                  go_wp2_with fail
                  refine (HTA.out _ (HW.out.ext HX.out)).mono ?_
                  rintro e w2 ⟨rfl, hx⟩
                  have HX := Lib.hid (HX.out.trans hx)
                  clear hx
                  go_wp2_with fail
                  refine (HTB.out _ (HW.out.ext HX.out)).mono ?_
                  rintro e w3 ⟨rfl, hx⟩
                  have HX := Lib.hid (HX.out.trans hx)
                  clear hx
                  go_wp2_with fail
                  refine (HC.out.1 _).mono ?_
                  rintro e w4 ⟨rfl, hx⟩
                  have HX := Lib.hid (HX.out.trans hx)
                  clear hx
                  go_wp2_with fail
                  refine (HC.out.2.1 _).mono ?_
                  rintro e w5 ⟨rfl, hx⟩
                  have HX := Lib.hid (HX.out.trans hx)
                  clear hx
                  go_wp2_with fail
                  refine (HC.out.2.2.1 _).mono ?_
                  rintro e w6 ⟨rfl, hx⟩
                  have HX := Lib.hid (HX.out.trans hx)
                  clear hx
                  go_wp2_with fail
                  refine (HC.out.2.2.2.1 _).mono ?_
                  rintro e w7 ⟨rfl, hx⟩
                  have HX := Lib.hid (HX.out.trans hx)
                  clear hx
                  go_wp2_with fail
                  refine (HC.out.2.2.2.2 _).mono ?_
                  rintro e w8 ⟨rfl, hx⟩
                  have HX := Lib.hid (HX.out.trans hx)
                  clear hx
                  go_wp2_with fail
                  go_ret
                  exact ⟨rfl, HX.out⟩
                · by_cases hm : 0 < m
                  · clear hd
                    go_enter Tryz.func3, Tryz.ntmps3
                    go_wp2_with fail
                    refine HLV.out.mono ?_
                    rintro e w1 ⟨rfl, hx⟩
                    have HX := Lib.hid hx
                    clear hx
                    go_wp2_with fail
                    refine (HTA.out _ (HW.out.ext HX.out)).mono ?_
                    rintro e w2 ⟨rfl, hx⟩
                    have HX := Lib.hid (HX.out.trans hx)
                    clear hx
                    go_wp2_with fail
                    refine (HTB.out _ (HW.out.ext HX.out)).mono ?_
                    rintro e w3 ⟨rfl, hx⟩
                    have HX := Lib.hid (HX.out.trans hx)
                    clear hx
                    go_wp2_with fail
                    refine (HC.out.1 _).mono ?_
                    rintro e w4 ⟨rfl, hx⟩
                    have HX := Lib.hid (HX.out.trans hx)
                    clear hx
                    go_wp2_with fail
                    refine (HC.out.2.1 _).mono ?_
                    rintro e w5 ⟨rfl, hx⟩
                    have HX := Lib.hid (HX.out.trans hx)
                    clear hx
                    go_wp2_with fail
                    refine (HC.out.2.2.1 _).mono ?_
                    rintro e w6 ⟨rfl, hx⟩
                    have HX := Lib.hid (HX.out.trans hx)
                    clear hx
                    go_wp2_with fail
                    refine (HC.out.2.2.2.1 _).mono ?_
                    rintro e w7 ⟨rfl, hx⟩
                    have HX := Lib.hid (HX.out.trans hx)
                    clear hx
                    go_wp2_with fail
                    refine (HC.out.2.2.2.2 _).mono ?_
                    rintro e w8 ⟨rfl, hx⟩
                    have HX := Lib.hid (HX.out.trans hx)
                    clear hx
                    go_wp2_with fail
                    go_ret
                    exact ⟨rfl, HX.out⟩
                  · clear hd
                    go_enter Tryz.func3, Tryz.ntmps3
                    go_wp2_with fail
                    refine HLV.out.mono ?_
                    rintro e w1 ⟨rfl, hx⟩
                    have HX := Lib.hid hx
                    clear hx
                    go_wp2_with fail
                    refine (HTA.out _ (HW.out.ext HX.out)).mono ?_
                    rintro e w2 ⟨rfl, hx⟩
                    have HX := Lib.hid (HX.out.trans hx)
                    clear hx
                    go_wp2_with fail
                    refine (HTB.out _ (HW.out.ext HX.out)).mono ?_
                    rintro e w3 ⟨rfl, hx⟩
                    have HX := Lib.hid (HX.out.trans hx)
                    clear hx
                    go_wp2_with fail
                    refine (HC.out.1 _).mono ?_
                    rintro e w4 ⟨rfl, hx⟩
                    have HX := Lib.hid (HX.out.trans hx)
                    clear hx
                    go_wp2_with fail
                    refine (HC.out.2.1 _).mono ?_
                    rintro e w5 ⟨rfl, hx⟩
                    have HX := Lib.hid (HX.out.trans hx)
                    clear hx
                    go_wp2_with fail
                    refine (HC.out.2.2.1 _).mono ?_
                    rintro e w6 ⟨rfl, hx⟩
                    have HX := Lib.hid (HX.out.trans hx)
                    clear hx
                    go_wp2_with fail
                    refine (HC.out.2.2.2.1 _).mono ?_
                    rintro e w7 ⟨rfl, hx⟩
                    have HX := Lib.hid (HX.out.trans hx)
                    clear hx
                    go_wp2_with fail
                    refine (HC.out.2.2.2.2 _).mono ?_
                    rintro e w8 ⟨rfl, hx⟩
                    have HX := Lib.hid (HX.out.trans hx)
                    clear hx
                    go_wp2_with fail
                    go_ret
                    exact ⟨rfl, HX.out⟩
              · have heb : (err == 0) = false := beq_eq_false_iff_ne.2 he
                have hec : (err != 0) = true := bne_iff_ne.2 he
                go_enter Tryz.func3, Tryz.ntmps3
                go_wp2_with fail
                refine HLV.out.mono ?_
                rintro e w1 ⟨rfl, hx⟩
                have HX := Lib.hid hx
                clear hx
                go_wp2_with fail
                refine (HTA.out _ (HW.out.ext HX.out)).mono ?_
                rintro e w2 ⟨rfl, hx⟩
                have HX := Lib.hid (HX.out.trans hx)
                clear hx
                go_wp2_with fail
                refine (HTB.out _ (HW.out.ext HX.out)).mono ?_
                rintro e w3 ⟨rfl, hx⟩
                have HX := Lib.hid (HX.out.trans hx)
                clear hx
                go_wp2_with fail
                refine (HC.out.1 _).mono ?_
                rintro e w4 ⟨rfl, hx⟩
                have HX := Lib.hid (HX.out.trans hx)
                clear hx
                go_wp2_with fail
                refine (HC.out.2.1 _).mono ?_
                rintro e w5 ⟨rfl, hx⟩
                have HX := Lib.hid (HX.out.trans hx)
                clear hx
                go_wp2_with fail
                refine (HC.out.2.2.1 _).mono ?_
                rintro e w6 ⟨rfl, hx⟩
                have HX := Lib.hid (HX.out.trans hx)
                clear hx
                go_wp2_with fail
                refine (HC.out.2.2.2.1 _).mono ?_
                rintro e w7 ⟨rfl, hx⟩
                have HX := Lib.hid (HX.out.trans hx)
                clear hx
                go_wp2_with fail
                refine (HC.out.2.2.2.2 _).mono ?_
                rintro e w8 ⟨rfl, hx⟩
                have HX := Lib.hid (HX.out.trans hx)
                clear hx
                go_wp2_with fail
                go_ret
                exact ⟨rfl, HX.out⟩
          · have hs6z : (60 : Int) < (s.size : Int) := by omega
            clear hab hbb
            go_enter Tryz.func3, Tryz.ntmps3
            go_wp2_with fail
            refine HLV.out.mono ?_
            rintro e w1 ⟨rfl, hx⟩
            have HX := Lib.hid hx
            clear hx
            go_wp2_with fail
            refine (HTA.out _ (HW.out.ext HX.out)).mono ?_
            rintro e w2 ⟨rfl, hx⟩
            have HX := Lib.hid (HX.out.trans hx)
            clear hx
            go_wp2_with fail
            refine (HTB.out _ (HW.out.ext HX.out)).mono ?_
            rintro e w3 ⟨rfl, hx⟩
            have HX := Lib.hid (HX.out.trans hx)
            clear hx
            go_wp2_with fail
            go_ret
            exact ⟨rfl, HX.out⟩
        · rw [if_pos ⟨al, ah⟩, if_pos ⟨al, ah⟩] at hta
          have ra1 : ¬ 2147483647 < a := by omega
          have ra2 : ¬ a < -2147483647 := by omega
          rw [if_neg (fun h => bh h.2), if_neg (fun h => bh h.2)] at htb
          have rb1 : 2147483647 < b := by omega
          have rb3 : decide (b ≤ 2147483647) = false := decide_eq_false bh
          have HTA := Lib.hid hta
          have HTB := Lib.hid htb
          clear hta htb
          go_enter Tryz.func3, Tryz.ntmps3
          go_wp2_with fail
          refine HLV.out.mono ?_
          rintro e w1 ⟨rfl, hx⟩
          have HX := Lib.hid hx
          clear hx
          go_wp2_with fail
          refine (HTA.out _ (HW.out.ext HX.out)).mono ?_
          rintro e w2 ⟨rfl, hx⟩
          have HX := Lib.hid (HX.out.trans hx)
          clear hx
          go_wp2_with fail
          refine (HTB.out _ (HW.out.ext HX.out)).mono ?_
          rintro e w3 ⟨rfl, hx⟩
          have HX := Lib.hid (HX.out.trans hx)
          clear hx
          go_wp2_with fail
          go_ret
          exact ⟨rfl, HX.out⟩
      · rw [if_pos ⟨al, ah⟩, if_pos ⟨al, ah⟩] at hta
        have ra1 : ¬ 2147483647 < a := by omega
        have ra2 : ¬ a < -2147483647 := by omega
        rw [if_neg (fun h => bl h.1), if_neg (fun h => bl h.1)] at htb
        have rb2 : b < -2147483647 := by omega
        have rb3 : decide (-2147483647 ≤ b) = false := decide_eq_false bl
        have HTA := Lib.hid hta
        have HTB := Lib.hid htb
        clear hta htb
        go_enter Tryz.func3, Tryz.ntmps3
        go_wp2_with fail
        refine HLV.out.mono ?_
        rintro e w1 ⟨rfl, hx⟩
        have HX := Lib.hid hx
        clear hx
        go_wp2_with fail
        refine (HTA.out _ (HW.out.ext HX.out)).mono ?_
        rintro e w2 ⟨rfl, hx⟩
        have HX := Lib.hid (HX.out.trans hx)
        clear hx
        go_wp2_with fail
        refine (HTB.out _ (HW.out.ext HX.out)).mono ?_
        rintro e w3 ⟨rfl, hx⟩
        have HX := Lib.hid (HX.out.trans hx)
        clear hx
        go_wp2_with fail
        go_ret
        exact ⟨rfl, HX.out⟩
    · by_cases bl : -2147483647 ≤ b
      · by_cases bh : b ≤ 2147483647
        · rw [if_neg (fun h => ah h.2), if_neg (fun h => ah h.2)] at hta
          have ra1 : 2147483647 < a := by omega
          have ra3 : decide (a ≤ 2147483647) = false := decide_eq_false ah
          rw [if_pos ⟨bl, bh⟩, if_pos ⟨bl, bh⟩] at htb
          have rb1 : ¬ 2147483647 < b := by omega
          have rb2 : ¬ b < -2147483647 := by omega
          have HTA := Lib.hid hta
          have HTB := Lib.hid htb
          clear hta htb
          go_enter Tryz.func3, Tryz.ntmps3
          go_wp2_with fail
          refine HLV.out.mono ?_
          rintro e w1 ⟨rfl, hx⟩
          have HX := Lib.hid hx
          clear hx
          go_wp2_with fail
          refine (HTA.out _ (HW.out.ext HX.out)).mono ?_
          rintro e w2 ⟨rfl, hx⟩
          have HX := Lib.hid (HX.out.trans hx)
          clear hx
          go_wp2_with fail
          refine (HTB.out _ (HW.out.ext HX.out)).mono ?_
          rintro e w3 ⟨rfl, hx⟩
          have HX := Lib.hid (HX.out.trans hx)
          clear hx
          go_wp2_with fail
          go_ret
          exact ⟨rfl, HX.out⟩
        · rw [if_neg (fun h => ah h.2), if_neg (fun h => ah h.2)] at hta
          have ra1 : 2147483647 < a := by omega
          have ra3 : decide (a ≤ 2147483647) = false := decide_eq_false ah
          rw [if_neg (fun h => bh h.2), if_neg (fun h => bh h.2)] at htb
          have rb1 : 2147483647 < b := by omega
          have rb3 : decide (b ≤ 2147483647) = false := decide_eq_false bh
          have HTA := Lib.hid hta
          have HTB := Lib.hid htb
          clear hta htb
          go_enter Tryz.func3, Tryz.ntmps3
          go_wp2_with fail
          refine HLV.out.mono ?_
          rintro e w1 ⟨rfl, hx⟩
          have HX := Lib.hid hx
          clear hx
          go_wp2_with fail
          refine (HTA.out _ (HW.out.ext HX.out)).mono ?_
          rintro e w2 ⟨rfl, hx⟩
          have HX := Lib.hid (HX.out.trans hx)
          clear hx
          go_wp2_with fail
          refine (HTB.out _ (HW.out.ext HX.out)).mono ?_
          rintro e w3 ⟨rfl, hx⟩
          have HX := Lib.hid (HX.out.trans hx)
          clear hx
          go_wp2_with fail
          go_ret
          exact ⟨rfl, HX.out⟩
      · rw [if_neg (fun h => ah h.2), if_neg (fun h => ah h.2)] at hta
        have ra1 : 2147483647 < a := by omega
        have ra3 : decide (a ≤ 2147483647) = false := decide_eq_false ah
        rw [if_neg (fun h => bl h.1), if_neg (fun h => bl h.1)] at htb
        have rb2 : b < -2147483647 := by omega
        have rb3 : decide (-2147483647 ≤ b) = false := decide_eq_false bl
        have HTA := Lib.hid hta
        have HTB := Lib.hid htb
        clear hta htb
        go_enter Tryz.func3, Tryz.ntmps3
        go_wp2_with fail
        refine HLV.out.mono ?_
        rintro e w1 ⟨rfl, hx⟩
        have HX := Lib.hid hx
        clear hx
        go_wp2_with fail
        refine (HTA.out _ (HW.out.ext HX.out)).mono ?_
        rintro e w2 ⟨rfl, hx⟩
        have HX := Lib.hid (HX.out.trans hx)
        clear hx
        go_wp2_with fail
        refine (HTB.out _ (HW.out.ext HX.out)).mono ?_
        rintro e w3 ⟨rfl, hx⟩
        have HX := Lib.hid (HX.out.trans hx)
        clear hx
        go_wp2_with fail
        go_ret
        exact ⟨rfl, HX.out⟩
  · by_cases bl : -2147483647 ≤ b
    · by_cases bh : b ≤ 2147483647
      · rw [if_neg (fun h => al h.1), if_neg (fun h => al h.1)] at hta
        have ra2 : a < -2147483647 := by omega
        have ra3 : decide (-2147483647 ≤ a) = false := decide_eq_false al
        rw [if_pos ⟨bl, bh⟩, if_pos ⟨bl, bh⟩] at htb
        have rb1 : ¬ 2147483647 < b := by omega
        have rb2 : ¬ b < -2147483647 := by omega
        have HTA := Lib.hid hta
        have HTB := Lib.hid htb
        clear hta htb
        go_enter Tryz.func3, Tryz.ntmps3
        go_wp2_with fail
        refine HLV.out.mono ?_
        rintro e w1 ⟨rfl, hx⟩
        have HX := Lib.hid hx
        clear hx
        go_wp2_with fail
        refine (HTA.out _ (HW.out.ext HX.out)).mono ?_
        rintro e w2 ⟨rfl, hx⟩
        have HX := Lib.hid (HX.out.trans hx)
        clear hx
        go_wp2_with fail
        refine (HTB.out _ (HW.out.ext HX.out)).mono ?_
        rintro e w3 ⟨rfl, hx⟩
        have HX := Lib.hid (HX.out.trans hx)
        clear hx
        go_wp2_with fail
        go_ret
        exact ⟨rfl, HX.out⟩
      · rw [if_neg (fun h => al h.1), if_neg (fun h => al h.1)] at hta
        have ra2 : a < -2147483647 := by omega
        have ra3 : decide (-2147483647 ≤ a) = false := decide_eq_false al
        rw [if_neg (fun h => bh h.2), if_neg (fun h => bh h.2)] at htb
        have rb1 : 2147483647 < b := by omega
        have rb3 : decide (b ≤ 2147483647) = false := decide_eq_false bh
        have HTA := Lib.hid hta
        have HTB := Lib.hid htb
        clear hta htb
        go_enter Tryz.func3, Tryz.ntmps3
        go_wp2_with fail
        refine HLV.out.mono ?_
        rintro e w1 ⟨rfl, hx⟩
        have HX := Lib.hid hx
        clear hx
        go_wp2_with fail
        refine (HTA.out _ (HW.out.ext HX.out)).mono ?_
        rintro e w2 ⟨rfl, hx⟩
        have HX := Lib.hid (HX.out.trans hx)
        clear hx
        go_wp2_with fail
        refine (HTB.out _ (HW.out.ext HX.out)).mono ?_
        rintro e w3 ⟨rfl, hx⟩
        have HX := Lib.hid (HX.out.trans hx)
        clear hx
        go_wp2_with fail
        go_ret
        exact ⟨rfl, HX.out⟩
    · rw [if_neg (fun h => al h.1), if_neg (fun h => al h.1)] at hta
      have ra2 : a < -2147483647 := by omega
      have ra3 : decide (-2147483647 ≤ a) = false := decide_eq_false al
      rw [if_neg (fun h => bl h.1), if_neg (fun h => bl h.1)] at htb
      have rb2 : b < -2147483647 := by omega
      have rb3 : decide (-2147483647 ≤ b) = false := decide_eq_false bl
      have HTA := Lib.hid hta
      have HTB := Lib.hid htb
      clear hta htb
      go_enter Tryz.func3, Tryz.ntmps3
      go_wp2_with fail
      refine HLV.out.mono ?_
      rintro e w1 ⟨rfl, hx⟩
      have HX := Lib.hid hx
      clear hx
      go_wp2_with fail
      refine (HTA.out _ (HW.out.ext HX.out)).mono ?_
      rintro e w2 ⟨rfl, hx⟩
      have HX := Lib.hid (HX.out.trans hx)
      clear hx
      go_wp2_with fail
      refine (HTB.out _ (HW.out.ext HX.out)).mono ?_
      rintro e w3 ⟨rfl, hx⟩
      have HX := Lib.hid (HX.out.trans hx)
      clear hx
      go_wp2_with fail
      go_ret
      exact ⟨rfl, HX.out⟩
end Go.Proofs.YticahefindlmeaaGreatDoor.Nu
