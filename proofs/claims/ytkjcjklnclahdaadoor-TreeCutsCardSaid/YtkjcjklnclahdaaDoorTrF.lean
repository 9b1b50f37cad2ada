/-
  tree: shape walked.
-/
import Derived.Test.YtkjcjklnclahdaaDoorTrE
import Derived.Deep.CutRange
namespace Go.Proofs.YtkjcjklnclahdaaDoor.Tr
open Go.RowKit

theorem swap01 {w0 w : World} {a b : Ob} {l : List Ob} (h : Sep w0 w (a :: b :: l)) : Sep w0 w (b :: a :: l) := by
  have hg : ∀ (i : Nat) (o : Ob), (b :: a :: l)[i]? = some o → ∃ j, (a :: b :: l)[j]? = some o ∧ (i = 0 → j = 1) ∧ (i = 1 → j = 0) ∧ (2 ≤ i → j = i) := fun i o hi => by
    match i, hi with
    | 0, hi => exact ⟨1, hi, fun _ => rfl, fun h => by omega, fun h => by omega⟩
    | 1, hi => exact ⟨0, hi, fun h => by omega, fun _ => rfl, fun h => by omega⟩
    | i + 2, hi => exact ⟨i + 2, hi, fun h => by omega, fun h => by omega, fun _ => rfl⟩
  refine ⟨h.ext, fun o ho => h.each o (by simp at ho ⊢; rcases ho with h | h | h <;> simp [h]), fun o ho => h.base o (by simp at ho ⊢; rcases ho with h | h | h <;> simp [h]), fun i j x y hi hj hij => ?_⟩
  obtain ⟨i2, h1, h2, h3, h4⟩ := hg i x hi
  obtain ⟨j2, g1, g2, g3, g4⟩ := hg j y hj
  refine h.apart i2 j2 x y h1 g1 fun e => hij ?_
  rcases Nat.lt_or_ge i 2 with q | q
  · rcases Nat.lt_or_ge j 2 with r | r <;> omega
  · rcases Nat.lt_or_ge j 2 with r | r <;> omega
/-- what is left at the end -/
def shapeR (n : Nat) : Option (List Fm × List Int × List Int) → Option (List Int × List Int)
  | some ([], E, D) => if 0 < n then some (E, D) else none
  | _ => none
theorem shapeN_is (l : List Nd) : shapeN l = shapeR l.length (walkN l l.length 0 [] (zers l.length) (zers l.length)) := by
  unfold shapeN shapeR
  split <;> simp_all
/-- what shape tells -/
def ShapeIs (R : Option (List Int × List Int)) (ev dv : Value) (w : World) : Prop :=
  match R with
  | some (E, D) => (∃ base cap, ev = .slice base E.length cap ∧ IntsAt w base E) ∧ ∃ base cap, dv = .slice base D.length cap ∧ IntsAt w base D
  | none => True
set_option maxRecDepth 100000 in
set_option maxHeartbeats 8000000 in
theorem shape_walk (v : Value) (l : List Nd) (w : World) (h : NodesAt w v l) (hl : l.length ≤ 65536) :
    Calls Tryd.prog 46 #[v] w fun e w' => ∃ ev dv, e = .returned (.tuple #[ev, dv, .bool (shapeN l).isSome]) ∧ Ext [] w w' ∧ ShapeIs (shapeN l) ev dv w' := by
  obtain ⟨Y, hY⟩ : ∃ Y, shapeN l = Y := ⟨_, rfl⟩
  obtain ⟨B, hB⟩ : ∃ B, Y.isSome = B := ⟨_, rfl⟩
  obtain ⟨i0, hif, hz0, hz1, hz2⟩ := info_parts infoFrame
  obtain ⟨base, cap, rfl, -, hN⟩ := h
  obtain ⟨n, hn⟩ : ∃ n, l.length = n := ⟨_, rfl⟩
  obtain ⟨R, hR⟩ : ∃ R, walkN l n 0 [] (zers n) (zers n) = R := ⟨_, rfl⟩
  have hS := shapeN_is l
  rw [hn, hR] at hS
  rw [hY] at hS ⊢
  rw [hB]
  have HB := Lib.hid hB
  clear hB hY
  rw [hn] at hl ⊢
  have HR := Lib.hid (⟨hR, hS, hn, hN⟩ : _ ∧ _ ∧ _ ∧ _)
  clear hR hN hS hn
  go_enter Tryd.func46, Tryd.ntmps46
  go_upto_region 1 with fail
  go_cut [2, 3] (fun c d wx => ∃ g1 g2, c = .slice (some ⟨g1, 0, none⟩) n n ∧ d = .slice (some ⟨g2, 0, none⟩) n n ∧ Sep w wx [oIs g1 n (zers n), oIs g2 n (zers n)])
  case first =>
    refine wp_region_perm (C := fun w' => ∃ x : Ex w, w' = x.w) [0, 1, 3, 4] 7 (by kernel_rfl) (by kernel_rfl) ⟨Ex.mk _ ((Ext.refl [] w).drew), rfl⟩ ?_
    simp only [pick, List.drop_succ_cons, List.drop_zero, List.getElem?_toArray, List.getElem?_cons_zero, List.getElem?_cons_succ]
    repeat (go_big_quiet_step (fail))
    refine wpQuiet_nil ?_
    have S := (Sep.start w).quiet ((Ext.refl [] w).drew)
    obtain ⟨V, hV⟩ : ∃ V, w.drew = V := ⟨_, rfl⟩
    have hx0 : Ext [] w V := by rw [← hV]; exact (Ext.refl [] w).drew
    rw [hV] at S ⊢
    refine anyC_two (f := 2) (i := 2) (j := 5) (by kernel_rfl) (by decide) (by decide) rfl rfl rfl rfl (fun K hK => ?_) (fun K hK => ?_)
    · obtain ⟨q1, W1, m1, x1, S1⟩ := made n (by omega) S
      go_wp2_with fail
      refine hK _ _ ⟨Ex.mk _ (hx0.trans x1), rfl⟩ ?_
      clear hK K m1
      refine anyC_two (f := 1) (i := 5) (j := 6) (by kernel_rfl) (by decide) (by decide) rfl rfl rfl rfl (fun K hK => ?_) (fun K hK => ?_)
      · obtain ⟨q2, W2, m2, x2, S2⟩ := made n (by omega) S1
        go_wp2_with fail
        refine hK _ _ ⟨Ex.mk _ ((hx0.trans x1).trans x2), rfl⟩ ?_
        clear hK K m2
        refine anyC_one (f := 0) (i := 6) (by kernel_rfl) (by decide) rfl rfl (fun K hK => ?_)
        go_wp2_with fail
        refine hK _ _ ⟨Ex.mk _ ((hx0.trans x1).trans x2), rfl⟩ ?_
        clear hK K
        refine anyC_end (by kernel_rfl) ?_
        go_wp2_with fail
        refine NoPanic.normal ?_
        go_wp2_with fail
        go_meet
        exact ⟨_, _, rfl, rfl, swap01 S2⟩
      · go_wp2_with fail
        refine hK _ _ ⟨Ex.mk _ (hx0.trans x1), rfl⟩ ?_
        clear hK K
        refine anyC_one (f := 0) (i := 5) (by kernel_rfl) (by decide) rfl rfl (fun K hK => ?_)
        obtain ⟨q2, W2, m2, x2, S2⟩ := made n (by omega) S1
        go_wp2_with fail
        refine hK _ _ ⟨Ex.mk _ ((hx0.trans x1).trans x2), rfl⟩ ?_
        clear hK K m2
        refine anyC_end (by kernel_rfl) ?_
        go_wp2_with fail
        refine NoPanic.normal ?_
        go_wp2_with fail
        go_meet
        exact ⟨_, _, rfl, rfl, swap01 S2⟩
    · obtain ⟨q1, W1, m1, x1, S1⟩ := made n (by omega) S
      go_wp2_with fail
      refine hK _ _ ⟨Ex.mk _ (hx0.trans x1), rfl⟩ ?_
      clear hK K m1
      refine anyC_one (f := 1) (i := 2) (by kernel_rfl) (by decide) rfl rfl (fun K hK => ?_)
      obtain ⟨q2, W2, m2, x2, S2⟩ := made n (by omega) S1
      go_wp2_with fail
      refine hK _ _ ⟨Ex.mk _ ((hx0.trans x1).trans x2), rfl⟩ ?_
      clear hK K m2
      refine anyC_one (f := 0) (i := 6) (by kernel_rfl) (by decide) rfl rfl (fun K hK => ?_)
      go_wp2_with fail
      refine hK _ _ ⟨Ex.mk _ ((hx0.trans x1).trans x2), rfl⟩ ?_
      clear hK K
      refine anyC_end (by kernel_rfl) ?_
      go_wp2_with fail
      refine NoPanic.normal ?_
      go_wp2_with fail
      go_meet
      exact ⟨_, _, rfl, rfl, S2⟩
  case rest =>
    obtain ⟨eq, dq, rfl, rfl, S⟩ := hcut
    have S := S.new (Ext.refl _ _) (oFr (.slice none 0 0) []) (World.ownsRow_nil _ _ _ _) (fun q hq => by simp [oFr, oSl, Value.ownBlock] at hq)
    have HS := Lib.hid S
    clear S
    go_wp2_with fail
    go_loopg [2, 3, 5, 17] n (fun g v2 v3 ov iv wr => ∃ (i : Nat) (T : List Fm) (E D : List Int), v2 = .slice (some ⟨eq, 0, none⟩) n n ∧ v3 = .slice (some ⟨dq, 0, none⟩) n n ∧ g + i = n ∧ iv = .int .i64 i ∧ walkN l g i T E D = R ∧ stkOk l i T ∧ E.length = n ∧ D.length = n ∧ Sep w wr [oFr ov T, oIs eq n E, oIs dq n D])
    case atStart => exact ⟨0, [], _, _, rfl, rfl, by omega, rfl, HR.out.1, ⟨by simp, by simp, by simp⟩, zers_len n, zers_len n, HS.out⟩
    case round =>
      clear HS
      obtain ⟨i, T, E, D, rfl, rfl, hgi, rfl, hwk, hok, hE, hD, S⟩ := hrel
      have HW := Lib.hid (⟨hwk, hok, hE, hD, S⟩ : _ ∧ _ ∧ _ ∧ _ ∧ _)
      clear hwk hok hE hD S
      by_cases hlt : i < n
      · obtain ⟨g, rfl⟩ : ∃ g, gk = g + 1 := ⟨gk - 1, by omega⟩
        have hltz : (i : Int) < (n : Int) := by omega
        go_upto_if 21 with (fail)
        go_cut [2, 3, 5, 7, 17] from 17 to 94 (fun c2 c3 c5 c7 c17 wx => ∃ T2, comeN l i T = some T2 ∧ (∀ p ∈ T2, p.1 < i ∧ p.2 ≤ i + 1) ∧ T2.length ≤ i ∧ c2 = .slice (some ⟨eq, 0, none⟩) n n ∧ c3 = .slice (some ⟨dq, 0, none⟩) n n ∧ c17 = .int .i64 i ∧ Sep w wx [oFr c5 T2, oIs eq n E, oIs dq n D])
        case first =>
          by_cases h0 : 0 < i
          case neg =>
            obtain rfl : i = 0 := by omega
            obtain ⟨hwk, ⟨h1, h2, h3⟩, hE, hD, S⟩ := HW.out
            obtain rfl : T = [] := List.length_eq_zero_iff.1 (by omega)
            clear hwk h1 h2 h3 hE hD
            have HS := Lib.hid S
            clear S
            go_wp2_with fail
            go_meet
            exact ⟨[], rfl, by simp, by simp, rfl, rfl, rfl, HS.out⟩
          case pos =>
          have h0z : (0 : Int) < (i : Int) := by omega
          obtain _ | ⟨⟨a, k⟩, T⟩ := T
          · have hO : wr.ownsRow 0 90 2 u5 0 (frC []) := HW.out.2.2.2.2.get 0 rfl
            obtain ⟨ao, cap5, rfl⟩ := row_slice hO
            clear hO
            go_wp2_with fail
            go_ret3
            have hR : R = none := by rw [← HW.out.1, walkN, comeN, if_pos h0]
            rw [hR] at HR
            obtain rfl : Y = none := HR.out.2.1
            obtain rfl : B = false := HB.out.symm
            exact ⟨_, _, rfl, HW.out.2.2.2.2.ext, trivial⟩
          · have hO : (oFr u5 ((a, k) :: T)).P wr := HW.out.2.2.2.2.get 0 rfl
            obtain ⟨g5, cap5, rfl, f1, f2, f3⟩ := fr_top hO
            clear hO
            obtain ⟨h1, h2, h3⟩ := HW.out.2.1
            have ha : a < l.length := by rw [HR.out.2.2.1]; exact Nat.lt_trans (h1 (a, k) (List.mem_cons_self ..)).1 hlt
            have hk : k < (kidsAt l a).length := h3 (a, k) rfl
            obtain ⟨b, o, rfl, n1, n2, n3, n4, nw, bk, ck, n5, n6⟩ := HR.out.2.2.2.ext HW.out.2.2.2.2.ext a ha
            have hka : kidsAt l a = (l[a]'ha).kids := by rw [kidsAt, List.getElem?_eq_getElem ha]
            generalize l[a]'ha = x at *
            rw [hka] at hk
            obtain ⟨b2, o2, rfl, n7⟩ := n6 k hk
            clear n1 n2 n3 n4 nw n6 h3
            have hki : k ≤ i := (h1 (a, k) (List.mem_cons_self ..)).2
            have ht9 : T.length + 1 ≤ 65536 := by simp only [List.length_cons] at h2; omega
            obtain ⟨t, ht⟩ : ∃ t, T.length = t := ⟨_, rfl⟩
            rw [ht] at f1 f2 f3 HW ht9 ⊢
            have HT := Lib.hid (⟨ht, hka, h1⟩ : _ ∧ _ ∧ _)
            have h10 : ((t : Int) + 1 == 0) = false := beq_eq_false_iff_ne.2 (by omega)
            have haz : (a : Int) < (n : Int) := by have := HR.out.2.2.1; omega
            have hkz : (k : Int) < (x.kids.length : Int) := by omega
            obtain ⟨y, hy⟩ : ∃ y, x.kids[k]'hk = y := ⟨_, rfl⟩
            rw [hy] at n7
            have HY := Lib.hid hy
            clear h2 ht hka hy h1
            by_cases hyi : y = (i : Int)
            case neg =>
              have hb : (y != (i : Int)) = true := bne_iff_ne.2 hyi
              have hR : R = none := by
                rw [← HW.out.1, walkN, comeN, if_pos h0, HT.out.2.1, List.getElem?_eq_getElem hk, HY.out, if_neg (by simpa using hyi)]
              clear HY hyi
              go_upto_region 10 with (fail)
              go_quiet (fail)
              go_wp2_with fail
              go_ret3
              rw [hR] at HR
              obtain rfl : Y = none := HR.out.2.1
              obtain rfl : B = false := HB.out.symm
              exact ⟨_, _, rfl, HW.out.2.2.2.2.ext.drewN _, trivial⟩
            case pos =>
              subst hyi
              have hC : comeN l i ((a, k) :: T) = some ((a, k + 1) :: T) := by rw [comeN, if_pos h0, HT.out.2.1, List.getElem?_eq_getElem hk, HY.out, if_pos rfl]
              have HC := Lib.hid hC
              clear HY hC
              go_upto_region 10 with (fail)
              go_quiet (fail)
              go_wp2_with fail
              go_meet
              have S := HW.out.2.2.2.2.quiet ((Ext.refl [] wr).drewN nq)
              have hP := S.get 0 rfl
              rw [← HT.out.1] at hP
              have hP2 := fr_kid (k2 := k + 1) hP
              rw [HT.out.1] at hP2
              refine ⟨_, HC.out, ?_, ?_, rfl, rfl, rfl, S.upd 0 (oFr _ ((a, k + 1) :: T)) rfl ((Ext.refl _ _).setCell _ _ (.inl (by simp [oFr, oSl, Value.ownBlock]))) (Fr.refl _ _) hP2⟩
              · intro p hp
                rcases List.mem_cons.1 hp with rfl | hp
                · exact ⟨(HT.out.2.2 (a, k) (List.mem_cons_self ..)).1, by have := (HT.out.2.2 (a, k) (List.mem_cons_self ..)).2; simp only at *; omega⟩
                · have := HT.out.2.2 p (List.mem_cons_of_mem _ hp)
                  exact ⟨this.1, by omega⟩
              · have := HW.out.2.1.2.1
                simpa using this
        case rest =>
          obtain ⟨T2, hC, hA, hT2, rfl, rfl, rfl, S⟩ := hcut
          have hwk : walkN l g (i + 1) (closeN l i ((i, 0) :: T2) E).1 (closeN l i ((i, 0) :: T2) E).2 (D.set i ((T2.length : Int) + 1)) = R := by rw [← HW.out.1, walkN, hC]
          have hE := HW.out.2.2.1
          have hD := HW.out.2.2.2.1
          obtain ⟨ao, cap5, rfl⟩ := row_slice (show wc.ownsRow 0 90 2 u5 T2.length (frC T2.reverse) from S.get 0 rfl)
          have r0 := ints_at (g := dq) (S.get 2 rfl) (k := i) (by omega)
          have f0 := ints_free (g := dq) (S.get 2 rfl) i
          obtain ⟨C, hC2⟩ : ∃ C, closeN l i ((i, 0) :: T2) E = C := ⟨_, rfl⟩
          obtain ⟨t, ht⟩ : ∃ t, T2.length = t := ⟨_, rfl⟩
          have S := ints_set (k := i) (x := (t : Int) + 1) S 2 rfl
          obtain ⟨D2, hD2⟩ : ∃ D2, D.set i ((t : Int) + 1) = D2 := ⟨_, rfl⟩
          rw [ht, hD2] at hwk
          rw [hC2] at hwk
          rw [hD2] at S
          have hDl : D2.length = n := by rw [← hD2, List.length_set, hD]
          rw [ht] at hT2 ⊢
          have S : Sep w (wc.setCell ⟨dq, i, none⟩ (.int .i64 ((t : Int) + 1))) [oFr (.slice ao T2.length cap5) T2, oIs eq n E, oIs dq n D2] := S
          rw [ht] at S
          have HW := Lib.hid (⟨hwk, hA, hE, hDl, S, ht, hC2⟩ : _ ∧ _ ∧ _ ∧ _ ∧ _ ∧ _ ∧ _)
          clear hwk hA hE hD S ht hC2 hC hDl hD2
          go_upto_region 14 with (fail)
          obtain ⟨W, hW⟩ : ∃ W, wc.setCell ⟨dq, i, none⟩ (.int .i64 ((t : Int) + 1)) = W := ⟨_, rfl⟩
          rw [hW] at HW ⊢
          clear hW r0 f0
          have hown : W.ownsRow 0 90 2 (.slice ao t cap5) t (frC T2.reverse) := by
            have := HW.out.2.2.2.2.1.get 0 rfl
            rw [← HW.out.2.2.2.2.2.1]
            rw [← HW.out.2.2.2.2.2.1] at this
            exact this
          have HO := Lib.hid hown
          clear hown
          go_wp2_with (first | (at_builtin; refine wpList_append_lies _ rfl _ _ 87 rfl 0 90 i0 _ 2 16 Tryd.underlying87 hif hz0 hz1 hz2 rfl (by decide) (.slice ao t cap5) t _ rfl (World.ownsRow.alloc HO.out _) ⟨W.heap.size, 0, none⟩ 1 1 (frC [(i, 0)]) rfl rfl (cells_fr W i 0 _) (by simp [frC, Value.oneCell']) (by decide) (by unfold maxLen; omega) (by omega) (by omega) (W.heap.size + 1) (by simp) ?_; intro g5 cap2 w6 hown1 hgrow hat hlt6))
          have P := push_local (cap := cap2) (n := t + 1) hgrow hat
          have S := HW.out.2.2.2.2.1.upd 0 (oFr (.slice (some ⟨g5, 0, none⟩) (t + 1) cap2) ((i, 0) :: T2)) rfl P.1 P.2 (by
            show w6.ownsRow 0 90 2 (.slice (some ⟨g5, 0, none⟩) (t + 1) cap2) (T2.length + 1) (frC ((i, 0) :: T2).reverse)
            rw [HW.out.2.2.2.2.2.1, List.reverse_cons, frC_append]
            exact hown1)
          have HS := Lib.hid S
          clear S P hown1 hgrow hat hlt6 HO
          go_loopg [5, 8] (t + 1) (fun g2 ov v8 wx => ∃ (T3 : List Fm) (E3 : List Int), g2 = T3.length ∧ closeN l i T3 E3 = C ∧ (∀ p ∈ T3, p.1 < i + 1 ∧ p.2 ≤ i + 1) ∧ T3.length ≤ i + 1 ∧ E3.length = n ∧ Sep w wx [oFr ov T3, oIs eq n E3, oIs dq n D2])
          case atStart =>
            refine ⟨(i, 0) :: T2, E, by rw [List.length_cons, HW.out.2.2.2.2.2.1], HW.out.2.2.2.2.2.2, fun p hp => ?_, by rw [List.length_cons, HW.out.2.2.2.2.2.1]; omega, HW.out.2.2.1, HS.out⟩
            rcases List.mem_cons.1 hp with rfl | hp
            · exact ⟨Nat.lt_succ_self _, Nat.zero_le _⟩
            · exact ⟨Nat.lt_succ_of_lt (HW.out.2.1 p hp).1, (HW.out.2.1 p hp).2⟩
          case round =>
            clear HS
            obtain ⟨T3, E3, rfl, hC, hA, hT3, hE3, S⟩ := hrel
            obtain _ | ⟨⟨a, k⟩, T3⟩ := T3
            · obtain ⟨ao5, cap6, rfl⟩ := row_slice (show wr.ownsRow 0 90 2 u5 0 (frC []) from S.get 0 rfl)
              have HS := Lib.hid S
              have HC := Lib.hid hC
              clear S hC hA hT3
              go_wp2_with fail
              go_roundg g
              case measure => omega
              case rel =>
                refine ⟨i + 1, [], E3, D2, rfl, rfl, by omega, by go_num, ?_, ⟨by simp, by simp, by simp⟩, hE3, HW.out.2.2.2.1, HS.out⟩
                rw [← HW.out.1, ← HC.out]
                rfl
            · have hO : (oFr u5 ((a, k) :: T3)).P wr := S.get 0 rfl
              obtain ⟨g6, cap6, rfl, f1, f2, f3⟩ := fr_top hO
              clear hO f3
              have ha : a < l.length := by
                have h1 := (hA (a, k) (List.mem_cons_self ..)).1
                have h2 := HR.out.2.2.1
                simp only at h1
                omega
              obtain ⟨b, o, rfl, n1, n2, n3, n4, nw, bk, ck, n5, n6⟩ := HR.out.2.2.2.ext S.ext a ha
              have hka : kidsAt l a = (l[a]'ha).kids := by rw [kidsAt, List.getElem?_eq_getElem ha]
              generalize l[a]'ha = x at *
              clear n1 n2 n3 n4 nw n6
              have hki := (hA (a, k) (List.mem_cons_self ..)).2
              simp only at hki
              obtain ⟨m, hm⟩ : ∃ m, T3.length = m := ⟨_, rfl⟩
              rw [hm] at f1 f2 S ⊢
              have haz : (a : Int) < (n : Int) := by have := HR.out.2.2.1; omega
              have hm9 : m + 1 ≤ 65536 := by simp only [List.length_cons] at hT3; omega
              have HS := Lib.hid (⟨S, hC, hA, hT3, hka, hm⟩ : _ ∧ _ ∧ _ ∧ _ ∧ _ ∧ _)
              clear S hC hA hT3 hka hm
              go_upto_region 17 with (fail)
              obtain ⟨W3, hW3⟩ : ∃ W3, wr.alloc (Obj.cells #[.int .i64 (a : Nat), .int .i64 (k : Nat)] 90) = W3 := ⟨_, rfl⟩
              have hx3 : Ext [] wr W3 := by rw [← hW3]; exact (Ext.refl [] wr).alloc _
              have hb3 : W3.heap[wr.heap.size]? = some (.cells #[.int .i64 (a : Nat), .int .i64 (k : Nat)] 90 (0, 0)) := by rw [← hW3]; exact heap_alloc_at _
              obtain ⟨q, hq⟩ : ∃ q, wr.heap.size = q := ⟨_, rfl⟩
              rw [hq] at hb3 ⊢
              rw [hW3]
              have q0 : W3.cell? ⟨q, 0, none⟩ = some (.int .i64 (a : Nat)) := cellOf hb3 0
              have q1 : W3.cell? ⟨q, 1, none⟩ = some (.int .i64 (k : Nat)) := cellOf hb3 1
              have n5 := hx3.cell n5
              have S := HS.out.1.quiet hx3
              have e0 := ints_at (g := eq) (S.get 1 rfl) (k := a) (by omega)
              have e1 := ints_free (g := eq) (S.get 1 rfl) a
              have S2 := ints_set (k := a) (x := (i : Int) + 1) S 1 rfl
              have HS2 := Lib.hid (⟨S, S2⟩ : _ ∧ _)
              clear S S2 hb3 hq hW3 f1 f2 hx3
              have hcap : m + 1 ≤ cap6 := by
                have h0 : W3.ownsRow 0 90 2 (.slice (some ⟨g6, 0, none⟩) (m + 1) cap6) (T3.length + 1) _ := HS2.out.1.get 0 rfl
                rw [HS.out.2.2.2.2.2] at h0
                obtain ⟨_, _, h1, _⟩ := row_open h0
                exact h1
              by_cases hkk : k < x.kids.length
              · have hkz : (k : Int) < (x.kids.length : Int) := by omega
                go_quiet (fail)
                go_wp2_with fail
                have S := HS2.out.1.quiet ((Ext.refl [] W3).drewN nq)
                go_roundg g
                case measure => omega
                case rel =>
                  refine ⟨i + 1, (a, k) :: T3, E3, D2, rfl, rfl, by omega, by go_num, ?_, ⟨HS.out.2.2.1, HS.out.2.2.2.1, fun p hp => ?_⟩, hE3, HW.out.2.2.2.1, S⟩
                  · have hC := HS.out.2.1
                    rw [closeN, HS.out.2.2.2.2.1, if_pos hkk] at hC
                    rw [← HW.out.1, ← hC]
                  · simp at hp
                    subst hp
                    rw [HS.out.2.2.2.2.1]
                    exact hkk
              · have hkz : ¬ (k : Int) < (x.kids.length : Int) := by omega
                go_quiet (fail)
                go_wp2_with fail
                have S := ints_set (k := a) (x := (i : Int) + 1) (HS2.out.1.quiet ((Ext.refl [] W3).drewN nq)) 1 rfl
                have hP := S.get 0 rfl
                have S2 := S.upd 0 (oFr (.slice (some ⟨g6, 0, none⟩) m cap6) T3) rfl (Ext.refl _ _) (Fr.refl _ _) (by
                  rw [← HS.out.2.2.2.2.2] at hP ⊢
                  exact fr_pop hP)
                go_roundg T3.length
                case measure => simp
                case rel =>
                  refine ⟨T3, E3.set a ((i : Int) + 1), rfl, ?_, fun p hp => HS.out.2.2.1 p (List.mem_cons_of_mem _ hp), ?_, by rw [List.length_set, hE3], S2⟩
                  · have hC := HS.out.2.1
                    rw [closeN, HS.out.2.2.2.2.1, if_neg hkk] at hC
                    exact hC
                  · have := HS.out.2.2.2.1
                    simp only [List.length_cons] at this
                    omega
      · obtain rfl : gk = 0 := by omega
        obtain rfl : i = n := by omega
        have hR := HW.out.1
        rw [walkN] at hR
        by_cases h0 : 0 < i
        · have h0z : (0 : Int) < (i : Int) := by omega
          obtain _ | ⟨p, T⟩ := T
          · obtain ⟨ao5, cap6, rfl⟩ := row_slice (show wr.ownsRow 0 90 2 u5 0 (frC []) from HW.out.2.2.2.2.get 0 rfl)
            have HR2 := Lib.hid hR
            clear hR
            go_wp2_with fail
            go_ret3
            have hYs : Y = some (E, D) := by rw [HR.out.2.1, ← HR2.out, shapeR, if_pos h0]
            obtain rfl : B = true := by rw [← HB.out, hYs]; rfl
            refine ⟨.slice (some ⟨eq, 0, none⟩) i i, .slice (some ⟨dq, 0, none⟩) i i, rfl, HW.out.2.2.2.2.ext, ?_⟩
            rw [hYs]
            exact ⟨⟨_, i, by rw [HW.out.2.2.1], ints_own (HW.out.2.2.2.2.get 1 rfl)⟩, _, i, by rw [HW.out.2.2.2.1], ints_own (HW.out.2.2.2.2.get 2 rfl)⟩
          · obtain ⟨ao5, cap6, rfl⟩ := row_slice (show wr.ownsRow 0 90 2 u5 (T.length + 1) (frC (p :: T).reverse) from HW.out.2.2.2.2.get 0 rfl)
            have HR2 := Lib.hid hR
            obtain ⟨m, hm⟩ : ∃ m, T.length = m := ⟨_, rfl⟩
            rw [hm]
            have hmb : ((m : Int) + 1 == 0) = false := beq_eq_false_iff_ne.2 (by omega)
            clear hR hm
            go_wp2_with fail
            go_ret3
            obtain rfl : Y = none := by rw [HR.out.2.1, ← HR2.out]; rfl
            obtain rfl : B = false := HB.out.symm
            exact ⟨_, _, rfl, HW.out.2.2.2.2.ext, trivial⟩
        · have h0z : ¬ (0 : Int) < (i : Int) := by omega
          have HR2 := Lib.hid hR
          clear hR
          go_wp2_with fail
          go_ret3
          obtain rfl : Y = none := by
            rw [HR.out.2.1, ← HR2.out]
            obtain _ | ⟨p, T⟩ := T
            · rw [shapeR, if_neg h0]
            · rfl
          obtain rfl : B = false := HB.out.symm
          exact ⟨_, _, rfl, HW.out.2.2.2.2.ext, trivial⟩
end Go.Proofs.YtkjcjklnclahdaaDoor.Tr
