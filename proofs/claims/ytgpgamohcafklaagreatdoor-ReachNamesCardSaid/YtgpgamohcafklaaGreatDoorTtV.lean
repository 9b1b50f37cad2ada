/-
  The document's ends walked: it computes what shape computes. plain put together.
-/
import Derived.Test.YtgpgamohcafklaaGreatDoorTtUd
import Derived.Test.YtgpgamohcafklaaGreatDoorTtUc
import Derived.Test.YtgpgamohcafklaaGreatDoorTtUb
namespace Go.Proofs.YtgpgamohcafklaaGreatDoor.Tr
open Go.RowKit

theorem plain_walk (x : Nd) (hw : NdWf x) (hs : x.s.size ≤ 1000000) (base : Option Addr) (cap : Nat) (w : World) :
    Calls Tryz.prog 38 #[.agg #[.int .i64 x.kind, .int .i64 x.n, .int .i64 x.gen, .string x.s, .slice base x.kids.length cap]] w fun e w' => e = .returned (.bool (bareN x)) ∧ Ext [] w w' := by
  obtain ⟨k, n, gen, s, L⟩ := x
  have h0 := hw.n
  simp only at h0 hs ⊢
  by_cases k1 : k = 1
  · subst k1; exact plain_1 n gen s L base cap w
  by_cases k2 : k = 2
  · subst k2; exact plain_2 n gen s L base cap w
  by_cases k3 : k = 3
  · subst k3; exact plain_3 n gen s L base cap h0.1 h0.2 w
  by_cases k4 : k = 4
  · subst k4; exact plain_4 n gen s L base cap hs w
  by_cases k5 : k = 5
  · subst k5; exact plain_5 n gen s L base cap w
  by_cases k6 : k = 6
  · subst k6; exact plain_6 n gen s L base cap w
  by_cases k7 : k = 7
  · subst k7; exact plain_7 n gen s L base cap w
  by_cases k8 : k = 8
  · subst k8; exact plain_8 n gen s L base cap w
  by_cases k9 : k = 9
  · subst k9; exact plain_9 n gen s L base cap w
  exact plain_x k (by omega) n gen s L base cap w
/-! ### a stack of numbers in a row, the top last -/
def rvC (L : List Nat) : List Value := L.reverse.map fun a => .int .i64 (a : Nat)
theorem rvC_len (L : List Nat) : (rvC L).length = L.length := by simp [rvC]
theorem rvC_cons (a : Nat) (L : List Nat) : rvC (a :: L) = rvC L ++ [.int .i64 (a : Nat)] := by simp [rvC]
def oRv (v : Value) (L : List Nat) : Ob := oSl 3 1 v L.length (rvC L)
theorem rv_top {w : World} {v : Value} {a : Nat} {L : List Nat} (h : (oRv v (a :: L)).P w) :
    ∃ g cap, v = .slice (some ⟨g, 0, none⟩) (L.length + 1) cap ∧ w.cell? ⟨g, L.length, none⟩ = some (.int .i64 (a : Nat)) ∧ w.frozen? ⟨g, L.length, none⟩ = false ∧ L.length + 1 ≤ cap := by
  have h : w.ownsRow 0 3 1 v (L.length + 1) (rvC (a :: L)) := h
  obtain ⟨g, cap, rfl⟩ := row_form h (by omega)
  have hc := row_le h
  rw [rvC_cons] at h
  refine ⟨g, cap, rfl, row_cell h ?_, row_free h _, hc⟩
  rw [List.getElem?_append_right (by rw [rvC_len]; omega), rvC_len, Nat.sub_self]
  rfl
theorem rv_put {w : World} {g cap a b : Nat} {L : List Nat} (h : (oRv (.slice (some ⟨g, 0, none⟩) (L.length + 1) cap) (a :: L)).P w) :
    (oRv (.slice (some ⟨g, 0, none⟩) (L.length + 1) cap) (b :: L)).P (w.setCell ⟨g, L.length, none⟩ (.int .i64 (b : Nat))) := by
  have h : w.ownsRow 0 3 1 (.slice (some ⟨g, 0, none⟩) (L.length + 1) cap) (L.length + 1) (rvC (a :: L)) := h
  have h2 := row_put (i := L.length) h (.int .i64 (b : Nat))
  have e : (rvC (a :: L)).set L.length (.int .i64 (b : Nat)) = rvC (b :: L) := by
    rw [rvC_cons, rvC_cons, List.set_append_right _ _ (by rw [rvC_len]; omega), rvC_len, Nat.sub_self]
    rfl
  rw [e] at h2
  exact h2
theorem rv_pop {w : World} {g cap a : Nat} {L : List Nat} (h : (oRv (.slice (some ⟨g, 0, none⟩) (L.length + 1) cap) (a :: L)).P w) : (oRv (.slice (some ⟨g, 0, none⟩) L.length cap) L).P w := by
  have h : w.ownsRow 0 3 1 (.slice (some ⟨g, 0, none⟩) (L.length + 1) cap) (L.length + 1) (rvC (a :: L)) := h
  have h2 := row_less h (Nat.le_succ L.length)
  have e : (rvC (a :: L)).take (L.length * 1) = rvC L := by rw [rvC_cons, Nat.mul_one, ← rvC_len L, List.take_left']; rfl
  rw [e] at h2
  exact h2
/-! ### no frame stands past its kids -/
def frOk (l : List Nd) (T : List Fm) : Prop := ∀ p ∈ T, p.2 ≤ (kidsAt l p.1).length
theorem frOk.come {l : List Nd} {i : Nat} {T T2 : List Fm} (h : frOk l T) (hc : comeN l i T = some T2) : frOk l T2 := by
  obtain _ | ⟨⟨a, k⟩, T⟩ := T
  · rw [comeN] at hc
    split at hc
    · cases hc
    · obtain rfl := Option.some.inj hc
      exact h
  · rw [comeN] at hc
    split at hc
    · split at hc
      · rename_i hk
        obtain rfl := Option.some.inj hc
        intro p hp
        rcases List.mem_cons.1 hp with rfl | hp
        · have := (List.getElem?_eq_some_iff.1 hk).1
          exact this
        · exact h p (List.mem_cons_of_mem _ hp)
      · cases hc
    · obtain rfl := Option.some.inj hc
      exact h
theorem frOk.close {l : List Nd} {i : Nat} : ∀ {T : List Fm} {E : List Int}, frOk l T → frOk l (closeN l i T E).1
  | [], E, h => h
  | (a, k) :: T, E, h => by
    unfold closeN
    split
    · exact h
    · exact frOk.close fun p hp => h p (List.mem_cons_of_mem _ hp)
theorem frOk.push {l : List Nd} {i : Nat} {T : List Fm} (h : frOk l T) : frOk l ((i, 0) :: T) := fun p hp => by
  rcases List.mem_cons.1 hp with rfl | hp
  · exact Nat.zero_le _
  · exact h p hp
def firsts (T : List Fm) : List Nat := T.map (·.1)
def nexts (T : List Fm) : List Nat := T.map (·.2)
theorem firsts_len (T : List Fm) : (firsts T).length = T.length := by simp [firsts]
theorem nexts_len (T : List Fm) : (nexts T).length = T.length := by simp [nexts]
set_option maxRecDepth 100000 in
set_option maxHeartbeats 8000000 in
theorem ends_walk (v : Value) (l : List Nd) (w : World) (h : NodesAt w v l) (hl : l.length ≤ 65536) :
    Calls Tryz.prog 37 #[v] w fun e w' => ∃ ev dv, e = .returned (.tuple #[ev, dv, .bool (shapeN l).isSome]) ∧ Ext [] w w' ∧ ShapeIs (shapeN l) ev dv w' := by
  obtain ⟨Y, hY⟩ : ∃ Y, shapeN l = Y := ⟨_, rfl⟩
  obtain ⟨B, hB⟩ : ∃ B, Y.isSome = B := ⟨_, rfl⟩
  obtain ⟨i0, hif, hz0, hz1, hz2⟩ := info_parts infoInt
  obtain ⟨base, cap, rfl, -, hN⟩ := h
  obtain ⟨n, hn⟩ : ∃ n, l.length = n := ⟨_, rfl⟩
  obtain ⟨R, hR⟩ : ∃ R, walkN l n 0 [] (zers n) (zers n) = R := ⟨_, rfl⟩
  have hS := shapeN_is l
  rw [hn, hR] at hS
  rw [hY] at hS ⊢
  rw [hB]
  have HB := Lib.hid hB
  clear hB hY
  rw [hn] at hl ⊢
  have HR := Lib.hid (⟨hR, hS, hn, hN⟩ : _ ∧ _ ∧ _ ∧ _)
  clear hR hN hS hn
  go_enter Tryz.func37, Tryz.ntmps37
  go_upto_region 1 with fail
  go_cut [5, 6] (fun c d wx => ∃ g1 g2, c = .slice (some ⟨g1, 0, none⟩) n n ∧ d = .slice (some ⟨g2, 0, none⟩) n n ∧ Sep w wx [oIs g1 n (zers n), oIs g2 n (zers n)])
  case first =>
    refine wp_region_perm (C := fun w' => ∃ x : Ex w, w' = x.w) [0, 1, 3, 4] 7 (by kernel_rfl) (by kernel_rfl) ⟨Ex.mk _ ((Ext.refl [] w).drew), rfl⟩ ?_
    simp only [pick, List.drop_succ_cons, List.drop_zero, List.getElem?_toArray, List.getElem?_cons_zero, List.getElem?_cons_succ]
    repeat (go_big_quiet_step (fail))
    refine wpQuiet_nil ?_
    have S := (Sep.start w).quiet ((Ext.refl [] w).drew)
    obtain ⟨V, hV⟩ : ∃ V, w.drew = V := ⟨_, rfl⟩
    have hx0 : Ext [] w V := by rw [← hV]; exact (Ext.refl [] w).drew
    rw [hV] at S ⊢
    refine anyC_two (f := 2) (i := 2) (j := 5) (by kernel_rfl) (by decide) (by decide) rfl rfl rfl rfl (fun K hK => ?_) (fun K hK => ?_)
    · obtain ⟨q1, W1, m1, x1, S1⟩ := made n (by omega) S
      go_wp2_with fail
      refine hK _ _ ⟨Ex.mk _ (hx0.trans x1), rfl⟩ ?_
      clear hK K m1
      refine anyC_two (f := 1) (i := 5) (j := 6) (by kernel_rfl) (by decide) (by decide) rfl rfl rfl rfl (fun K hK => ?_) (fun K hK => ?_)
      · obtain ⟨q2, W2, m2, x2, S2⟩ := made n (by omega) S1
        go_wp2_with fail
        refine hK _ _ ⟨Ex.mk _ ((hx0.trans x1).trans x2), rfl⟩ ?_
        clear hK K m2
        refine anyC_one (f := 0) (i := 6) (by kernel_rfl) (by decide) rfl rfl (fun K hK => ?_)
        go_wp2_with fail
        refine hK _ _ ⟨Ex.mk _ ((hx0.trans x1).trans x2), rfl⟩ ?_
        clear hK K
        refine anyC_end (by kernel_rfl) ?_
        go_wp2_with fail
        refine NoPanic.normal ?_
        go_wp2_with fail
        go_meet
        exact ⟨_, _, rfl, rfl, swap01 S2⟩
      · go_wp2_with fail
        refine hK _ _ ⟨Ex.mk _ (hx0.trans x1), rfl⟩ ?_
        clear hK K
        refine anyC_one (f := 0) (i := 5) (by kernel_rfl) (by decide) rfl rfl (fun K hK => ?_)
        obtain ⟨q2, W2, m2, x2, S2⟩ := made n (by omega) S1
        go_wp2_with fail
        refine hK _ _ ⟨Ex.mk _ ((hx0.trans x1).trans x2), rfl⟩ ?_
        clear hK K m2
        refine anyC_end (by kernel_rfl) ?_
        go_wp2_with fail
        refine NoPanic.normal ?_
        go_wp2_with fail
        go_meet
        exact ⟨_, _, rfl, rfl, swap01 S2⟩
    · obtain ⟨q1, W1, m1, x1, S1⟩ := made n (by omega) S
      go_wp2_with fail
      refine hK _ _ ⟨Ex.mk _ (hx0.trans x1), rfl⟩ ?_
      clear hK K m1
      refine anyC_one (f := 1) (i := 2) (by kernel_rfl) (by decide) rfl rfl (fun K hK => ?_)
      obtain ⟨q2, W2, m2, x2, S2⟩ := made n (by omega) S1
      go_wp2_with fail
      refine hK _ _ ⟨Ex.mk _ ((hx0.trans x1).trans x2), rfl⟩ ?_
      clear hK K m2
      refine anyC_one (f := 0) (i := 6) (by kernel_rfl) (by decide) rfl rfl (fun K hK => ?_)
      go_wp2_with fail
      refine hK _ _ ⟨Ex.mk _ ((hx0.trans x1).trans x2), rfl⟩ ?_
      clear hK K
      refine anyC_end (by kernel_rfl) ?_
      go_wp2_with fail
      refine NoPanic.normal ?_
      go_wp2_with fail
      go_meet
      exact ⟨_, _, rfl, rfl, S2⟩
  case rest =>
    obtain ⟨eq, dq, rfl, rfl, S⟩ := hcut
    have S := S.new (Ext.refl _ _) (oRv (.slice none 0 0) []) (World.ownsRow_nil _ _ _ _) (fun q hq => by simp [oRv, oSl, Value.ownBlock] at hq)
    have S := S.new (Ext.refl _ _) (oRv (.slice none 0 0) []) (World.ownsRow_nil _ _ _ _) (fun q hq => by simp [oRv, oSl, Value.ownBlock] at hq)
    have HS := Lib.hid S
    clear S
    go_wp2_with fail
    go_loopg [7, 8, 9] n (fun g ov xv iv wr => ∃ (i : Nat) (T : List Fm) (E D : List Int), g + i = n ∧ iv = .int .i64 i ∧ walkN l g i T E D = R ∧ (stkOk l i T ∧ frOk l T) ∧ E.length = n ∧ D.length = n ∧ Sep w wr [oRv ov (firsts T), oRv xv (nexts T), oIs eq n E, oIs dq n D])
    case atStart => exact ⟨0, [], _, _, by omega, rfl, HR.out.1, ⟨⟨by simp, by simp, by simp⟩, fun p hp => by cases hp⟩, zers_len n, zers_len n, HS.out⟩
    case round =>
      clear HS
      obtain ⟨i, T, E, D, hgi, rfl, hwk, hok, hE, hD, S⟩ := hrel
      have HW := Lib.hid (⟨hwk, hok, hE, hD, S⟩ : _ ∧ _ ∧ _ ∧ _ ∧ _)
      clear hwk hok hE hD S
      by_cases hlt : i < n
      · obtain ⟨g, rfl⟩ : ∃ g, gk = g + 1 := ⟨gk - 1, by omega⟩
        have hltz : (i : Int) < (n : Int) := by omega
        go_upto_if 24 with (fail)
        go_cut [7, 8, 9] from 17 to 108 (fun c7 c8 c9 wx => ∃ T2, comeN l i T = some T2 ∧ (∀ p ∈ T2, p.1 < i ∧ p.2 ≤ i + 1) ∧ T2.length ≤ i ∧ c9 = .int .i64 i ∧ Sep w wx [oRv c7 (firsts T2), oRv c8 (nexts T2), oIs eq n E, oIs dq n D])
        case first =>
          by_cases h0 : 0 < i
          case neg =>
            obtain rfl : i = 0 := by omega
            obtain ⟨hwk, ⟨⟨h1, h2, h3⟩, -⟩, hE, hD, S⟩ := HW.out
            obtain rfl : T = [] := List.length_eq_zero_iff.1 (by omega)
            clear hwk h1 h2 h3 hE hD
            have HS := Lib.hid S
            clear S
            go_wp2_with fail
            go_meet
            exact ⟨[], rfl, by simp, by simp, rfl, HS.out⟩
          case pos =>
          have h0z : (0 : Int) < (i : Int) := by omega
          obtain _ | ⟨⟨a, k⟩, T⟩ := T
          · have hO : wr.ownsRow 0 3 1 u7 0 (rvC []) := HW.out.2.2.2.2.get 0 rfl
            obtain ⟨ao, cap5, rfl⟩ := row_slice hO
            clear hO
            go_wp2_with fail
            go_ret3
            have hR : R = none := by rw [← HW.out.1, walkN, comeN, if_pos h0]
            rw [hR] at HR
            obtain rfl : Y = none := HR.out.2.1
            obtain rfl : B = false := HB.out.symm
            exact ⟨_, _, rfl, HW.out.2.2.2.2.ext, trivial⟩
          · have hO : (oRv u7 (a :: firsts T)).P wr := HW.out.2.2.2.2.get 0 rfl
            have hX : (oRv u8 (k :: nexts T)).P wr := HW.out.2.2.2.2.get 1 rfl
            obtain ⟨g7, cap7, rfl, f1, f2, -⟩ := rv_top hO
            obtain ⟨g8, cap8, rfl, f3, f4, -⟩ := rv_top hX
            clear hO hX
            obtain ⟨⟨h1, h2, h3⟩, -⟩ := HW.out.2.1
            have ha : a < l.length := by rw [HR.out.2.2.1]; exact Nat.lt_trans (h1 (a, k) (List.mem_cons_self ..)).1 hlt
            have hk : k < (kidsAt l a).length := h3 (a, k) rfl
            obtain ⟨b, o, rfl, n1, n2, n3, n4, nw, bk, ck, n5, n6⟩ := HR.out.2.2.2.ext HW.out.2.2.2.2.ext a ha
            have hka : kidsAt l a = (l[a]'ha).kids := by rw [kidsAt, List.getElem?_eq_getElem ha]
            generalize l[a]'ha = x at *
            rw [hka] at hk
            obtain ⟨b2, o2, rfl, n7⟩ := n6 k hk
            clear n1 n2 n3 n4 nw n6 h3
            have hki : k ≤ i := (h1 (a, k) (List.mem_cons_self ..)).2
            have ht9 : T.length + 1 ≤ 65536 := by simp only [List.length_cons] at h2; omega
            rw [firsts_len] at f1 f2 ⊢
            rw [nexts_len] at f3 f4 ⊢
            obtain ⟨t, ht⟩ : ∃ t, T.length = t := ⟨_, rfl⟩
            rw [ht] at f1 f2 f3 f4 ht9 ⊢
            have HW := Lib.hid HW.out
            rw [firsts_len, nexts_len, ht] at HW
            have HT := Lib.hid (⟨ht, hka, h1⟩ : _ ∧ _ ∧ _)
            have h10 : ((t : Int) + 1 == 0) = false := beq_eq_false_iff_ne.2 (by omega)
            have haz : (a : Int) < (n : Int) := by have := HR.out.2.2.1; omega
            have hkz : (k : Int) < (x.kids.length : Int) := by omega
            obtain ⟨y, hy⟩ : ∃ y, x.kids[k]'hk = y := ⟨_, rfl⟩
            rw [hy] at n7
            have HY := Lib.hid hy
            clear h2 ht hka hy h1
            by_cases hyi : y = (i : Int)
            case neg =>
              have hb : (y != (i : Int)) = true := bne_iff_ne.2 hyi
              have hR : R = none := by
                rw [← HW.out.1, walkN, comeN, if_pos h0, HT.out.2.1, List.getElem?_eq_getElem hk, HY.out, if_neg (by simpa using hyi)]
              clear HY hyi
              go_upto_region 11 with (fail)
              go_quiet (fail)
              go_wp2_with fail
              go_ret3
              rw [hR] at HR
              obtain rfl : Y = none := HR.out.2.1
              obtain rfl : B = false := HB.out.symm
              exact ⟨_, _, rfl, HW.out.2.2.2.2.ext.drewN _, trivial⟩
            case pos =>
              subst hyi
              have hC : comeN l i ((a, k) :: T) = some ((a, k + 1) :: T) := by rw [comeN, if_pos h0, HT.out.2.1, List.getElem?_eq_getElem hk, HY.out, if_pos rfl]
              have HC := Lib.hid hC
              clear HY hC
              go_upto_region 11 with (fail)
              go_quiet (fail)
              go_wp2_with fail
              go_meet
              have S := HW.out.2.2.2.2.quiet ((Ext.refl [] wr).drewN nq)
              have hP := S.get 1 rfl
              have hP2 := rv_put (b := k + 1) (L := nexts T) (a := k) (by rw [nexts_len, HT.out.1]; exact hP)
              rw [nexts_len, HT.out.1] at hP2
              refine ⟨_, HC.out, ?_, ?_, rfl, S.upd 1 (oRv _ (nexts ((a, k + 1) :: T))) rfl ((Ext.refl _ _).setCell _ _ (.inl (by simp [oRv, oSl, Value.ownBlock]))) (Fr.refl _ _) hP2⟩
              · intro p hp
                rcases List.mem_cons.1 hp with rfl | hp
                · exact ⟨(HT.out.2.2 (a, k) (List.mem_cons_self ..)).1, by have := (HT.out.2.2 (a, k) (List.mem_cons_self ..)).2; simp only at *; omega⟩
                · have := HT.out.2.2 p (List.mem_cons_of_mem _ hp)
                  exact ⟨this.1, by omega⟩
              · have := HW.out.2.1.1.2.1
                simpa using this
        case rest =>
          obtain ⟨T2, hC, hA, hT2, rfl, S⟩ := hcut
          have hwk : walkN l g (i + 1) (closeN l i ((i, 0) :: T2) E).1 (closeN l i ((i, 0) :: T2) E).2 (D.set i ((T2.length : Int) + 1)) = R := by rw [← HW.out.1, walkN, hC]
          have hF := (HW.out.2.1.2.come hC).push (i := i)
          have hE := HW.out.2.2.1
          have hD := HW.out.2.2.2.1
          obtain ⟨ao, cap7, rfl⟩ := row_slice (show wc.ownsRow 0 3 1 u7 (firsts T2).length (rvC (firsts T2)) from S.get 0 rfl)
          obtain ⟨ax, cap8, rfl⟩ := row_slice (show wc.ownsRow 0 3 1 u8 (nexts T2).length (rvC (nexts T2)) from S.get 1 rfl)
          have r0 := ints_at (g := dq) (S.get 3 rfl) (k := i) (by omega)
          have f0 := ints_free (g := dq) (S.get 3 rfl) i
          obtain ⟨C, hC2⟩ : ∃ C, closeN l i ((i, 0) :: T2) E = C := ⟨_, rfl⟩
          have S := ints_set (k := i) (x := (T2.length : Int) + 1) S 3 rfl
          have S : Sep w (wc.setCell ⟨dq, i, none⟩ (.int .i64 ((T2.length : Int) + 1))) [oRv (.slice ao (firsts T2).length cap7) (firsts T2), oRv (.slice ax (nexts T2).length cap8) (nexts T2), oIs eq n E, oIs dq n (D.set i ((T2.length : Int) + 1))] := S
          rw [firsts_len, nexts_len] at S ⊢
          obtain ⟨t, ht⟩ : ∃ t, T2.length = t := ⟨_, rfl⟩
          obtain ⟨D2, hD2⟩ : ∃ D2, D.set i ((t : Int) + 1) = D2 := ⟨_, rfl⟩
          rw [ht, hD2] at hwk
          rw [hC2] at hwk
          rw [ht, hD2] at S
          have hDl : D2.length = n := by rw [← hD2, List.length_set, hD]
          rw [ht] at hT2 ⊢
          have HW := Lib.hid (⟨hwk, hA, hE, hDl, S, ht, hC2, hF⟩ : _ ∧ _ ∧ _ ∧ _ ∧ _ ∧ _ ∧ _ ∧ _)
          clear hwk hA hE hD S ht hC2 hC hDl hD2 hF
          go_upto_region 15 with (fail)
          obtain ⟨W, hW⟩ : ∃ W, wc.setCell ⟨dq, i, none⟩ (.int .i64 ((t : Int) + 1)) = W := ⟨_, rfl⟩
          rw [hW] at HW ⊢
          clear hW r0 f0
          have hown : W.ownsRow 0 3 1 (.slice ao t cap7) t (rvC (firsts T2)) := by
            have : W.ownsRow 0 3 1 _ (firsts T2).length _ := HW.out.2.2.2.2.1.get 0 rfl
            rw [firsts_len, HW.out.2.2.2.2.2.1] at this
            exact this
          have HO := Lib.hid hown
          clear hown
          go_wp2_with (first | (at_builtin; refine wpList_append_lies _ rfl _ _ 45 rfl 0 3 i0 _ 1 8 Tryz.underlying45 hif hz0 hz1 hz2 rfl (by decide) (.slice ao t cap7) t _ rfl (World.ownsRow.alloc HO.out _) ⟨W.heap.size, 0, none⟩ 1 1 [.int .i64 (i : Nat)] rfl rfl (cell_one_new _ _ _) (by simp [Value.oneCell']) (by decide) (by unfold maxLen; omega) (by omega) (by omega) (W.heap.size + 1) (by simp) ?_; intro g7 cap2 w6 hown1 hgrow hat hlt6; have P := push_local (cap := cap2) (n := t + 1) hgrow hat; have S := HW.out.2.2.2.2.1.upd 0 (oRv (.slice (some ⟨g7, 0, none⟩) (t + 1) cap2) (i :: firsts T2)) rfl P.1 P.2 (by show w6.ownsRow 0 3 1 _ ((firsts T2).length + 1) (rvC (i :: firsts T2)); rw [firsts_len, HW.out.2.2.2.2.2.1, rvC_cons]; exact hown1); have HS1 := Lib.hid S; have hownx : w6.ownsRow 0 3 1 (.slice ax t cap8) t (rvC (nexts T2)) := (by have hh : w6.ownsRow 0 3 1 _ (nexts T2).length _ := S.get 1 rfl; rw [nexts_len, HW.out.2.2.2.2.2.1] at hh; exact hh); have HX := Lib.hid hownx; clear hownx S P hown1 hgrow hat hlt6) | (at_builtin; refine wpList_append_lies _ rfl _ _ 45 rfl 0 3 i0 _ 1 8 Tryz.underlying45 hif hz0 hz1 hz2 rfl (by decide) (.slice ax t cap8) t _ rfl (World.ownsRow.alloc HX.out _) ⟨w6.heap.size, 0, none⟩ 1 1 [.int .i64 0] rfl rfl (cell_one_new _ _ _) (by simp [Value.oneCell']) (by decide) (by unfold maxLen; omega) (by omega) (by omega) (w6.heap.size + 1) (by simp) ?_; intro g8 cap3 w7 hown2 hgrow2 hat2 hlt7))
          have P := push_local (cap := cap3) (n := t + 1) hgrow2 hat2
          have S := HS1.out.upd 1 (oRv (.slice (some ⟨g8, 0, none⟩) (t + 1) cap3) (0 :: nexts T2)) rfl P.1 P.2 (by
            show w7.ownsRow 0 3 1 _ ((nexts T2).length + 1) (rvC (0 :: nexts T2))
            rw [nexts_len, HW.out.2.2.2.2.2.1, rvC_cons]
            exact hown2)
          have HS := Lib.hid S
          clear S P hown2 hgrow2 hat2 hlt7 HO HS1 HX
          go_loopg [7, 8] (t + 1) (fun g2 ov xv wx => ∃ (T3 : List Fm) (E3 : List Int), g2 = T3.length ∧ closeN l i T3 E3 = C ∧ (∀ p ∈ T3, p.1 < i + 1 ∧ p.2 ≤ i + 1) ∧ T3.length ≤ i + 1 ∧ E3.length = n ∧ frOk l T3 ∧ Sep w wx [oRv ov (firsts T3), oRv xv (nexts T3), oIs eq n E3, oIs dq n D2])
          case atStart =>
            refine ⟨(i, 0) :: T2, E, by rw [List.length_cons, HW.out.2.2.2.2.2.1], HW.out.2.2.2.2.2.2.1, fun p hp => ?_, by rw [List.length_cons, HW.out.2.2.2.2.2.1]; omega, HW.out.2.2.1, HW.out.2.2.2.2.2.2.2, HS.out⟩
            rcases List.mem_cons.1 hp with rfl | hp
            · exact ⟨Nat.lt_succ_self _, Nat.zero_le _⟩
            · exact ⟨Nat.lt_succ_of_lt (HW.out.2.1 p hp).1, (HW.out.2.1 p hp).2⟩
          case round =>
            clear HS
            obtain ⟨T3, E3, rfl, hC, hA, hT3, hE3, hF, S⟩ := hrel
            obtain _ | ⟨⟨a, k⟩, T3⟩ := T3
            · obtain ⟨ao5, cap6, rfl⟩ := row_slice (show wr.ownsRow 0 3 1 u7 0 (rvC []) from S.get 0 rfl)
              have HS := Lib.hid S
              have HC := Lib.hid hC
              clear S hC hA hT3 hF
              go_upto_region 16 with (fail)
              go_quiet (fail)
              go_wp2_with fail
              have S := HS.out.quiet ((Ext.refl [] wr).drewN nq)
              go_roundg g
              case measure => omega
              case rel =>
                refine ⟨i + 1, [], E3, D2, by omega, by go_num, ?_, ⟨⟨by simp, by simp, by simp⟩, fun p hp => by cases hp⟩, hE3, HW.out.2.2.2.1, S⟩
                rw [← HW.out.1, ← HC.out]
                rfl
            · have hO : (oRv u7 (a :: firsts T3)).P wr := S.get 0 rfl
              have hX : (oRv u8 (k :: nexts T3)).P wr := S.get 1 rfl
              obtain ⟨g7b, cap7b, rfl, f1, -, hc7⟩ := rv_top hO
              obtain ⟨g8b, cap8b, rfl, f3, -, hc8⟩ := rv_top hX
              clear hO hX
              have ha : a < l.length := by
                have h1 := (hA (a, k) (List.mem_cons_self ..)).1
                have h2 := HR.out.2.2.1
                simp only at h1
                omega
              obtain ⟨b, o, rfl, n1, n2, n3, n4, nw, bk, ck, n5, n6⟩ := HR.out.2.2.2.ext S.ext a ha
              have hka : kidsAt l a = (l[a]'ha).kids := by rw [kidsAt, List.getElem?_eq_getElem ha]
              generalize l[a]'ha = x at *
              clear n1 n2 n3 n4 nw n6
              have hkl : k ≤ x.kids.length := by rw [← hka]; exact hF (a, k) (List.mem_cons_self ..)
              rw [firsts_len] at f1 hc7 ⊢
              rw [nexts_len] at f3 hc8 ⊢
              have e0 := ints_at (g := eq) (S.get 2 rfl) (k := a) (by have := HR.out.2.2.1; omega)
              have e1 := ints_free (g := eq) (S.get 2 rfl) a
              have HS := Lib.hid S
              rw [firsts_len, nexts_len] at HS
              obtain ⟨m, hm⟩ : ∃ m, T3.length = m := ⟨_, rfl⟩
              rw [hm] at f1 f3 hc7 hc8 HS ⊢
              have haz : (a : Int) < (n : Int) := by have := HR.out.2.2.1; omega
              have hm9 : m + 1 ≤ 65536 := by simp only [List.length_cons] at hT3; omega
              have HS := Lib.hid (⟨HS.out, hC, hA, hT3, hka, hm, hF⟩ : _ ∧ _ ∧ _ ∧ _ ∧ _ ∧ _ ∧ _)
              clear S hC hA hT3 hka hm hF
              have hmz : (0 : Int) < (m : Int) + 1 := by omega
              by_cases hkk : k < x.kids.length
              · have hkz : ((k : Int) == (x.kids.length : Int)) = false := beq_eq_false_iff_ne.2 (by omega)
                go_upto_region 16 with (fail)
                go_quiet (fail)
                go_wp2_with fail
                have S := HS.out.1.quiet ((Ext.refl [] wr).drewN nq)
                go_roundg g
                case measure => omega
                case rel =>
                  refine ⟨i + 1, (a, k) :: T3, E3, D2, by omega, by go_num, ?_, ⟨⟨HS.out.2.2.1, HS.out.2.2.2.1, fun p hp => ?_⟩, HS.out.2.2.2.2.2.2⟩, hE3, HW.out.2.2.2.1, S⟩
                  · have hC := HS.out.2.1
                    rw [closeN, HS.out.2.2.2.2.1, if_pos hkk] at hC
                    rw [← HW.out.1, ← hC]
                  · simp at hp
                    subst hp
                    rw [HS.out.2.2.2.2.1]
                    exact hkk
              · have hkz : ((k : Int) == (x.kids.length : Int)) = true := beq_iff_eq.2 (by omega)
                go_upto_region 16 with (fail)
                go_quiet (fail)
                have HS1 := Lib.hid (ints_set (k := a) (x := (i : Int) + 1) (HS.out.1.quiet ((Ext.refl [] wr).drewN nq)) 2 rfl)
                go_upto_region 18 with (fail)
                go_quiet (fail)
                go_wp2_with fail
                have S := HS1.out.quiet ((Ext.refl [] _).drewN nq)
                have hP := S.get 0 rfl
                have S2 := S.upd 0 (oRv (.slice (some ⟨g7b, 0, none⟩) m cap7b) (firsts T3)) rfl (Ext.refl _ _) (Fr.refl _ _) (by
                  rw [← HS.out.2.2.2.2.2.1, ← firsts_len] at hP ⊢
                  exact rv_pop hP)
                have hP2 := S2.get 1 rfl
                have S3 := S2.upd 1 (oRv (.slice (some ⟨g8b, 0, none⟩) m cap8b) (nexts T3)) rfl (Ext.refl _ _) (Fr.refl _ _) (by
                  rw [← HS.out.2.2.2.2.2.1, ← nexts_len] at hP2 ⊢
                  exact rv_pop hP2)
                go_roundg T3.length
                case measure => simp
                case rel =>
                  refine ⟨T3, E3.set a ((i : Int) + 1), rfl, ?_, fun p hp => HS.out.2.2.1 p (List.mem_cons_of_mem _ hp), ?_, by rw [List.length_set, hE3], fun p hp => HS.out.2.2.2.2.2.2 p (List.mem_cons_of_mem _ hp), S3⟩
                  · have hC := HS.out.2.1
                    rw [closeN, HS.out.2.2.2.2.1, if_neg hkk] at hC
                    exact hC
                  · have := HS.out.2.2.2.1
                    simp only [List.length_cons] at this
                    omega
      · obtain rfl : gk = 0 := by omega
        obtain rfl : i = n := by omega
        have hR := HW.out.1
        rw [walkN] at hR
        by_cases h0 : 0 < i
        · have h0z : (0 : Int) < (i : Int) := by omega
          obtain _ | ⟨p, T⟩ := T
          · obtain ⟨ao5, cap6, rfl⟩ := row_slice (show wr.ownsRow 0 3 1 u7 0 (rvC []) from HW.out.2.2.2.2.get 0 rfl)
            have HR2 := Lib.hid hR
            clear hR
            go_wp2_with fail
            go_ret3
            have hYs : Y = some (E, D) := by rw [HR.out.2.1, ← HR2.out, shapeR, if_pos h0]
            obtain rfl : B = true := by rw [← HB.out, hYs]; rfl
            refine ⟨.slice (some ⟨eq, 0, none⟩) i i, .slice (some ⟨dq, 0, none⟩) i i, rfl, HW.out.2.2.2.2.ext, ?_⟩
            rw [hYs]
            exact ⟨⟨_, i, by rw [HW.out.2.2.1], ints_own (HW.out.2.2.2.2.get 2 rfl)⟩, _, i, by rw [HW.out.2.2.2.1], ints_own (HW.out.2.2.2.2.get 3 rfl)⟩
          · obtain ⟨ao5, cap6, rfl⟩ := row_slice (show wr.ownsRow 0 3 1 u7 (firsts (p :: T)).length (rvC (firsts (p :: T))) from HW.out.2.2.2.2.get 0 rfl)
            rw [firsts_len, List.length_cons]
            have HR2 := Lib.hid hR
            obtain ⟨m, hm⟩ : ∃ m, T.length = m := ⟨_, rfl⟩
            rw [hm]
            have hmb : ((m : Int) + 1 == 0) = false := beq_eq_false_iff_ne.2 (by omega)
            clear hR hm
            go_wp2_with fail
            go_ret3
            obtain rfl : Y = none := by rw [HR.out.2.1, ← HR2.out]; rfl
            obtain rfl : B = false := HB.out.symm
            exact ⟨_, _, rfl, HW.out.2.2.2.2.ext, trivial⟩
        · have h0z : ¬ (0 : Int) < (i : Int) := by omega
          have HR2 := Lib.hid hR
          clear hR
          go_wp2_with fail
          go_ret3
          obtain rfl : Y = none := by
            rw [HR.out.2.1, ← HR2.out]
            obtain _ | ⟨p, T⟩ := T
            · rw [shapeR, if_neg h0]
            · rfl
          obtain rfl : B = false := HB.out.symm
          exact ⟨_, _, rfl, HW.out.2.2.2.2.ext, trivial⟩
end Go.Proofs.YtgpgamohcafklaaGreatDoor.Tr
