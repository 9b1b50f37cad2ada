/-
  The document's parts, Set, Drop, One walked.
-/
import Derived.Test.YtkaimeogebgofaaGreatDoorTuH
namespace Go.Proofs.YtkaimeogebgofaaGreatDoor.Tr
open Go.RowKit

set_option maxRecDepth 100000 in
set_option maxHeartbeats 4000000 in
theorem parts17_walk (v : Value) (l : List Nd) (but : ByteArray) (w : World) (h : NodesAt w v l) (his : isN l 8 = true) :
    Calls Tryz.prog 17 #[v, .string but] w fun e w' => ∃ nv av P F, e = .returned (.tuple #[nv, av]) ∧ Sep w w' [oSl 9 1 nv P.length (stC (P.map (·.1.1))), oSl 28 1 av P.length (P.map fun p : Et × List Nd => slC p.1.2), oNs F P] ∧ P.map (fun p => (p.1.1, p.2)) = entsN l but := by
  obtain ⟨i0, hif, hz0, hz1, hz2⟩ := info_parts infoString17
  obtain ⟨j0, hjf, hy0, hy1, hy2⟩ := info_parts infoNodes
  obtain ⟨hc, hk8⟩ := is_facts his
  obtain ⟨h0, hn, E, D, hsh, -⟩ := check_zero hc
  have hrk := root_kids hc
  have hev := root_even his
  have hrl := root_len hc
  have HSub := Lib.hid (fun (k : Nat) (hk : k < l.length) W (hx : Ext [] w W) => cut17_walk W W [] v l (Sep.start W) (h.ext hx) k hk hn (by rw [hsh]; simp))
  obtain ⟨R, hR⟩ : ∃ R, entsN l but = R := ⟨_, rfl⟩
  rw [hR]
  rw [entsN] at hR
  obtain ⟨base, cap, rfl, -, hN⟩ := h
  obtain ⟨b, o, rfl, hnd⟩ := node_in hN 0 h0
  rw [Nat.zero_mul, Nat.add_zero, show ((0 : Nat) : Int) = 0 from rfl] at hnd
  obtain ⟨-, -, -, -, -, rb, rc, r5, r6⟩ := hnd
  obtain ⟨x, hx0⟩ : ∃ x, ndAt l 0 = x := ⟨_, rfl⟩
  rw [hx0] at hrk hev hrl hR r5 r6
  obtain ⟨K, hK⟩ : ∃ K, x.kids.length = K := ⟨_, rfl⟩
  rw [hK] at r5 hrl hev
  obtain ⟨n, hln⟩ : ∃ n, l.length = n := ⟨_, rfl⟩
  have HH := Lib.hid (⟨hN, hrk, hR, r6, hK, hln⟩ : _ ∧ _ ∧ _ ∧ _ ∧ _ ∧ _)
  rw [hln] at HSub h0 ⊢
  have h0z : (0 : Int) < (n : Int) := by omega
  clear hN hrk hR r6 hK hln hx0 his hc hk8 h0 hsh hn
  go_enter Tryz.func17, Tryz.ntmps17
  go_wp2_with fail
  have S := (Sep.start w).new (Ext.refl _ _) (oNs [] []) ⟨by simp, fun _ _ p hp => by cases hp⟩ (fun k hk => by cases hk)
  have S := S.new (Ext.refl _ _) (oSl 28 1 (.slice none 0 0) 0 []) (World.ownsRow_nil _ _ _ _) (fun q hq => by simp [oSl, Value.ownBlock] at hq)
  have S := S.new (Ext.refl _ _) (oSl 9 1 (.slice none 0 0) 0 []) (World.ownsRow_nil _ _ _ _) (fun q hq => by simp [oSl, Value.ownBlock] at hq)
  have HS := Lib.hid S
  clear S r5
  go_loopg [6, 7, 9] K (fun g nv av iv wr => ∃ (j : Nat) (P : List (Et × List Nd)) (F : List Nat), g + j = K ∧ j % 2 = 0 ∧ iv = .int .i64 j ∧ P.length ≤ j ∧ P.map (fun p => (p.1.1, p.2)) ++ (pairsN l (x.kids.drop j)).filter (fun p => !(p.1.toList == but.toList)) = R ∧ Sep w wr [oSl 9 1 nv P.length (stC (P.map (·.1.1))), oSl 28 1 av P.length (P.map fun p : Et × List Nd => slC p.1.2), oNs F P])
  case atStart => exact ⟨0, [], [], by omega, rfl, rfl, by simp, HH.out.2.2.1, HS.out⟩
  case round =>
    clear HS
    obtain ⟨j, P, F, hgj, hj2, rfl, hP, hR, S⟩ := hrel
    have hr0 : wr.ownsRow 0 9 1 u6 P.length (stC (P.map (·.1.1))) := S.get 0 rfl
    have hr1 : wr.ownsRow 0 28 1 u7 P.length (P.map fun p : Et × List Nd => slC p.1.2) := S.get 1 rfl
    obtain ⟨ao3, c3, rfl⟩ := row_slice hr0
    obtain ⟨ao4, c4, rfl⟩ := row_slice hr1
    obtain ⟨m, hm⟩ : ∃ m, P.length = m := ⟨_, rfl⟩
    rw [hm] at hP hr0 hr1 ⊢
    by_cases hjK : j < K
    case neg =>
      obtain rfl : gk = 0 := by omega
      have hRA : P.map (fun p => (p.1.1, p.2)) = R := by rw [← hR, List.drop_eq_nil_of_le (by rw [HH.out.2.2.2.2.1]; omega)]; simp [pairsN]
      rw [hm] at S
      have HX := Lib.hid (⟨S, hRA, hm⟩ : _ ∧ _ ∧ _)
      clear hR S hr0 hr1 hP hm hRA
      go_wp2_with fail
      go_ret2
      have HX1 := HX.out.1
      rw [← HX.out.2.2] at HX1 ⊢
      exact ⟨_, _, P, F, rfl, HX1, HX.out.2.1⟩
    case pos =>
    obtain ⟨g, rfl⟩ : ∃ g, gk = g + 2 := ⟨gk - 2, by omega⟩
    have hjz : (j : Int) < (K : Int) := by omega
    have hj1 : j + 1 < x.kids.length := by rw [HH.out.2.2.2.2.1]; omega
    have hjz1 : (j : Int) + 1 < (K : Int) := by have := HH.out.2.2.2.2.1; omega
    rw [pairs_step l _ j hj1, List.filter_cons] at hR
    obtain ⟨b5, o5, rfl, c5w⟩ := HH.out.2.2.2.1 j (by omega)
    obtain ⟨b55, o55, e55, c6w⟩ := HH.out.2.2.2.1 (j + 1) hj1
    cases e55
    have hb := HH.out.2.1 j _ (List.getElem?_eq_getElem (by omega))
    have hb1 := HH.out.2.1 (j + 1) _ (List.getElem?_eq_getElem hj1)
    generalize x.kids[j]'(by omega) = c at hR c5w hb
    generalize x.kids[j + 1]'hj1 = d at hR c6w hb1
    obtain ⟨k, rfl⟩ : ∃ k : Nat, c = (k : Int) := ⟨c.toNat, by omega⟩
    obtain ⟨k2, rfl⟩ : ∃ k2 : Nat, d = (k2 : Int) := ⟨d.toNat, by omega⟩
    have hk : k < l.length := by omega
    have hk2 : k2 < n := by have := HH.out.2.2.2.2.2; omega
    obtain ⟨b6, o6, e6, -, -, -, d4w, -⟩ := node_in HH.out.1 k hk
    cases e6
    have hkz : (k : Int) < (n : Int) := by have := HH.out.2.2.2.2.2; omega
    have hk2z : (k2 : Int) < (n : Int) := by omega
    obtain ⟨s, hs⟩ : ∃ s, (ndAt l (k : Int)).s = s := ⟨_, rfl⟩
    rw [hs] at d4w
    simp only [hs, Int.toNat_natCast] at hR
    have c6w : w.cell? ⟨b5, o5 + (j + 1), none⟩ = some (.int .i64 (k2 : Nat)) := c6w
    have c5 := S.ext.cell c5w
    have d4 := S.ext.cell d4w
    clear hs hb hb1
    cases hbut : (s.toList == but.toList) with
    | true =>
      rw [hbut] at hR
      have HX := Lib.hid (⟨S, hR, hm⟩ : _ ∧ _ ∧ _)
      clear S hR hr0 hr1 hm c5w c6w d4w
      go_wp2_with fail
      go_roundg g
      case measure => omega
      case rel => exact ⟨j + 2, P, F, by omega, by omega, by go_num, by rw [HX.out.2.2]; omega, by simpa using HX.out.2.1, by have := HX.out.1; rw [HX.out.2.2] at this ⊢; exact this⟩
    | false =>
      rw [hbut] at hR
      have q5 : ∀ y : ExS (Value.slice ao3 m c3).ownBlock.toList wr, y.w.cell? ⟨b5, o5 + j, none⟩ = some (.int .i64 (k : Nat)) := fun y => cell_exs S c5w 0 rfl (by rw [hm]; exact fun _ h => h) y
      have q6 : ∀ y : ExS (Value.slice ao3 m c3).ownBlock.toList wr, y.w.cell? ⟨b5, o5 + (j + 1), none⟩ = some (.int .i64 (k2 : Nat)) := fun y => cell_exs S c6w 0 rfl (by rw [hm]; exact fun _ h => h) y
      have q4 : ∀ y : ExS (Value.slice ao3 m c3).ownBlock.toList wr, y.w.cell? ⟨b, o + k * 5 + 3, none⟩ = some (.string s) := fun y => cell_exs S d4w 0 rfl (by rw [hm]; exact fun _ h => h) y
      have HX := Lib.hid (⟨S, hR, hm, hr0, hr1⟩ : _ ∧ _ ∧ _ ∧ _ ∧ _)
      clear S hR hr0 hr1 hm c5w c6w d4w
      go_upto_region 8 with (fail)
      clear c5 d4
      refine wp_region_perm (C := fun w' => ∃ y : ExS (Value.slice ao3 m c3).ownBlock.toList wr, w' = y.w) [0, 1, 2, 3, 4, 5, 6, 7, 8, 11, 12, 13, 14, 15, 16, 17] 20 (by kernel_rfl) (by kernel_rfl) ⟨ExS.mk _ ((Ext.refl _ wr).drew), rfl⟩ ?_
      simp only [pick, List.getElem?_toArray, List.getElem?_cons_zero, List.getElem?_cons_succ, List.drop_succ_cons, List.drop_zero]
      repeat (go_big_quiet_step (fail))
      refine wpQuiet_nil ?_
      clear q4 q5 q6
      refine anyC_one (f := 3) (i := 9) (by kernel_rfl) (by decide) rfl rfl (fun K9 hK9 => ?_)
      go_wp2_with fail
      refine hK9 _ _ ⟨ExS.mk _ ((Ext.refl _ wr).drew.alloc _), rfl⟩ ?_
      clear hK9 K9
      refine anyC_one (f := 2) (i := 10) (by kernel_rfl) (by decide) rfl rfl (fun K9 hK9 => ?_)
      refine wp_append_lies _ _ _ 49 rfl 0 9 i0 _ 1 16 Tryz.underlying49 hif hz0 hz1 hz2 rfl (by decide) (.slice ao3 m c3) m _ rfl ((HX.out.2.2.2.1.alloc _).drew) ⟨wr.heap.size, 0, none⟩ 1 1 [.string s] rfl rfl (cell_one_new _ _ _) (by simp [Value.oneCell']) (by decide) (by unfold maxLen; omega) (by omega) (by omega) (wr.heap.size + 1) (by simp) ?_
      intro g6 cap2 w6 hown1 hgrow hat hlt6
      have hgrow := grown_drew hgrow
      have Pl := push_local (cap := cap2) (n := m + 1) hgrow hat
      have S2 := HX.out.1.upd 0 (oSl 9 1 (.slice (some ⟨g6, 0, none⟩) (m + 1) cap2) (m + 1) (stC (P.map (·.1.1)) ++ [Value.string s])) rfl (by rw [HX.out.2.2.1]; exact Pl.1) (by rw [HX.out.2.2.1]; exact Pl.2) hown1
      have hx6 : Ext (Value.slice ao3 m c3).ownBlock.toList wr w6 := Pl.1
      refine hK9 _ _ ⟨ExS.mk w6 hx6, rfl⟩ ?_
      have HS2 := Lib.hid (⟨S2, hx6⟩ : _ ∧ _)
      clear hK9 K9 hgrow hat hlt6 hown1 Pl S2 hx6
      refine anyC_one (f := 1) (i := 18) (by kernel_rfl) (by decide) rfl rfl (fun K9 hK9 => ?_)
      go_wp2_with fail
      refine (HSub.out k2 hk2 _ HS2.out.1.ext).mono ?_
      rintro e W ⟨v9, Z9, rfl, hZ9, S9⟩
      have hB : ZsP W v9 Z9 := S9.get 0 rfl
      obtain ⟨a9, c9, rfl⟩ := row_slice hB.row
      obtain ⟨X9, hX9⟩ : ∃ X9, Z9.length = X9 := ⟨_, rfl⟩
      rw [hX9] at hB ⊢
      have hS9 : Sep w6 W [oZs (.slice a9 X9 c9) Z9] := by rw [← hX9]; exact S9
      have SW := (HS2.out.1).upd 2 (oNs (F ++ zsF (.slice a9 X9 c9) Z9) (P ++ [((s, a9, X9, c9), subN l k2)])) rfl (S9.ext.weak) (fun q hq => by
        have hq : q ∈ F ++ zsF (.slice a9 X9 c9) Z9 := hq
        rcases List.mem_append.1 hq with hq | hq
        · exact .inl hq
        · exact .inr (hS9.base _ (List.mem_cons_self ..) q hq)) ⟨fun q hq => by
        rcases List.mem_append.1 hq with hq | hq
        · exact Nat.lt_of_lt_of_le (((HS2.out.1).get 2 rfl).1 q hq) S9.ext.size
        · exact (oZs (.slice a9 X9 c9) Z9).lt hB q hq, fun w2 h2 p hp => by
        rcases List.mem_append.1 hp with hp | hp
        · refine ((HS2.out.1).get 2 rfl).2 w2 (fun q hq => ?_) p hp
          rw [h2 q (List.mem_append_left _ hq)]
          exact S9.ext.block q (((HS2.out.1).get 2 rfl).1 q hq) (by simp)
        · obtain rfl : p = ((s, a9, X9, c9), subN l k2) := by simpa using hp
          have h3 := (hB.same (w' := w2) (fun q hq => h2 q (List.mem_append_right _ hq))).nodes
          rw [hZ9] at h3
          exact h3⟩
      have hxW : Ext (Value.slice ao3 m c3).ownBlock.toList wr W := HS2.out.2.trans S9.ext.weak
      have hrw : W.ownsRow 0 28 1 (.slice ao4 m c4) m (P.map fun p : Et × List Nd => slC p.1.2) := by
        have := SW.get 1 rfl
        have h : W.ownsRow 0 28 1 (.slice ao4 P.length c4) P.length _ := this
        rw [HX.out.2.2.1] at h
        exact h
      have HR := Lib.hid (⟨SW, hrw, hxW⟩ : _ ∧ _ ∧ _)
      clear SW hrw hX9 hS9 S9 hB hZ9 hxW
      go_wp2_with fail
      refine hK9 _ _ ⟨ExS.mk W HR.out.2.2, rfl⟩ ?_
      clear hK9 K9
      refine anyC_one (f := 0) (i := 19) (by kernel_rfl) (by decide) rfl rfl (fun K9 hK9 => ?_)
      go_wp2_with fail
      refine hK9 _ _ ⟨ExS.mk _ (HR.out.2.2.alloc _), rfl⟩ ?_
      clear hK9 K9
      refine ⟨by kernel_rfl, ?_⟩
      go_wp2_with (first | (at_builtin; refine wpList_append_lies _ rfl _ _ 50 rfl 0 28 j0 _ 1 24 Tryz.underlying50 hjf hy0 hy1 hy2 rfl (by decide) (.slice ao4 m c4) m _ rfl (World.ownsRow.alloc HR.out.2.1 _) ⟨W.heap.size, 0, none⟩ 1 1 [.slice a9 X9 c9] rfl rfl (cell_one_new _ _ _) (by simp [Value.oneCell']) (by decide) (by unfold maxLen; omega) (by omega) (by omega) (W.heap.size + 1) (by simp) ?_; intro g7 cap7 w7 hown7 hgrow7 hat7 hlt7))
      refine NoPanic.normal ?_
      have Pl := push_local (cap := cap7) (n := m + 1) hgrow7 hat7
      have S7 := HR.out.1.upd 1 (oSl 28 1 (.slice (some ⟨g7, 0, none⟩) (m + 1) cap7) (m + 1) ((P.map fun p : Et × List Nd => slC p.1.2) ++ [Value.slice a9 X9 c9])) rfl (by rw [HX.out.2.2.1]; exact Pl.1) (by rw [HX.out.2.2.1]; exact Pl.2) hown7
      have HS7 := Lib.hid S7
      clear S7 Pl hown7 hgrow7 hat7 hlt7
      go_wp2_with fail
      go_roundg g
      case measure => omega
      case rel =>
        have hl1 : (P ++ [(((s, a9, X9, c9) : Et), subN l k2)]).length = m + 1 := by rw [List.length_append, HX.out.2.2.1]; rfl
        refine ⟨j + 2, P ++ [((s, a9, X9, c9), subN l k2)], F ++ zsF (.slice a9 X9 c9) Z9, by omega, by omega, by go_num, by omega, ?_, ?_⟩
        · have := HX.out.2.1
          rw [if_pos (by rfl)] at this
          rw [List.map_append, List.append_assoc]
          exact this
        · have := HS7.out
          rw [hl1, List.map_append, List.map_append, stC, List.map_append]
          exact this
end Go.Proofs.YtkaimeogebgofaaGreatDoor.Tr
