/-
  The document's Items, Refs walked (wip/mktug.py).
-/
import Derived.Test.YtkjcjklnclahdaaGreatDoorTuG
namespace Go.Proofs.YtkjcjklnclahdaaGreatDoor.Tr
open Go.RowKit

theorem ZsP.same {w w' : World} {v : Value} {Z : List Zd} (h : ZsP w v Z) (hs : ∀ k ∈ zsF v Z, w'.heap[k]? = w.heap[k]?) : ZsP w' v Z :=
  ⟨row_same h.row (fun g hg => hs g (by simp [zsF, hg])), fun p hp => row_same (h.kids p hp) (fun g hg => hs g (List.mem_append_right _ (kF_mem hp hg))), h.dup, h.wf⟩
set_option maxRecDepth 100000 in
set_option maxHeartbeats 2000000 in
theorem items17_walk (v : Value) (l : List Nd) (w : World) (h : NodesAt w v l) (hl : Lt l) :
    Calls Tryz.prog 14 #[v] w fun e w' => ∃ v2, e = .returned v2 ∧ Ext [] w w' ∧ TreesAt w' v2 (itemsN l) := by
  obtain ⟨i0, hif, hz0, hz1, hz2⟩ := info_parts infoNodes
  have HC := Lib.hid (check17_walk v l w h hl.len hl.s)
  obtain ⟨c, hc⟩ : ∃ c, checkN l = c := ⟨_, rfl⟩
  rw [hc] at HC
  by_cases c0 : c = 0
  case neg =>
    have hi : isN l 7 = false := by simp [isN, hc, c0]
    have hR : itemsN l = [] := by rw [itemsN, if_neg (by rw [hi]; simp)]
    rw [hR]
    obtain ⟨base, cap, rfl, -, -⟩ := h
    have hcb : (c != 0) = true := bne_iff_ne.2 c0
    clear hR hc hi
    go_enter Tryz.func14, Tryz.ntmps14
    go_wp2_with fail
    refine HC.out.mono ?_
    rintro e w1 ⟨rfl, hx⟩
    have HX := Lib.hid hx
    clear hx HC
    go_wp2_with fail
    go_ret
    exact ⟨_, rfl, HX.out, none, 0, rfl, by simp, fun k hk => by cases hk⟩
  case pos =>
  subst c0
  obtain ⟨h0, hn, E, D, hsh, -⟩ := check_zero hc
  have hrk := root_kids hc
  have hrl := root_len hc
  have HSub := Lib.hid (fun (k : Nat) (hk : k < l.length) W (hx : Ext [] w W) => cut17_walk W W [] v l (Sep.start W) (h.ext hx) k hk hn (by rw [hsh]; simp))
  obtain ⟨base, cap, rfl, -, hN⟩ := h
  obtain ⟨b, o, rfl, hnd⟩ := node_in hN 0 h0
  rw [Nat.zero_mul, Nat.add_zero, show ((0 : Nat) : Int) = 0 from rfl] at hnd
  obtain ⟨r1, -, -, -, -, rb, rc, r5, r6⟩ := hnd
  obtain ⟨n, hln⟩ : ∃ n, l.length = n := ⟨_, rfl⟩
  by_cases k8 : (ndAt l 0).kind = 7
  case neg =>
    have hi : isN l 7 = false := by simp [isN, k8]
    have hR : itemsN l = [] := by rw [itemsN, if_neg (by rw [hi]; simp)]
    rw [hR]
    obtain ⟨x, hx0⟩ : ∃ x, ndAt l 0 = x := ⟨_, rfl⟩
    rw [hx0] at r1 k8
    rw [hln] at HC h0 ⊢
    have hkb : (x.kind != 7) = true := bne_iff_ne.2 k8
    have hr1 := Lib.hid r1
    clear hR hc hi hx0 hrk hrl r5 r6 hN hln hsh k8 r1 HSub
    go_enter Tryz.func14, Tryz.ntmps14
    go_wp2_with fail
    refine HC.out.mono ?_
    rintro e w1 ⟨rfl, hx⟩
    have r1 := hx.cell hr1.out
    have HX := Lib.hid hx
    clear hx HC
    go_wp2_with fail
    go_ret
    exact ⟨_, rfl, HX.out, none, 0, rfl, by simp, fun k hk => by cases hk⟩
  case pos =>
  have hi : isN l 7 = true := by simp [isN, hc, k8]
  obtain ⟨R, hR⟩ : ∃ R, itemsN l = R := ⟨_, rfl⟩
  rw [hR]
  rw [itemsN, hi, if_pos rfl] at hR
  obtain ⟨x, hx0⟩ : ∃ x, ndAt l 0 = x := ⟨_, rfl⟩
  rw [hx0] at r1 k8 hrk hrl hR r5 r6
  obtain ⟨K, hK⟩ : ∃ K, x.kids.length = K := ⟨_, rfl⟩
  rw [hK] at r5 hrl
  rw [k8] at r1
  have HH := Lib.hid (⟨hrk, hR, r5, r6, hK, hln, r1⟩ : _ ∧ _ ∧ _ ∧ _ ∧ _ ∧ _ ∧ _)
  rw [hln] at HC HSub h0 ⊢
  have h0z : (0 : Int) < (n : Int) := by omega
  clear hN hrk hR r1 r5 r6 hK hln hx0 hc h0 hsh hn hi k8
  go_enter Tryz.func14, Tryz.ntmps14
  go_wp2_with fail
  refine HC.out.mono ?_
  rintro e w1 ⟨rfl, hx1⟩
  have r1 := hx1.cell HH.out.2.2.2.2.2.2
  have S := ((Sep.start w).quiet hx1).new (Ext.refl _ _) (oNs [] []) ⟨by simp, fun _ _ p hp => by cases hp⟩ (fun k hk => by cases hk)
  have S := S.new (Ext.refl _ _) (oSl 22 1 (.slice none 0 0) 0 []) (World.ownsRow_nil _ _ _ _) (fun q hq => by simp [oSl, Value.ownBlock] at hq)
  have HS := Lib.hid S
  clear S hx1 HC
  go_wp2_with fail
  clear r1
  go_loopg [3, 4] K (fun g ov iv wr => ∃ (j : Nat) (P : List (Et × List Nd)) (F : List Nat), g + j = K ∧ iv = .int .i64 j ∧ P.length = j ∧ P.map (·.2) ++ (x.kids.drop j).map (fun k => subN l k.toNat) = R ∧ Sep w wr [oSl 22 1 ov P.length (P.map fun p => slC p.1.2), oNs F P])
  case atStart => exact ⟨0, [], [], by omega, rfl, rfl, by simp; exact HH.out.2.1, HS.out⟩
  case round =>
    clear HS
    obtain ⟨j, P, F, hgj, rfl, hm, hR, S⟩ := hrel
    have hr0 : wr.ownsRow 0 22 1 u3 P.length (P.map fun p => slC p.1.2) := S.get 0 rfl
    obtain ⟨ao3, c3, rfl⟩ := row_slice hr0
    have r5 := S.ext.cell HH.out.2.2.1
    by_cases hjK : j < K
    case neg =>
      obtain rfl : gk = 0 := by omega
      have hRA : P.map (·.2) = R := by rw [← hR, List.drop_eq_nil_of_le (by rw [HH.out.2.2.2.2.1]; omega)]; simp
      have hTr := trees_own hr0 ((S.get 1 rfl).2 wr (fun _ _ => rfl))
      rw [hRA] at hTr
      have HX := Lib.hid (⟨S.ext, hTr⟩ : _ ∧ _)
      clear hR S hr0 hRA hTr hm
      go_wp2_with fail
      go_ret
      exact ⟨_, rfl, HX.out.1, HX.out.2⟩
    case pos =>
    obtain ⟨g, rfl⟩ : ∃ g, gk = g + 1 := ⟨gk - 1, by omega⟩
    have hjz : (j : Int) < (K : Int) := by omega
    have hj1 : j < x.kids.length := by rw [HH.out.2.2.2.2.1]; omega
    rw [drop_at _ j hj1, List.map_cons] at hR
    obtain ⟨b5, o5, rfl, c5⟩ := HH.out.2.2.2.1 j hj1
    have hb := HH.out.1 j _ (List.getElem?_eq_getElem hj1)
    have c5 := S.ext.cell c5
    generalize x.kids[j]'hj1 = c at hR c5 hb
    obtain ⟨k2, rfl⟩ : ∃ k : Nat, c = (k : Int) := ⟨c.toNat, by omega⟩
    have hk2 : k2 < n := by have := HH.out.2.2.2.2.2.1; omega
    rw [Int.toNat_natCast] at hR
    have HX := Lib.hid (⟨S, hR, hm, hr0⟩ : _ ∧ _ ∧ _ ∧ _)
    clear S hR hr0 hb
    have HM := Lib.hid hm
    rw [hm] at HX ⊢
    clear hm
    go_wp2_with fail
    refine (HSub.out k2 hk2 wr HX.out.1.ext).mono ?_
    rintro e W ⟨v9, Z9, rfl, hZ9, S9⟩
    have hB : ZsP W v9 Z9 := S9.get 0 rfl
    obtain ⟨a9, c9, rfl⟩ := row_slice hB.row
    obtain ⟨X9, hX9⟩ : ∃ X9, Z9.length = X9 := ⟨_, rfl⟩
    rw [hX9] at hB ⊢
    have hS9 : Sep wr W [oZs (.slice a9 X9 c9) Z9] := by rw [← hX9]; exact S9
    have SW := (HX.out.1).upd 1 (oNs (F ++ zsF (.slice a9 X9 c9) Z9) (P ++ [((⟨#[]⟩, a9, X9, c9), subN l k2)])) rfl (S9.ext.weak) (fun q hq => by
      have hq : q ∈ F ++ zsF (.slice a9 X9 c9) Z9 := hq
      rcases List.mem_append.1 hq with hq | hq
      · exact .inl hq
      · exact .inr (hS9.base _ (List.mem_cons_self ..) q hq)) ⟨fun q hq => by
      rcases List.mem_append.1 hq with hq | hq
      · exact Nat.lt_of_lt_of_le (((HX.out.1).get 1 rfl).1 q hq) S9.ext.size
      · exact (oZs (.slice a9 X9 c9) Z9).lt hB q hq, fun w2 h2 p hp => by
      rcases List.mem_append.1 hp with hp | hp
      · refine ((HX.out.1).get 1 rfl).2 w2 (fun q hq => ?_) p hp
        rw [h2 q (List.mem_append_left _ hq)]
        exact S9.ext.block q (((HX.out.1).get 1 rfl).1 q hq) (by simp)
      · obtain rfl : p = ((⟨#[]⟩, a9, X9, c9), subN l k2) := by simpa using hp
        have h3 := (hB.same (w' := w2) (fun q hq => h2 q (List.mem_append_right _ hq))).nodes
        rw [hZ9] at h3
        exact h3⟩
    have hrw := ownsRow_ext HX.out.2.2.2 S9.ext (by simp)
    have HR := Lib.hid (⟨SW, hrw⟩ : _ ∧ _)
    clear SW hrw hX9 hS9 S9 hB hZ9 c5
    go_wp2_with (first | (at_builtin; refine wpList_append_lies _ rfl _ _ 35 rfl 0 22 i0 _ 1 24 Tryz.underlying35 hif hz0 hz1 hz2 rfl (by decide) (.slice ao3 j c3) j _ rfl (World.ownsRow.alloc HR.out.2 _) ⟨W.heap.size, 0, none⟩ 1 1 [.slice a9 X9 c9] rfl rfl (cell_one_new _ _ _) (by simp [Value.oneCell']) (by decide) (by unfold maxLen; omega) (by omega) (by omega) (W.heap.size + 1) (by simp) ?_; intro g6 cap2 w6 hown1 hgrow hat6 hlt6))
    have Pl := push_local (cap := cap2) (n := j + 1) hgrow hat6
    have hl1 : (P ++ [(((⟨#[]⟩, a9, X9, c9) : Et), subN l k2)]).length = j + 1 := by rw [List.length_append, HM.out]; rfl
    have S2 := HR.out.1.upd 0 (oSl 22 1 (.slice (some ⟨g6, 0, none⟩) (j + 1) cap2) (P ++ [(((⟨#[]⟩, a9, X9, c9) : Et), subN l k2)]).length ((P ++ [(((⟨#[]⟩, a9, X9, c9) : Et), subN l k2)]).map fun p => slC p.1.2)) rfl Pl.1 Pl.2 (by
      show World.ownsRow _ 0 22 1 _ _ _
      rw [hl1, List.map_append]
      exact hown1)
    go_roundg g
    case measure => omega
    case rel =>
      refine ⟨j + 1, _, _, by omega, by go_num, hl1, ?_, S2⟩
      rw [List.map_append, List.append_assoc]
      exact HX.out.2.1
set_option maxRecDepth 100000 in
set_option maxHeartbeats 2000000 in
theorem refs17_walk (v : Value) (l : List Nd) (w : World) (h : NodesAt w v l) (hl : Lt l) :
    Calls Tryz.prog 31 #[v] w fun e w' => ∃ v2, e = .returned v2 ∧ Ext [] w w' ∧ RefsAt w' v2 (refsN l) := by
  obtain ⟨i0, hif, hz0, hz1, hz2⟩ := info_parts infoRef17
  have HC := Lib.hid (check17_walk v l w h hl.len hl.s)
  obtain ⟨c, hc⟩ : ∃ c, checkN l = c := ⟨_, rfl⟩
  rw [hc] at HC
  by_cases c0 : c = 0
  case neg =>
    have hR : refsN l = [] := by rw [refsN, hc, if_neg c0]
    rw [hR]
    obtain ⟨base, cap, rfl, -, -⟩ := h
    have hcb : (c != 0) = true := bne_iff_ne.2 c0
    clear hR hc 
    go_enter Tryz.func31, Tryz.ntmps31
    go_wp2_with fail
    refine HC.out.mono ?_
    rintro e w1 ⟨rfl, hx⟩
    have HX := Lib.hid hx
    clear hx HC
    go_wp2_with fail
    go_ret
    exact ⟨_, rfl, HX.out, none, 0, rfl, by simp, fun k hk => by cases hk⟩
  case pos =>
  subst c0
  obtain ⟨h0, hn, -⟩ := check_zero hc
  obtain ⟨R, hR⟩ : ∃ R, refsN l = R := ⟨_, rfl⟩
  rw [hR]
  rw [refsN, if_pos hc] at hR
  obtain ⟨base, cap, rfl, -, hN⟩ := h
  obtain ⟨n, hln⟩ : ∃ n, l.length = n := ⟨_, rfl⟩
  have HH := Lib.hid (⟨hN, hR, hln⟩ : _ ∧ _ ∧ _)
  rw [hln] at HC hn ⊢
  clear hN hR hln hc h0
  go_enter Tryz.func31, Tryz.ntmps31
  go_wp2_with fail
  refine HC.out.mono ?_
  rintro e w1 ⟨rfl, hx⟩
  have S := ((Sep.start w).quiet hx).new (Ext.refl _ _) (oSl 48 2 (.slice none 0 0) 0 []) (World.ownsRow_nil _ _ _ _) (fun q hq => by simp [oSl, Value.ownBlock] at hq)
  have HS := Lib.hid S
  clear hx HC S
  go_wp2_with fail
  go_loopg [3, 4] n (fun g ov iv wr => ∃ (i : Nat) (A : List (Int × Int)), g + i = n ∧ iv = .int .i64 i ∧ A.length ≤ i ∧ A ++ ((l.drop i).filter fun x => decide (x.kind = 9)).map (fun x => (x.n, x.gen)) = R ∧ Sep w wr [oSl 48 2 ov A.length (rfC A)])
  case atStart => exact ⟨0, [], by omega, rfl, by simp, HH.out.2.1, HS.out⟩
  case round =>
    clear HS
    obtain ⟨i, A, hgi, rfl, hA, hR, S⟩ := hrel
    have hr0 : wr.ownsRow 0 48 2 u3 A.length (rfC A) := S.get 0 rfl
    obtain ⟨ao3, c3, rfl⟩ := row_slice hr0
    obtain ⟨m, hm⟩ : ∃ m, A.length = m := ⟨_, rfl⟩
    by_cases hlt : i < n
    · obtain ⟨g, rfl⟩ : ∃ g, gk = g + 1 := ⟨gk - 1, by omega⟩
      have hltz : (i : Int) < (n : Int) := by omega
      have hil : i < l.length := by rw [HH.out.2.2]; exact hlt
      rw [drop_at l i hil, List.filter_cons] at hR
      obtain ⟨b, o, rfl, -, n2w, n3w, -⟩ := HH.out.1 i hil
      obtain ⟨bq, oq, eq, n1, n2, n3, n4, nw, bk, ck, n5, -⟩ := HH.out.1.ext S.ext i hil
      cases eq
      generalize l[i]'hil = x at *
      rw [hm] at hr0 hA ⊢
      have HX := Lib.hid (⟨S, hR, hr0, hm⟩ : _ ∧ _ ∧ _ ∧ _)
      clear S hR hr0 hm nw
      by_cases k9 : x.kind = 9
      · have hR := HX.out.2.1
        rw [if_pos (by simpa using k9), List.map_cons] at hR
        have HR := Lib.hid hR
        have k9b : (x.kind == 9) = true := by rw [k9]; rfl
        clear hR k9
        have q1 : ∀ y : ExS (Value.slice ao3 m c3).ownBlock.toList wr, y.w.cell? ⟨b, o + i * 5 + 1, none⟩ = some (.int .i64 x.n) := fun y => cell_exs HX.out.1 n2w 0 rfl (by rw [HX.out.2.2.2]; exact fun _ h => h) y
        have q2 : ∀ y : ExS (Value.slice ao3 m c3).ownBlock.toList wr, y.w.cell? ⟨b, o + i * 5 + 2, none⟩ = some (.int .i64 x.gen) := fun y => cell_exs HX.out.1 n3w 0 rfl (by rw [HX.out.2.2.2]; exact fun _ h => h) y
        clear n2w n3w
        go_upto_region 8 with (fail)
        clear n1 n2 n3 n4 n5
        refine wp_region_mid (C := fun w' => ∃ y : ExS (Value.slice ao3 m c3).ownBlock.toList wr, w' = y.w) 12 2 (by kernel_rfl) (by kernel_rfl) ⟨ExS.mk _ ((Ext.refl _ wr).drew), rfl⟩ ?_
        simp only [List.take_succ_cons, List.take_zero, List.drop_succ_cons, List.drop_zero]
        repeat (go_big_quiet_step (fail))
        refine wpQuiet_nil ?_
        clear q1 q2
        refine midW_step rfl (fun K9 hK9 => ?_)
        go_wp2_with fail
        refine ⟨⟨ExS.mk _ ((Ext.refl _ wr).drew.alloc _), rfl⟩, ?_⟩
        refine midW_step rfl (fun K9 hK9 => ?_)
        refine wp_append_lies _ _ _ 49 rfl 0 48 i0 _ 2 16 Tryz.underlying49 hif hz0 hz1 hz2 rfl (by decide) (.slice ao3 m c3) m _ rfl ((HX.out.2.2.1.alloc _).drew) ⟨wr.heap.size, 0, none⟩ 1 1 [.int .i64 x.n, .int .i64 x.gen] rfl rfl (cells_two9 wr (.int .i64 x.n) (.int .i64 x.gen) 48) (by simp [Value.oneCell']) (by decide) (by unfold maxLen; omega) (by omega) (by omega) (wr.heap.size + 1) (by simp) ?_
        intro g6 cap2 w6 hown1 hgrow hat6 hlt6
        have hgrow := grown_drew hgrow
        refine hK9 _ _ ⟨⟨ExS.mk w6 (((Ext.refl _ wr).alloc _).grown hgrow (fun k hk => .inl (by simp [hk]))), rfl⟩, ?_⟩
        clear hK9 K9
        refine midW_nil ?_
        have Pl := push_local (cap := cap2) (n := m + 1) hgrow hat6
        have HPl := Lib.hid (⟨Pl, hown1⟩ : _ ∧ _)
        clear Pl hgrow hat6 hlt6 hown1
        go_wp2_with fail
        refine NoPanic.normal ?_
        go_wp2_with fail
        obtain ⟨Pl, hown1⟩ := HPl.out
        have S2 := HX.out.1
        go_roundg g
        case measure => omega
        case rel =>
          have hl1 : (A ++ [(x.n, x.gen)]).length = m + 1 := by rw [List.length_append, HX.out.2.2.2]; rfl
          refine ⟨i + 1, A ++ [(x.n, x.gen)], by omega, by go_num, by omega, by rw [List.append_assoc]; exact HR.out, S2.upd 0 (oSl 48 2 (.slice (some ⟨g6, 0, none⟩) (m + 1) cap2) (A ++ [(x.n, x.gen)]).length (rfC (A ++ [(x.n, x.gen)]))) rfl (by rw [HX.out.2.2.2]; exact Pl.1) (by rw [HX.out.2.2.2]; exact Pl.2) ?_⟩
          show World.ownsRow _ 0 48 2 _ _ _
          rw [hl1, rfC_append]
          exact hown1
      · have hR := HX.out.2.1
        rw [if_neg (by simpa using k9)] at hR
        have HR := Lib.hid hR
        have k9b : (x.kind == 9) = false := beq_eq_false_iff_ne.2 k9
        clear hR k9
        go_wp2_with fail
        go_roundg g
        case measure => omega
        case rel => exact ⟨i + 1, A, by omega, by go_num, by rw [HX.out.2.2.2]; omega, HR.out, by have := HX.out.1; rw [HX.out.2.2.2] at this ⊢; exact this⟩
    · obtain rfl : gk = 0 := by omega
      have hRA : A = R := by rw [← hR, List.drop_eq_nil_of_le (by rw [HH.out.2.2]; omega)]; simp
      subst hRA
      have HX := Lib.hid (⟨S.ext, refs_own hr0⟩ : _ ∧ _)
      clear hR S hr0 hA hm
      go_wp2_with fail
      go_ret
      exact ⟨_, rfl, HX.out.1, HX.out.2⟩
end Go.Proofs.YtkjcjklnclahdaaGreatDoor.Tr
