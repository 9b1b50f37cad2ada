/-
  The document's moved walked.
-/
import Derived.Test.YtgpgamohcafklaaGreatDoorTtX
namespace Go.Proofs.YtgpgamohcafklaaGreatDoor.Tr
open Go.RowKit

abbrev nbox (x : Nd) (kv : Value) : Obj := .cells #[.int .i64 x.kind, .int .i64 x.n, .int .i64 x.gen, .string x.s, kv] 47
/-- a node in a block of its own, whose kids grow -/
def oBx (q : Nat) (x : Nd) (kv : Value) (n : Nat) (L : List Int) : Ob where
  F := q :: kv.ownBlock.toList
  P := fun w => w.heap[q]? = some (nbox x kv) ∧ w.ownsRow 0 3 1 kv n (L.map iz) ∧ kv.ownBlock ≠ some q
  ok := fun h hx hS => ⟨hx.keep h.1 (hS q (by simp)), ownsRow_ext h.2.1 hx (fun g hg => hS g (by simp [hg])), h.2.2⟩
  lt := fun h k hk => by
    rcases List.mem_cons.1 hk with rfl | hk
    · exact lt_of_block h.1
    · exact (h.2.1.lt k (by simpa using hk)).2
/-- a row of nodes, and beside it a row of ints that is to be its next node's kids -/
def oZk (v : Value) (Z : List Zd) (kv : Value) (n : Nat) (L : List Int) : Ob where
  F := zsF v Z ++ kv.ownBlock.toList
  P := fun w => ZsP w v Z ∧ w.ownsRow 0 3 1 kv n (L.map iz) ∧ ∀ k ∈ kv.ownBlock.toList, k ∉ zsF v Z
  ok := fun h hx hS => ⟨h.1.ext hx (fun k hk => hS k (List.mem_append_left _ hk)), ownsRow_ext h.2.1 hx (fun g hg => hS g (by simp [hg])), h.2.2⟩
  lt := fun h k hk => by
    rcases List.mem_append.1 hk with hk | hk
    · exact h.1.lt k hk
    · exact (h.2.1.lt k (by simpa using hk)).2
theorem cell_exs {w0 w : World} {L : List Ob} {o : Ob} {a : Addr} {u : Value} (S : Sep w0 w L) (hc0 : w0.cell? a = some u) (j : Nat) (hj : L[j]? = some o) {F : List Nat} (hF : ∀ k ∈ F, k ∈ o.F) (y : ExS F w) : y.w.cell? a = some u :=
  y.cell (S.ext.cell hc0) (fun h => by
    have h1 := S.base o (List.mem_of_getElem? hj) _ (hF _ h)
    have h2 := World.block_lt_of_cell? w0 a hc0
    omega)
set_option maxRecDepth 100000 in
set_option maxHeartbeats 4000000 in
theorem moved_walk (w0 w : World) (L : List Ob) (v : Value) (l : List Nd) (B : Int) (S : Sep w0 w L) (h : NodesAt w0 v l) (hl : l.length ≤ 131072) (hk : ∀ x ∈ l, x.kids.length ≤ 131072 ∧ ∀ k ∈ x.kids, -9223372036854775808 ≤ k + B ∧ k + B ≤ 9223372036854775807) :
    Calls Tryz.prog 40 #[v, .int .i64 B] w fun e w' => ∃ v2 Z, e = .returned v2 ∧ Z.map (·.1) = l.map (moveN B) ∧ Sep w0 w' (oZs v2 Z :: L) := by
  obtain ⟨i0, hif, hz0, hz1, hz2⟩ := info_parts infoInt
  obtain ⟨j0, hjf, hy0, hy1, hy2⟩ := info_parts infoNode
  obtain ⟨base, cap, rfl, -, hN⟩ := h
  obtain ⟨n, hn⟩ : ∃ n, l.length = n := ⟨_, rfl⟩
  have HS := Lib.hid (⟨hN, hk, hn, S.new (Ext.refl _ _) (oZs (.slice none 0 0) []) (zs_nil w) (fun k hk => by simp [oZs, zsF, kF, Value.ownBlock] at hk)⟩ : _ ∧ _ ∧ _ ∧ _)
  rw [hn] at hl ⊢
  clear hN hk hn S
  go_enter Tryz.func40, Tryz.ntmps40
  go_wp2_with fail
  go_loopg [5, 6] n (fun g ov iv wr => ∃ (i : Nat) (Z2 : List Zd), g + i = n ∧ iv = .int .i64 i ∧ Z2.length = i ∧ Z2.map (·.1) = (l.take i).map (moveN B) ∧ Sep w0 wr (oZs ov Z2 :: L))
  case atStart => exact ⟨0, [], by omega, rfl, rfl, rfl, HS.out.2.2.2⟩
  case round =>
    obtain ⟨i, Z2, hgi, rfl, hZ2, hM, S⟩ := hrel
    have HW := Lib.hid (⟨hZ2, hM, S⟩ : _ ∧ _ ∧ _)
    clear hZ2 hM S
    by_cases hlt : i < n
    · obtain ⟨g, rfl⟩ : ∃ g, gk = g + 1 := ⟨gk - 1, by omega⟩
      have hltz : (i : Int) < (n : Int) := by omega
      have hil : i < l.length := by rw [HS.out.2.2.1]; exact hlt
      obtain ⟨bb, o, rfl, m1, m2, m3, m4, nw, bk, ck, m5, n6⟩ := HS.out.1 i hil
      obtain ⟨hk1, hk2⟩ := HS.out.2.1 _ (List.getElem_mem hil)
      have htk : l.take (i + 1) = l.take i ++ [l[i]'hil] := by rw [List.take_succ_eq_append_getElem hil]
      generalize l[i]'hil = x at *
      have hx := HW.out.2.2.ext
      have n1 := hx.cell m1
      have n2 := hx.cell m2
      have n3 := hx.cell m3
      have n4 := hx.cell m4
      have n5 := hx.cell m5
      obtain ⟨K, hK⟩ : ∃ K, x.kids.length = K := ⟨_, rfl⟩
      rw [hK] at n5 m5 hk1
      have HX := Lib.hid (⟨nw, n6, hk2, htk, hK, m5⟩ : _ ∧ _ ∧ _ ∧ _ ∧ _ ∧ _)
      clear nw n6 hk2 htk hx m1 m2 m3 m4 m5 hK
      go_upto_region 6 with (fail)
      obtain ⟨W, hW⟩ : ∃ W, wr.alloc (nbox x (.slice bk K ck)) = W := ⟨_, rfl⟩
      have hx4 : Ext [] wr W := by rw [← hW]; exact (Ext.refl [] wr).alloc _
      have hb4 : W.heap[wr.heap.size]? = some (nbox x (.slice bk K ck)) := by rw [← hW]; exact heap_alloc_at _
      obtain ⟨q, hq⟩ : ∃ q, wr.heap.size = q := ⟨_, rfl⟩
      rw [hq] at hb4
      rw [hq, hW]
      have S := HW.out.2.2.new hx4 (Ob.one q (nbox x (.slice bk K ck))) hb4 (fun k hk => by simp [Ob.one] at hk; omega)
      have q4 : W.cell? ⟨q, 4, none⟩ = some (.slice bk K ck) := cellOf hb4 4
      have q4f := freeOf hb4 4
      have S5 : Sep w0 (W.setCell ⟨q, 4, none⟩ (.slice none 0 0)) (oBx q x (.slice none 0 0) 0 [] :: oZs u5 Z2 :: L) :=
        S.upd 0 (oBx q x (.slice none 0 0) 0 []) rfl ((Ext.refl _ _).setCell _ _ (.inl (by simp [Ob.one]))) (fun k hk => .inl (by simpa [oBx, Ob.one, Value.ownBlock] using hk)) ⟨heap_setCell_same hb4 (i := 4) _, World.ownsRow_nil _ _ _ _, by simp [Value.ownBlock]⟩
      have HS5 := Lib.hid S5
      clear S S5 hx4 hb4 hq hW n1 n2 n3 n4 n5
      go_wp2_with fail
      clear q4 q4f
      go_loopg [8] K (fun g2 iv wx => ∃ (m : Nat) (kv : Value), g2 + m = K ∧ iv = .int .i64 m ∧ Sep w0 wx (oBx q x kv m ((x.kids.take m).map (· + B)) :: oZs u5 Z2 :: L))
      case atStart => exact ⟨0, _, by omega, rfl, HS5.out⟩
      case round =>
        clear HS5
        obtain ⟨m, kv, hgm, rfl, S⟩ := hrel
        have n5 := S.ext.cell HX.out.2.2.2.2.2
        obtain ⟨hb, hown, hne⟩ : wr.heap[q]? = some (nbox x kv) ∧ wr.ownsRow 0 3 1 kv m _ ∧ kv.ownBlock ≠ some q := S.get 0 rfl
        obtain ⟨ao9, c9, rfl⟩ := row_slice hown
        by_cases hmK : m < K
        · obtain ⟨g2, rfl⟩ : ∃ g2, gk = g2 + 1 := ⟨gk - 1, by omega⟩
          have hmz : (m : Int) < (K : Int) := by omega
          have hml : m < x.kids.length := by rw [HX.out.2.2.2.2.1]; exact hmK
          obtain ⟨b7, o7, rfl, hc7⟩ := HX.out.2.1 m hml
          obtain ⟨h7a, h7b⟩ := HX.out.2.2.1 _ (List.getElem_mem hml)
          have ht7 : x.kids.take (m + 1) = x.kids.take m ++ [x.kids[m]'hml] := by rw [List.take_succ_eq_append_getElem hml]
          generalize x.kids[m]'hml = c at *
          have e1 : ∀ y : ExS (Value.slice ao9 m c9).ownBlock.toList wr, y.w.cell? ⟨q, 4, none⟩ = some (.slice ao9 m c9) := fun y => cellOf (y.heap hb (by simpa using hne)) 4
          have e2 : ∀ y : ExS (Value.slice ao9 m c9).ownBlock.toList wr, y.w.cell? ⟨bb, o + i * 5 + 4, none⟩ = some (.slice (some ⟨b7, o7, none⟩) K ck) := fun y => cell_exs S HX.out.2.2.2.2.2 0 rfl (fun k hk => List.mem_cons_of_mem _ hk) y
          have e3 : ∀ y : ExS (Value.slice ao9 m c9).ownBlock.toList wr, y.w.cell? ⟨b7, o7 + m, none⟩ = some (.int .i64 c) := fun y => cell_exs S hc7 0 rfl (fun k hk => List.mem_cons_of_mem _ hk) y
          have HT := Lib.hid (⟨ht7, S, hb, hown, hne⟩ : _ ∧ _ ∧ _ ∧ _ ∧ _)
          clear ht7 S hown hb hne hc7
          go_upto_region 10 with (fail)
          refine wp_region_mid (C := fun w' => ∃ y : ExS (Value.slice ao9 m c9).ownBlock.toList wr, w' = y.w) 12 2 (by kernel_rfl) (by kernel_rfl) ⟨ExS.mk _ ((Ext.refl _ wr).drew), rfl⟩ ?_
          simp only [List.take_succ_cons, List.take_zero, List.drop_succ_cons, List.drop_zero]
          repeat (go_big_quiet_step (fail))
          refine wpQuiet_nil ?_
          refine midW_step rfl (fun K9 hK9 => ?_)
          go_wp2_with fail
          refine ⟨⟨ExS.mk _ ((Ext.refl _ wr).drew.alloc _), rfl⟩, ?_⟩
          refine midW_step rfl (fun K9 hK9 => ?_)
          refine wp_append_lies _ _ _ 45 rfl 0 3 i0 _ 1 8 Tryz.underlying45 hif hz0 hz1 hz2 rfl (by decide) (.slice ao9 m c9) m _ rfl ((HT.out.2.2.2.1.alloc _).drew) ⟨wr.heap.size, 0, none⟩ 1 1 [.int .i64 (c + B)] rfl rfl (cell_one_new _ _ _) (by simp [Value.oneCell']) (by decide) (by unfold maxLen; omega) (by omega) (by omega) (wr.heap.size + 1) (by simp) ?_
          intro g6 cap2 w6 hown1 hgrow hat hlt6
          have hgrow := grown_drew hgrow
          have hb7 : w6.heap[q]? = some (nbox x (.slice ao9 m c9)) := grown_keep hgrow (heap_alloc_old _ HT.out.2.2.1) HT.out.2.2.2.2
          have P := push_field HT.out.2.2.1 HT.out.2.2.2.2 hown1 hgrow hat 4
          refine hK9 _ _ ⟨⟨ExS.mk w6 (((Ext.refl _ wr).alloc _).grown hgrow (fun k hk => .inl (by simp [hk]))), rfl⟩, ?_⟩
          have HP := Lib.hid P
          clear hK9 K9 e1 e2 e3 P hgrow hat hlt6 hown1
          refine midW_nil ?_
          have d0 := cellOf hb7 4
          have d1 := freeOf hb7 4
          clear hb7
          go_wp2_with fail
          refine NoPanic.normal ?_
          go_wp2_with fail
          go_roundg g2
          case measure => omega
          case rel =>
            obtain ⟨p1, p2, p3, p4, p5⟩ := HP.out
            refine ⟨m + 1, .slice (some ⟨g6, 0, none⟩) (m + 1) cap2, by omega, by go_num, HT.out.2.1.upd 0 (oBx q x (.slice (some ⟨g6, 0, none⟩) (m + 1) cap2) (m + 1) ((x.kids.take (m + 1)).map (· + B))) rfl p3 (fun k hk => p5 k (by simpa [oBx, Value.ownBlock] using hk)) ⟨p1, ?_, fun e => p4 (by simpa [Value.ownBlock] using e)⟩⟩
            rw [HT.out.1, List.map_append, List.map_append]
            exact p2
        · obtain rfl : m = K := by omega
          have hfull : x.kids.take m = x.kids := by rw [← HX.out.2.2.2.2.1, List.take_length]
          rw [hfull] at S hown
          have hz : ZsP wr u5 Z2 := S.get 1 rfl
          have hrow := hz.row
          obtain ⟨ao5, c5, rfl⟩ := row_slice hrow
          rw [HW.out.1] at hrow
          have q0 := cellOf hb 0
          have q1 := cellOf hb 1
          have q2 := cellOf hb 2
          have q3 := cellOf hb 3
          have q4 := cellOf hb 4
          have HZ := Lib.hid (⟨S, hz, hrow, hown⟩ : _ ∧ _ ∧ _ ∧ _)
          rw [HW.out.1]
          clear S hz hrow hown hfull hne hb
          go_upto_region 11 with (fail)
          go_wp2_with (at_builtin; refine wpList_append_lies _ rfl _ _ 30 rfl 0 47 j0 _ 5 64 Tryz.underlying30 hjf hy0 hy1 hy2 rfl (by decide) (.slice ao5 i c5) i _ rfl (World.ownsRow.alloc HZ.out.2.2.1 _) ⟨wr.heap.size, 0, none⟩ 1 1 (rowN [(x, .slice ao9 m c9)]) rfl rfl (cells_nd _ x (.slice ao9 m c9) _) (by simp [rowN, cellsN, Value.oneCell']) (by decide) (by unfold maxLen; omega) (by omega) (by omega) (wr.heap.size + 1) (by simp) ?_; intro g6 cap2 w6 hown1 hgrow hat hlt6)
          have P := push_local (cap := cap2) (n := i + 1) hgrow hat
          have hg6 : (Value.slice ao5 i c5).ownBlock = some g6 ∨ wr.heap.size ≤ g6 := by
            rcases hat with h | h
            · exact .inl h
            · exact .inr (by omega)
          have HP := Lib.hid (⟨P, hown1, hg6⟩ : _ ∧ _ ∧ _)
          clear P hown1 hgrow hat hlt6 hg6 q0 q1 q2 q3 q4
          go_roundg g
          case measure => omega
          case rel =>
            obtain ⟨S, hz, hrow, hown⟩ := HZ.out
            rw [HW.out.1] at S hz
            obtain ⟨P, hown1, hg6⟩ := HP.out
            have hkd : ∀ k ∈ (Value.slice ao9 m c9).ownBlock.toList, k ∉ zsF (.slice ao5 i c5) Z2 := fun k hk hk2 => S.apart 0 1 _ _ rfl rfl (by omega) k (List.mem_cons_of_mem _ hk) hk2
            have hkm : (moveN B x).kids.length = m := by show (x.kids.map (· + B)).length = m; rw [List.length_map, HX.out.2.2.2.2.1]
            have S7 : Sep w0 wr (oZk (.slice ao5 i c5) Z2 (.slice ao9 m c9) m (x.kids.map (· + B)) :: L) :=
              Sep.glue S (j := 0) (b := oZs (.slice ao5 i c5) Z2) rfl (oZk (.slice ao5 i c5) Z2 (.slice ao9 m c9) m (x.kids.map (· + B))) (fun k hk => by
                rcases List.mem_append.1 hk with hk | hk
                · exact .inr hk
                · exact .inl (List.mem_cons_of_mem _ hk)) ⟨hz, hown, hkd⟩
            have hkf : kF [(moveN B x, Value.slice ao9 m c9)] = (Value.slice ao9 m c9).ownBlock.toList := by simp [kF]
            have hmore := ZsP.more (Z2 := [(moveN B x, Value.slice ao9 m c9)]) (m := i + 1) hz (fun p hp => by
              obtain rfl : p = (moveN B x, Value.slice ao9 m c9) := by simpa using hp
              show wr.ownsRow 0 3 1 _ (moveN B x).kids.length _
              rw [hkm]
              exact hown) (by rw [hkf]; cases (Value.slice ao9 m c9).ownBlock <;> simp) (fun k hk => hkd k (by rw [hkf] at hk; exact hk)) (fun p hp => by
              obtain rfl : p = (moveN B x, Value.slice ao9 m c9) := by simpa using hp
              have hnw := HX.out.1
              exact ⟨hnw.n, hnw.s, by show (moveN B x).kids.length ≤ _; rw [hkm]; omega, fun k hk => by
                obtain ⟨c, hc, rfl⟩ := List.mem_map.1 hk
                exact HX.out.2.2.1 c hc⟩) P.1 (by rw [HW.out.1]; rfl) (by rw [rowN_one]; rw [rowN_one] at hown1; exact hown1) hg6
            have S8 := S7.upd 0 (oZs (.slice (some ⟨g6, 0, none⟩) (i + 1) cap2) (Z2 ++ [(moveN B x, Value.slice ao9 m c9)])) rfl (P.1.mono (fun k _ hk => List.mem_append_left _ (List.mem_append_left _ hk))) (fun k hk => by
              show k ∈ zsF (.slice ao5 i c5) Z2 ++ _ ∨ _
              rcases List.mem_append.1 hk with hk | hk
              · rcases P.2 k hk with h | h
                · exact .inl (List.mem_append_left _ (List.mem_append_left _ h))
                · exact .inr h
              · rw [kF_append, hkf] at hk
                rcases List.mem_append.1 hk with hk | hk
                · exact .inl (List.mem_append_left _ (List.mem_append_right _ hk))
                · exact .inl (List.mem_append_right _ hk)) hmore
            exact ⟨i + 1, Z2 ++ [(moveN B x, Value.slice ao9 m c9)], by omega, by go_num, by rw [List.length_append, HW.out.1]; rfl, by rw [List.map_append, HW.out.2.1, HX.out.2.2.2.1, List.map_append]; rfl, S8⟩
    · obtain rfl : i = n := by omega
      go_wp2_with fail
      go_ret
      refine ⟨_, Z2, rfl, ?_, HW.out.2.2⟩
      rw [HW.out.2.1, ← HS.out.2.2.1, List.take_length]
end Go.Proofs.YtgpgamohcafklaaGreatDoor.Tr
