/-
  tree: (*builder).add walked.
-/
import Derived.Test.YtkjcjklnclahdaaDoorTrI
namespace Go.Proofs.YtkjcjklnclahdaaDoor.Tr
open Go.RowKit

theorem moveN_wf {x : Nd} {B : Int} (h : NdWf x) (hk : ∀ k ∈ x.kids, 0 ≤ k ∧ k ≤ 131072) (h1 : -131072 ≤ B) (h2 : B ≤ 131072) : NdWf (moveN B x) :=
  ⟨h.n, h.s, by show (x.kids.map (· + B)).length ≤ _; rw [List.length_map]; exact h.len, fun k hk2 => by
    obtain ⟨c, hc, rfl⟩ := List.mem_map.1 hk2
    have := hk c hc
    omega⟩
theorem set_self {α : Type} {L : List α} {j : Nat} {o : α} (h : L[j]? = some o) : L.set j o = L := by
  obtain ⟨hj, rfl⟩ := List.getElem?_eq_some_iff.1 h
  exact List.set_getElem_self hj
theorem made0 (n : Nat) (hn : n ≤ 1048576) {w0 w : World} {L : List Ob} (S : Sep w0 w L) :
    ∃ q W, (Instr.makeSlice 35 (.int .i64 0) (.int .i64 (n : Nat))).run Tryd.prog w = .ok (.slice (some ⟨q, 0, none⟩) 0 n) W ∧ Ext [] w W ∧ Sep w0 W (oSl 3 1 (.slice (some ⟨q, 0, none⟩) 0 n) 0 [] :: L) := by
  obtain ⟨i0, hif, hz0, hz1, hz2⟩ := info_parts infoInt
  obtain ⟨wm, hmk, hown, hgrow⟩ := run_make_own (P := Tryd.prog) w 0 35 3 i0 (.int .i64 0) 1 Tryd.underlying35 hif hz0 hz1 .i64 .i64 n (by rw [hz2]; omega) (by unfold maxLen; omega) (by omega)
  have hx4 : Ext [] w wm := (Ext.refl [] w).grown hgrow (fun k hk => by cases hk)
  exact ⟨w.heap.size, wm, hmk, hx4, S.new hx4 _ hown (fun q hq => by simp [oSl, Value.ownBlock] at hq; omega)⟩
set_option maxRecDepth 100000 in
set_option maxHeartbeats 8000000 in
theorem add_walk (w0 w : World) (L : List Ob) (j : Nat) (b : Nat) (v : Value) (Z : List Zd) (u : Value) (l : List Nd) (f : Nat) (S : Sep w0 w L) (hj : L[j]? = some (oBd b v Z)) (hN : NodesAt w0 u l) (hl : Z.length + l.length ≤ 131072) (hf : f ≤ 131072)
    (hk : ∀ x ∈ l, x.kids.length ≤ 131072 ∧ ∀ k ∈ x.kids, 0 ≤ k ∧ k ≤ 131072) :
    Calls Tryd.prog 55 #[.pointer (some ⟨b, 0, none⟩), u, .int .i64 f] w fun e w' => e = .returned (.tuple #[]) ∧ ∃ v2 Z2, Z2.map (·.1) = l.map (moveN ((Z.length : Int) - f)) ∧ Sep w0 w' (L.set j (oBd b v2 (Z ++ Z2))) := by
  obtain ⟨i0, hif, hz0, hz1, hz2⟩ := info_parts infoInt
  obtain ⟨j0, hjf, hy0, hy1, hy2⟩ := info_parts infoNode
  obtain ⟨base, cap, rfl, -, hN⟩ := hN
  obtain ⟨n, hn⟩ : ∃ n, l.length = n := ⟨_, rfl⟩
  obtain ⟨N, hZN⟩ : ∃ N, Z.length = N := ⟨_, rfl⟩
  obtain ⟨B, hB⟩ : ∃ B : Int, (N : Int) - f = B := ⟨_, rfl⟩
  have hP : BdP w b v Z := S.get j hj
  obtain ⟨ao, cv, rfl⟩ := row_slice hP.row
  have c0 : w.cell? ⟨b, 0, none⟩ = some (.slice ao Z.length cv) := cellOf hP.here 0
  have HS := Lib.hid (⟨S, hj, hN, hk, hn, hZN⟩ : _ ∧ _ ∧ _ ∧ _ ∧ _ ∧ _)
  have hjl : j < L.length := (List.getElem?_eq_some_iff.1 hj).1
  have hB1 : -131072 ≤ B := by omega
  have hB2 : B ≤ 131072 := by omega
  have hB3 : (N : Int) - f = B := hB
  rw [hn, hZN] at hl
  rw [hZN] at c0 ⊢
  rw [hn, hB]
  clear S hj hN hk hn hP hZN hB
  go_enter Tryd.func55, Tryd.ntmps55
  go_wp2_with fail
  clear c0
  go_loopg [21] n (fun g iv wr => ∃ (i : Nat) (vv : Value) (Z2 : List Zd), g + i = n ∧ iv = .int .i64 i ∧ Z2.length = i ∧ Z2.map (·.1) = (l.take i).map (moveN B) ∧ Sep w0 wr (L.set j (oBd b vv (Z ++ Z2))))
  case atStart =>
    refine ⟨0, .slice ao N cv, [], by omega, rfl, rfl, rfl, ?_⟩
    rw [List.append_nil, ← HS.out.2.2.2.2.2, set_self HS.out.2.1]
    exact HS.out.1
  case round =>
    obtain ⟨i, vv, Z2, hgi, rfl, hZ2, hM, S⟩ := hrel
    have HW := Lib.hid (⟨hZ2, hM, S⟩ : _ ∧ _ ∧ _)
    clear hZ2 hM S
    by_cases hlt : i < n
    · obtain ⟨g, rfl⟩ : ∃ g, gk = g + 1 := ⟨gk - 1, by omega⟩
      have hltz : (i : Int) < (n : Int) := by omega
      have hil : i < l.length := by rw [HS.out.2.2.2.2.1]; exact hlt
      obtain ⟨bb, o, rfl, m1, m2, m3, m4, nw, bk, ck, m5, n6⟩ := HS.out.2.2.1 i hil
      obtain ⟨hk1, hk2⟩ := HS.out.2.2.2.1 _ (List.getElem_mem hil)
      have htk : l.take (i + 1) = l.take i ++ [l[i]'hil] := by rw [List.take_succ_eq_append_getElem hil]
      generalize l[i]'hil = x at *
      have hx := HW.out.2.2.ext
      have n1 := hx.cell m1
      have n2 := hx.cell m2
      have n3 := hx.cell m3
      have n4 := hx.cell m4
      have n5 := hx.cell m5
      have HX := Lib.hid (⟨nw, n6, hk2, htk⟩ : _ ∧ _ ∧ _ ∧ _)
      clear nw n6 hk2 htk hx m1 m2 m3 m4 m5
      obtain ⟨K, hK⟩ : ∃ K, x.kids.length = K := ⟨_, rfl⟩
      rw [hK] at n5 hk1
      have HK := Lib.hid hK
      clear hK
      go_upto_region 4 with (fail)
      obtain ⟨box, hbox⟩ : ∃ box : Obj, box = .cells #[.int .i64 x.kind, .int .i64 x.n, .int .i64 x.gen, .string x.s, .slice bk K ck] 37 := ⟨_, rfl⟩
      rw [← hbox]
      obtain ⟨W, hW⟩ : ∃ W, wr.alloc box = W := ⟨_, rfl⟩
      have hx4 : Ext [] wr W := by rw [← hW]; exact (Ext.refl [] wr).alloc _
      have hb4 : W.heap[wr.heap.size]? = some box := by rw [← hW]; exact heap_alloc_at _
      obtain ⟨q, hq⟩ : ∃ q, wr.heap.size = q := ⟨_, rfl⟩
      have S := HW.out.2.2.new hx4 (Ob.one q box) (by rw [← hq]; exact hb4) (fun k hk => by simp [Ob.one] at hk; omega)
      rw [hq, hbox] at hb4
      rw [hq, hW]
      have q4 : W.cell? ⟨q, 4, none⟩ = some (.slice bk K ck) := cellOf hb4 4
      obtain ⟨q2, W2, hmk, hx5, S2⟩ := made0 K (by omega) S
      have HS2 := Lib.hid (⟨S2, hbox⟩ : _ ∧ _)
      clear hbox
      have q5 := hx5.cell q4
      clear S S2 hx4 hb4 hq hW n1 n2 n3 n4 n5
      go_wp2_with fail
      clear hmk q4 q5
      go_loopg [9, 11, 32] K (fun g2 kv v11 iv wx => ∃ m : Nat, g2 + m = K ∧ iv = .int .i64 m ∧ Sep w0 wx (oSl 3 1 kv m (((x.kids.take m).map (· + B)).map iz) :: Ob.one q box :: L.set j (oBd b vv (Z ++ Z2))))
      case atStart => exact ⟨0, by omega, rfl, HS2.out.1⟩
      case round =>
        obtain ⟨m, hgm, rfl, S⟩ := hrel
        have hown : wr.ownsRow 0 3 1 u9 m (((x.kids.take m).map (· + B)).map iz) := S.get 0 rfl
        obtain ⟨ao9, c9, rfl⟩ := row_slice hown
        have hb4 : wr.heap[q]? = some box := S.get 1 rfl
        rw [HS2.out.2] at hb4
        have HS3 := Lib.hid S
        have HO := Lib.hid hown
        by_cases hmK : m < K
        · obtain ⟨g2, rfl⟩ : ∃ g2, gk = g2 + 1 := ⟨gk - 1, by omega⟩
          have hmz : (m : Int) < (K : Int) := by omega
          have hml : m < x.kids.length := by rw [HK.out]; exact hmK
          obtain ⟨b7, o7, rfl, hc7⟩ := (HX.out.2.1.ext S.ext) m hml
          obtain ⟨h7a, h7b⟩ := HX.out.2.2.1 _ (List.getElem_mem hml)
          have ht7 : x.kids.take (m + 1) = x.kids.take m ++ [x.kids[m]'hml] := by rw [List.take_succ_eq_append_getElem hml]
          generalize x.kids[m]'hml = c at *
          have HT := Lib.hid ht7
          clear ht7 S hown hb4
          go_wp2_with (first | (at_builtin; refine wpList_append_lies _ rfl _ _ 35 rfl 0 3 i0 _ 1 8 Tryd.underlying35 hif hz0 hz1 hz2 rfl (by decide) (.slice ao9 m c9) m _ rfl (World.ownsRow.alloc HO.out _) ⟨wr.heap.size, 0, none⟩ 1 1 [.int .i64 (c + B)] rfl rfl (cell_one_new _ _ _) (by simp [Value.oneCell']) (by decide) (by unfold maxLen; omega) (by omega) (by omega) (wr.heap.size + 1) (by simp) ?_; intro g6 cap2 w6 hown1 hgrow hat hlt6))
          have P := push_local (cap := cap2) (n := m + 1) hgrow hat
          go_roundg g2
          case measure => omega
          case rel =>
            refine ⟨m + 1, by omega, by go_num, HS3.out.upd 0 (oSl 3 1 (.slice (some ⟨g6, 0, none⟩) (m + 1) cap2) (m + 1) (((x.kids.take (m + 1)).map (· + B)).map iz)) rfl P.1 P.2 ?_⟩
            show w6.ownsRow 0 3 1 _ (m + 1) _
            rw [HT.out, List.map_append, List.map_append]
            exact hown1
        · obtain rfl : m = K := by omega
          have q4 : wr.cell? ⟨q, 4, none⟩ = some (.slice bk m ck) := cellOf hb4 4
          have q4f := freeOf hb4 4
          have hfull : x.kids.take m = x.kids := by rw [← HK.out, List.take_length]
          rw [hfull] at S
          have hkl : (moveN B x).kids.length = m := by show (x.kids.map (· + B)).length = m; rw [List.length_map, HK.out]
          have S5 : ∀ kv, Sep w0 (wr.setCell ⟨q, 4, none⟩ kv) (oSl 3 1 (.slice ao9 m c9) (moveN B x).kids.length ((moveN B x).kids.map iz) :: Ob.one q (.cells #[.int .i64 x.kind, .int .i64 x.n, .int .i64 x.gen, .string x.s, kv] 37) :: L.set j (oBd b vv (Z ++ Z2))) := fun kv => by
            rw [hkl]
            refine S.upd 1 (Ob.one q _) rfl ((Ext.refl _ _).setCell _ _ (.inl (by simp [Ob.one]))) (Fr.refl _ _) ?_
            have := heap_setCell_same hb4 (i := 4) kv
            exact this
          have HS5 := Lib.hid S5
          have HKL := Lib.hid hkl
          clear S5 hfull S HO HS3 hb4 hown hkl
          have hLj : (L.set j (oBd b vv (Z ++ Z2)))[j]? = some (oBd b vv (Z ++ Z2)) := List.getElem?_set_self hjl
          by_cases hm0 : m = 0
          · subst hm0
            go_upto_region 13 with (fail)
            have S5 := HS5.out (.slice ao9 0 c9)
            have S6 : Sep w0 ((wr.setCell ⟨q, 4, none⟩ (.slice ao9 0 c9)).setCell ⟨q, 4, none⟩ (.slice none 0 0)) (oSl 3 1 (.slice none 0 0) (moveN B x).kids.length ((moveN B x).kids.map iz) :: Ob.one q (.cells #[.int .i64 x.kind, .int .i64 x.n, .int .i64 x.gen, .string x.s, .slice none 0 0] 37) :: L.set j (oBd b vv (Z ++ Z2))) := by
              have h1 := S5.upd 1 (Ob.one q (.cells #[.int .i64 x.kind, .int .i64 x.n, .int .i64 x.gen, .string x.s, .slice none 0 0] 37)) rfl ((Ext.refl _ _).setCell ⟨q, 4, none⟩ (.slice none 0 0) (.inl (by simp [Ob.one]))) (Fr.refl _ _) (heap_setCell_same (i := 4) (S5.get 1 rfl) _)
              have hk0 : (moveN B x).kids = [] := List.length_eq_zero_iff.1 HKL.out
              rw [hk0]
              exact _root_.Go.Proofs.YtkjcjklnclahdaaDoor.Sep.new (Sep.tail h1) (Ext.refl _ _) (oSl 3 1 (.slice none 0 0) 0 []) (World.ownsRow_nil _ _ _ _) (fun k hk => by simp [oSl, Value.ownBlock] at hk)
            obtain ⟨box2, hbox2⟩ : ∃ box2 : Obj, box2 = .cells #[.int .i64 x.kind, .int .i64 x.n, .int .i64 x.gen, .string x.s, .slice none 0 0] 37 := ⟨_, rfl⟩
            rw [← hbox2] at S6
            obtain ⟨W6, hW6⟩ : ∃ W6, (wr.setCell ⟨q, 4, none⟩ (.slice ao9 0 c9)).setCell ⟨q, 4, none⟩ (.slice none 0 0) = W6 := ⟨_, rfl⟩
            rw [hW6] at S6 ⊢
            clear hW6 q4 q4f HS5 S5
            have hP1 : BdP W6 b vv (Z ++ Z2) := S6.get (j + 2) hLj
            have hb6 : W6.heap[q]? = some box2 := S6.get 1 rfl
            have hnq : ∀ k ∈ bdF b vv (Z ++ Z2), k ≠ q := fun k hk e => by
              subst e
              exact S6.apart 1 (j + 2) _ _ rfl hLj (by omega) k (by simp [Ob.one]) hk
            have hnk : ∀ k ∈ (Value.slice none 0 0).ownBlock.toList, k ∉ bdF b vv (Z ++ Z2) := fun k hk hk2 => S6.apart 0 (j + 2) _ _ rfl hLj (by omega) k (by simpa [oSl] using hk) hk2
            have hkv6 : W6.ownsRow 0 3 1 (.slice none 0 0) (moveN B x).kids.length ((moveN B x).kids.map iz) := by
              have h0 := S6.get 0 rfl
              exact h0
            have S7 : Sep w0 W6 (L.set j (oBk b vv (Z ++ Z2) (.slice none 0 0) (moveN B x).kids)) := by
              have h1 := Sep.glue S6 (j := j + 1) (b := oBd b vv (Z ++ Z2)) hLj (oBk b vv (Z ++ Z2) (.slice none 0 0) (moveN B x).kids) (fun k hk => by
                rcases List.mem_append.1 hk with hk | hk
                · exact .inr hk
                · exact .inl hk) ⟨hP1, hkv6, hnk⟩
              have h2 := Sep.tail h1
              rw [List.set_set] at h2
              exact h2
            have hlen : (Z ++ Z2).length = N + i := by rw [List.length_append, HS.out.2.2.2.2.2, HW.out.1]
            have hrow := hP1.row
            rw [hlen] at hrow
            have hnv : q ∉ vv.ownBlock.toList := fun h => hnq q (by unfold bdF; exact List.mem_cons_of_mem _ (List.mem_append_left _ h)) rfl
            have hnb : vv.ownBlock ≠ some b := fun h => by
              have hd := hP1.dup
              unfold bdF at hd
              exact (List.nodup_cons.1 hd).1 (List.mem_append_left _ (by simp [h]))
            have c0 : ∀ y : ExS vv.ownBlock.toList W6, y.w.cell? ⟨b, 0, none⟩ = some vv := fun y => cellOf (y.heap hP1.here (by simpa using hnb)) 0
            have e0 : ∀ y : ExS vv.ownBlock.toList W6, y.w.cell? ⟨q, 0, none⟩ = some (.int .i64 x.kind) := fun y => cellOf (y.heap (hb6.trans (congrArg some hbox2)) hnv) 0
            have e1 : ∀ y : ExS vv.ownBlock.toList W6, y.w.cell? ⟨q, 1, none⟩ = some (.int .i64 x.n) := fun y => cellOf (y.heap (hb6.trans (congrArg some hbox2)) hnv) 1
            have e2 : ∀ y : ExS vv.ownBlock.toList W6, y.w.cell? ⟨q, 2, none⟩ = some (.int .i64 x.gen) := fun y => cellOf (y.heap (hb6.trans (congrArg some hbox2)) hnv) 2
            have e3 : ∀ y : ExS vv.ownBlock.toList W6, y.w.cell? ⟨q, 3, none⟩ = some (.string x.s) := fun y => cellOf (y.heap (hb6.trans (congrArg some hbox2)) hnv) 3
            have e4 : ∀ y : ExS vv.ownBlock.toList W6, y.w.cell? ⟨q, 4, none⟩ = some (.slice none 0 0) := fun y => cellOf (y.heap (hb6.trans (congrArg some hbox2)) hnv) 4
            have HF := Lib.hid (⟨hP1, hkv6, hnk, S7, hrow, hnb⟩ : _ ∧ _ ∧ _ ∧ _ ∧ _ ∧ _)
            clear hP1 hkv6 hnk S7 hrow hnb hnv hlen hnq S6 hb6 hbox2
            refine wp_region_mid (C := fun w' => ∃ y : ExS vv.ownBlock.toList W6, w' = y.w) 6 2 (by kernel_rfl) (by kernel_rfl) ⟨ExS.mk _ ((Ext.refl _ W6).drew), rfl⟩ ?_
            simp only [List.take_succ_cons, List.take_zero, List.drop_succ_cons, List.drop_zero]
            repeat (go_big_quiet_step (fail))
            refine wpQuiet_nil ?_
            refine midW_step rfl (fun K9 hK9 => ?_)
            go_wp2_with fail
            refine ⟨⟨ExS.mk _ ((Ext.refl _ W6).drew.alloc _), rfl⟩, ?_⟩
            refine midW_step rfl (fun K9 hK9 => ?_)
            refine wp_append_lies _ _ _ 26 rfl 0 37 j0 _ 5 64 Tryd.underlying26 hjf hy0 hy1 hy2 rfl (by decide) vv (N + i) _ rfl ((HF.out.2.2.2.2.1.alloc _).drew) ⟨W6.heap.size, 0, none⟩ 1 1 (rowN [(x, (.slice none 0 0))]) rfl rfl (cells_nd _ x (.slice none 0 0) _) (by simp [rowN, cellsN, Value.oneCell']) (by decide) (by unfold maxLen; omega) (by omega) (by omega) (W6.heap.size + 1) (by simp) ?_
            intro g6 cap2 w6 hown1 hgrow hat hlt6
            have hgrow := grown_drew hgrow
            have hb7 : w6.heap[b]? = some (.cells #[vv] 80 (0, 0)) := grown_keep hgrow (heap_alloc_old _ HF.out.1.here) HF.out.2.2.2.2.2
            have P := push_field HF.out.1.here HF.out.2.2.2.2.2 hown1 hgrow hat 0
            have hg6 : vv.ownBlock = some g6 ∨ W6.heap.size ≤ g6 := by
              rcases hat with q1 | q1
              · exact .inl q1
              · exact .inr (by omega)
            refine hK9 _ _ ⟨⟨ExS.mk w6 (((Ext.refl _ W6).alloc _).grown hgrow (fun k hk => .inl (by simp [hk]))), rfl⟩, ?_⟩
            have HP := Lib.hid (⟨P, hg6⟩ : _ ∧ _)
            clear hK9 K9 c0 e0 e1 e2 e3 e4 P hgrow hat hlt6 hg6 hown1
            refine midW_nil ?_
            have d0 := cellOf hb7 0
            have d1 := freeOf hb7 0
            clear hb7
            go_wp2_with fail
            refine NoPanic.normal ?_
            go_wp2_with fail
            go_roundg g
            case measure => omega
            case rel =>
              obtain ⟨⟨p1, p2, p3, p4, p5⟩, p6⟩ := HP.out
              have hlen : (Z ++ Z2).length = N + i := by rw [List.length_append, HS.out.2.2.2.2.2, HW.out.1]
              rw [← hlen] at p1 p2 p3
              rw [rowN_one] at p2
              have hpush := BdP.push (x := moveN B x) HF.out.1 HF.out.2.1 HF.out.2.2.1 (moveN_wf HX.out.1 HX.out.2.2.1 hB1 hB2) p3 p1 p2 p6
              have S8 := HF.out.2.2.2.1.upd j (oBd b (.slice (some ⟨g6, 0, none⟩) ((Z ++ Z2).length + 1) cap2) (Z ++ Z2 ++ [(moveN B x, (Value.slice none 0 0))])) (List.getElem?_set_self hjl) (p3.mono (fun k hk hk2 => ?_)) (fun k hk => ?_) hpush
              · rw [List.set_set, hlen, List.append_assoc] at S8
                exact ⟨i + 1, _, Z2 ++ [(moveN B x, (Value.slice none 0 0))], by omega, by go_num, by rw [List.length_append, HW.out.1]; rfl, by rw [List.map_append, HW.out.2.1, HX.out.2.2.2, List.map_append]; rfl, S8⟩
              · show k ∈ bdF b vv (Z ++ Z2) ++ _
                refine List.mem_append_left _ ?_
                unfold bdF
                rcases List.mem_cons.1 hk2 with rfl | hk2
                · simp
                · exact List.mem_cons_of_mem _ (List.mem_append_left _ hk2)
              · have hk : k ∈ bdF b (.slice (some ⟨g6, 0, none⟩) ((Z ++ Z2).length + 1) cap2) (Z ++ Z2 ++ [(moveN B x, (Value.slice none 0 0))]) := hk
                show k ∈ bdF b vv (Z ++ Z2) ++ (Value.slice none 0 0).ownBlock.toList ∨ _
                unfold bdF at hk ⊢
                rw [List.flatMap_append] at hk
                rcases List.mem_cons.1 hk with rfl | hk
                · exact .inl (by simp)
                · rcases List.mem_append.1 hk with hk | hk
                  · obtain rfl : k = g6 := by simpa [Value.ownBlock] using hk
                    rcases p6 with q1 | q1
                    · exact .inl (by simp [q1])
                    · exact .inr q1
                  · rcases List.mem_append.1 hk with hk | hk
                    · exact .inl (List.mem_append_left _ (List.mem_cons_of_mem _ (List.mem_append_right _ hk)))
                    · exact .inl (List.mem_append_right _ (by simpa using hk))
          · have hm0b : ((m : Int) == 0) = false := beq_eq_false_iff_ne.2 (by omega)
            go_upto_region 13 with (fail)
            have S6 := HS5.out (.slice ao9 m c9)
            obtain ⟨box2, hbox2⟩ : ∃ box2 : Obj, box2 = .cells #[.int .i64 x.kind, .int .i64 x.n, .int .i64 x.gen, .string x.s, .slice ao9 m c9] 37 := ⟨_, rfl⟩
            rw [← hbox2] at S6
            obtain ⟨W6, hW6⟩ : ∃ W6, wr.setCell ⟨q, 4, none⟩ (.slice ao9 m c9) = W6 := ⟨_, rfl⟩
            rw [hW6] at S6 ⊢
            clear hW6 q4 q4f HS5
            have hP1 : BdP W6 b vv (Z ++ Z2) := S6.get (j + 2) hLj
            have hb6 : W6.heap[q]? = some box2 := S6.get 1 rfl
            have hnq : ∀ k ∈ bdF b vv (Z ++ Z2), k ≠ q := fun k hk e => by
              subst e
              exact S6.apart 1 (j + 2) _ _ rfl hLj (by omega) k (by simp [Ob.one]) hk
            have hnk : ∀ k ∈ (Value.slice ao9 m c9).ownBlock.toList, k ∉ bdF b vv (Z ++ Z2) := fun k hk hk2 => S6.apart 0 (j + 2) _ _ rfl hLj (by omega) k (by simpa [oSl] using hk) hk2
            have hkv6 : W6.ownsRow 0 3 1 (.slice ao9 m c9) (moveN B x).kids.length ((moveN B x).kids.map iz) := by
              have h0 := S6.get 0 rfl
              exact h0
            have S7 : Sep w0 W6 (L.set j (oBk b vv (Z ++ Z2) (.slice ao9 m c9) (moveN B x).kids)) := by
              have h1 := Sep.glue S6 (j := j + 1) (b := oBd b vv (Z ++ Z2)) hLj (oBk b vv (Z ++ Z2) (.slice ao9 m c9) (moveN B x).kids) (fun k hk => by
                rcases List.mem_append.1 hk with hk | hk
                · exact .inr hk
                · exact .inl hk) ⟨hP1, hkv6, hnk⟩
              have h2 := Sep.tail h1
              rw [List.set_set] at h2
              exact h2
            have hlen : (Z ++ Z2).length = N + i := by rw [List.length_append, HS.out.2.2.2.2.2, HW.out.1]
            have hrow := hP1.row
            rw [hlen] at hrow
            have hnv : q ∉ vv.ownBlock.toList := fun h => hnq q (by unfold bdF; exact List.mem_cons_of_mem _ (List.mem_append_left _ h)) rfl
            have hnb : vv.ownBlock ≠ some b := fun h => by
              have hd := hP1.dup
              unfold bdF at hd
              exact (List.nodup_cons.1 hd).1 (List.mem_append_left _ (by simp [h]))
            have c0 : ∀ y : ExS vv.ownBlock.toList W6, y.w.cell? ⟨b, 0, none⟩ = some vv := fun y => cellOf (y.heap hP1.here (by simpa using hnb)) 0
            have e0 : ∀ y : ExS vv.ownBlock.toList W6, y.w.cell? ⟨q, 0, none⟩ = some (.int .i64 x.kind) := fun y => cellOf (y.heap (hb6.trans (congrArg some hbox2)) hnv) 0
            have e1 : ∀ y : ExS vv.ownBlock.toList W6, y.w.cell? ⟨q, 1, none⟩ = some (.int .i64 x.n) := fun y => cellOf (y.heap (hb6.trans (congrArg some hbox2)) hnv) 1
            have e2 : ∀ y : ExS vv.ownBlock.toList W6, y.w.cell? ⟨q, 2, none⟩ = some (.int .i64 x.gen) := fun y => cellOf (y.heap (hb6.trans (congrArg some hbox2)) hnv) 2
            have e3 : ∀ y : ExS vv.ownBlock.toList W6, y.w.cell? ⟨q, 3, none⟩ = some (.string x.s) := fun y => cellOf (y.heap (hb6.trans (congrArg some hbox2)) hnv) 3
            have e4 : ∀ y : ExS vv.ownBlock.toList W6, y.w.cell? ⟨q, 4, none⟩ = some (.slice ao9 m c9) := fun y => cellOf (y.heap (hb6.trans (congrArg some hbox2)) hnv) 4
            have HF := Lib.hid (⟨hP1, hkv6, hnk, S7, hrow, hnb⟩ : _ ∧ _ ∧ _ ∧ _ ∧ _ ∧ _)
            clear hP1 hkv6 hnk S7 hrow hnb hnv hlen hnq S6 hb6 hbox2
            refine wp_region_mid (C := fun w' => ∃ y : ExS vv.ownBlock.toList W6, w' = y.w) 6 2 (by kernel_rfl) (by kernel_rfl) ⟨ExS.mk _ ((Ext.refl _ W6).drew), rfl⟩ ?_
            simp only [List.take_succ_cons, List.take_zero, List.drop_succ_cons, List.drop_zero]
            repeat (go_big_quiet_step (fail))
            refine wpQuiet_nil ?_
            refine midW_step rfl (fun K9 hK9 => ?_)
            go_wp2_with fail
            refine ⟨⟨ExS.mk _ ((Ext.refl _ W6).drew.alloc _), rfl⟩, ?_⟩
            refine midW_step rfl (fun K9 hK9 => ?_)
            refine wp_append_lies _ _ _ 26 rfl 0 37 j0 _ 5 64 Tryd.underlying26 hjf hy0 hy1 hy2 rfl (by decide) vv (N + i) _ rfl ((HF.out.2.2.2.2.1.alloc _).drew) ⟨W6.heap.size, 0, none⟩ 1 1 (rowN [(x, (.slice ao9 m c9))]) rfl rfl (cells_nd _ x (.slice ao9 m c9) _) (by simp [rowN, cellsN, Value.oneCell']) (by decide) (by unfold maxLen; omega) (by omega) (by omega) (W6.heap.size + 1) (by simp) ?_
            intro g6 cap2 w6 hown1 hgrow hat hlt6
            have hgrow := grown_drew hgrow
            have hb7 : w6.heap[b]? = some (.cells #[vv] 80 (0, 0)) := grown_keep hgrow (heap_alloc_old _ HF.out.1.here) HF.out.2.2.2.2.2
            have P := push_field HF.out.1.here HF.out.2.2.2.2.2 hown1 hgrow hat 0
            have hg6 : vv.ownBlock = some g6 ∨ W6.heap.size ≤ g6 := by
              rcases hat with q1 | q1
              · exact .inl q1
              · exact .inr (by omega)
            refine hK9 _ _ ⟨⟨ExS.mk w6 (((Ext.refl _ W6).alloc _).grown hgrow (fun k hk => .inl (by simp [hk]))), rfl⟩, ?_⟩
            have HP := Lib.hid (⟨P, hg6⟩ : _ ∧ _)
            clear hK9 K9 c0 e0 e1 e2 e3 e4 P hgrow hat hlt6 hg6 hown1
            refine midW_nil ?_
            have d0 := cellOf hb7 0
            have d1 := freeOf hb7 0
            clear hb7
            go_wp2_with fail
            refine NoPanic.normal ?_
            go_wp2_with fail
            go_roundg g
            case measure => omega
            case rel =>
              obtain ⟨⟨p1, p2, p3, p4, p5⟩, p6⟩ := HP.out
              have hlen : (Z ++ Z2).length = N + i := by rw [List.length_append, HS.out.2.2.2.2.2, HW.out.1]
              rw [← hlen] at p1 p2 p3
              rw [rowN_one] at p2
              have hpush := BdP.push (x := moveN B x) HF.out.1 HF.out.2.1 HF.out.2.2.1 (moveN_wf HX.out.1 HX.out.2.2.1 hB1 hB2) p3 p1 p2 p6
              have S8 := HF.out.2.2.2.1.upd j (oBd b (.slice (some ⟨g6, 0, none⟩) ((Z ++ Z2).length + 1) cap2) (Z ++ Z2 ++ [(moveN B x, (Value.slice ao9 m c9))])) (List.getElem?_set_self hjl) (p3.mono (fun k hk hk2 => ?_)) (fun k hk => ?_) hpush
              · rw [List.set_set, hlen, List.append_assoc] at S8
                exact ⟨i + 1, _, Z2 ++ [(moveN B x, (Value.slice ao9 m c9))], by omega, by go_num, by rw [List.length_append, HW.out.1]; rfl, by rw [List.map_append, HW.out.2.1, HX.out.2.2.2, List.map_append]; rfl, S8⟩
              · show k ∈ bdF b vv (Z ++ Z2) ++ _
                refine List.mem_append_left _ ?_
                unfold bdF
                rcases List.mem_cons.1 hk2 with rfl | hk2
                · simp
                · exact List.mem_cons_of_mem _ (List.mem_append_left _ hk2)
              · have hk : k ∈ bdF b (.slice (some ⟨g6, 0, none⟩) ((Z ++ Z2).length + 1) cap2) (Z ++ Z2 ++ [(moveN B x, (Value.slice ao9 m c9))]) := hk
                show k ∈ bdF b vv (Z ++ Z2) ++ (Value.slice ao9 m c9).ownBlock.toList ∨ _
                unfold bdF at hk ⊢
                rw [List.flatMap_append] at hk
                rcases List.mem_cons.1 hk with rfl | hk
                · exact .inl (by simp)
                · rcases List.mem_append.1 hk with hk | hk
                  · obtain rfl : k = g6 := by simpa [Value.ownBlock] using hk
                    rcases p6 with q1 | q1
                    · exact .inl (by simp [q1])
                    · exact .inr q1
                  · rcases List.mem_append.1 hk with hk | hk
                    · exact .inl (List.mem_append_left _ (List.mem_cons_of_mem _ (List.mem_append_right _ hk)))
                    · exact .inl (List.mem_append_right _ (by simpa using hk))
    · obtain rfl : i = n := by omega
      go_wp2_with fail
      go_end0
      refine ⟨rfl, vv, Z2, ?_, HW.out.2.2⟩
      rw [HW.out.2.1, ← HS.out.2.2.2.2.1, List.take_length]
end Go.Proofs.YtkjcjklnclahdaaDoor.Tr
