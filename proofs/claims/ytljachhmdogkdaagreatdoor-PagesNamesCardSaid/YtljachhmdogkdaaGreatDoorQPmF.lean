/-
 Texts PmF, as far as the statement needs them.
-/
import Derived.Test.YtljachhmdogkdaaGreatDoorQTa
import Derived.Test.YtljachhmdogkdaaGreatDoorQPm
namespace Go.Proofs.YtljachhmdogkdaaGreatDoor.Pg
open Go.RowKit
open Go.Proofs.YtljachhmdogkdaaGreatDoor.Tr
open Go.Proofs.YtljachhmdogkdaaGreatDoor.Rc
theorem anyC_twoG {P : Program} {ops : Array Oper} {md : Region.Mode} {C : World → Prop} {Q : Exit → Act → World → Prop} {m f i j : Nat} {o o' : Oper} {L : Array Bool → Act → World → Prop} {listed : Array Bool} {a : Act} {w : World} (hr : Region.ready md ops listed = [i, j]) (hi : i < m) (hj : j < m) (ho : ops[i]? = some o) (hg : Region.wanted o (yielded ops a.tmps) = true) (ho' : ops[j]? = some o') (hg' : Region.wanted o' (yielded ops a.tmps) = true)
  (h : ∀ K : Act → World → Prop, (∀ a' w', C w' → anyC P md ops Q C m L f (listed.setIfInBounds i true) a' w' → K a' w') → o.wp P a w K Q)
  (h' : ∀ K : Act → World → Prop, (∀ a' w', C w' → anyC P md ops Q C m L f (listed.setIfInBounds j true) a' w' → K a' w') → o'.wp P a w K Q) : anyC P md ops Q C m L (f + 1) listed a w := by
 refine ⟨by rw [hr]; simp, fun k hk => ?_⟩
 rw [hr] at hk
 rcases List.mem_cons.1 hk with rfl | hk
 ·refine ⟨hi, ?_⟩
  unfold wpOp
  simp only [ho, hg, if_true]
  exact .inl (h _ fun a' w' h1 h2 => ⟨h1, h2⟩)
 ·obtain rfl : k = j := by simpa using hk
  refine ⟨hj, ?_⟩
  unfold wpOp
  simp only [ho', hg', if_true]
  exact .inl (h' _ fun a' w' h1 h2 => ⟨h1, h2⟩)
theorem anyC_lst {P : Program} {ops : Array Oper} {md : Region.Mode} {C : World → Prop} {Q : Exit → Act → World → Prop} {m f : Nat} {L : Array Bool → Act → World → Prop} {listed l' : Array Bool} {a : Act} {w : World} (he : listed = l') (h : anyC P md ops Q C m L f l' a w) : anyC P md ops Q C m L f listed a w := he ▸ h
theorem rest_once {G : Prop} (A R : World → Option Addr → Nat → Option Addr → Nat → Nat → Prop) (hmain : (∀ W b c d e p, A W b c d e p → R W b c d e p) → G) (hrest : ∀ W b c d e p, A W b c d e p → R W b c d e p) : G := hmain hrest
theorem list_w2 (v a b d : Value) (W : World) (h : OmsAt W v (exL a b d 2)) : Calls Tryz.prog 11 #[.agg #[v, .int .i64 1, .int .i64 0]] W fun e w' => ∃ v2, e = .returned v2 ∧ Ext [] W w' ∧ RowAt w' v2 [(3, 0)] := by
 refine (list_walk v (exL a b d 2) (1, 0) W h (exL_wf a b d 2) rf_10 (exL_cnt a b d 2) (by show 3 ≤ 1000; omega)).mono ?_
 rintro e w' ⟨v2, rfl, S⟩
 refine ⟨v2, rfl, S.ext, ?_⟩
 have := RowAt.of_row (S.get 0 rfl : w'.ownsRow 0 24 2 v2 _ (rfC (keysO (walkN (1, 0) (exL a b d 2)))))
 rwa [list_2] at this
theorem orph_w1 (v a b d : Value) (W : World) (h : OmsAt W v (exL a b d 1)) : Calls Tryz.prog 12 #[.agg #[v, .int .i64 1, .int .i64 0], .slice none 0 0] W fun e w' => ∃ v2, e = .returned v2 ∧ Ext [] W w' ∧ RowAt w' v2 [] := by
 refine (Orphans_walk v (exL a b d 1) (1, 0) (.slice none 0 0) [] W h (exL_wf a b d 1) rf_10 (exL_cnt a b d 1) (by show 3 ≤ 1000; omega) (row_nil W) (fun r hr => by cases hr) (by show 0 ≤ 1000; omega)).mono ?_
 rintro e w' ⟨v2, rfl, S⟩
 refine ⟨v2, rfl, S.ext, ?_⟩
 have := RowAt.of_row (S.get 0 rfl : w'.ownsRow 0 24 2 v2 _ (rfC (loneM (1, 0) (exL a b d 1) [])))
 rwa [lone_1] at this
theorem field28 (b : Option Addr) (n c : Nat) (W : World) : (Instr.field 26 (.agg #[.slice b n c, .int .i64 1, .int .i64 0]) 0).run Tryz.prog W = .ok (.slice b n c) W := by kernel_rfl
theorem get_w3 (v : Value) (W : World) (h : NodesAt W v l3) : Calls Tryz.prog 7 #[v, .string kRot] W fun e w' => ∃ v2, e = .returned (.tuple #[v2, .bool true]) ∧ Ext [] W w' ∧ NodesAt w' v2 [⟨3, 90, 0, ⟨#[]⟩, []⟩] := by
 have := get17_walk v l3 kRot W h lt_l3
 rw [get_rot] at this
 exact this
theorem get_w4 (v : Value) (W : World) (h : NodesAt W v l4) : Calls Tryz.prog 7 #[v, .string kCount] W fun e w' => ∃ v2, e = .returned (.tuple #[v2, .bool true]) ∧ Ext [] W w' ∧ NodesAt w' v2 [⟨3, 1, 0, ⟨#[]⟩, []⟩] := by
 have := get17_walk v l4 kCount W h lt_l4
 rw [get_cnt] at this
 exact this
theorem oms_at {w : World} {b : Option Addr} {n c : Nat} {L : List Om} (h : OmsAt w (.slice b n c) L) (i : Nat) (hi : i < L.length) : ∃ g o, b = some ⟨g, o, none⟩ ∧ OmAt w g (o + i * 5) (L[i]'hi) := by
 obtain ⟨base, cap, he, -, hT⟩ := h
 have e1 : b = base := by injection he
 obtain ⟨g, o, h1, h2⟩ := hT i hi
 exact ⟨g, o, e1.trans h1, h2⟩
theorem nodes_at {w : World} {b : Option Addr} {n c : Nat} {x : Nd} (h : NodesAt w (.slice b n c) [x]) : ∃ g o, b = some ⟨g, o, none⟩ ∧ w.cell? ⟨g, o + 1, none⟩ = some (.int .i64 x.n) := by
 obtain ⟨base, cap, he, -, hT⟩ := h
 have e1 : b = base := by injection he
 obtain ⟨g, o, h1, h2⟩ := hT 0 (by simp)
 exact ⟨g, o, e1.trans h1, h2.n⟩
set_option maxRecDepth 100000 in
set_option maxHeartbeats 32000000 in
theorem names28_law (w : World) : Calls Tryz.prog 3 #[] w fun e w' => e = .returned (.bool true) ∧ Ext [] w w' := by
 have hfl := field28
 go_enter Tryz.func3, Tryz.ntmps3
 go_wp2_with fail
 refine (one_1 _).mono ?_
 rintro e w1 ⟨v1, a1, b1, d1, rfl, hx, hO⟩
 have HX1 := Lib.hid (⟨hx, hO⟩ : _ ∧ _)
 skip
 obtain ⟨s1b, s1c, rfl⟩ : ∃ b c, v1 = .slice b 3 c := by
  obtain ⟨b, c, h, -⟩ := HX1.out.2
  exact ⟨b, c, h⟩
 clear hx hO
 go_wp2_with fail
 refine (mend_w1 _ a1 b1 d1 _ (HX1.out.2)).mono ?_
 rintro e w2 ⟨v2, nv, rfl, hx, hO, hN⟩
 have HX2 := Lib.hid (⟨(HX1.out.1).trans hx, hO, hN⟩ : _ ∧ _ ∧ _)
 clear  HX1
 obtain ⟨s2b, s2c, rfl⟩ : ∃ b c, v2 = .slice b 3 c := by
  obtain ⟨b, c, h, -⟩ := HX2.out.2.1
  exact ⟨b, c, h⟩
 obtain ⟨lb, lc, rfl⟩ : ∃ b c, nv = .slice b 0 c := by
  obtain ⟨b, c, h, -⟩ := HX2.out.2.2
  exact ⟨b, c, h⟩
 clear hx hO hN
 go_upto_region 2 with fail
 refine gen_world (fun Wp1 hW => ?_)
 obtain ⟨p1, hp⟩ : ∃ p, w2.heap.size = p := ⟨_, rfl⟩
 (try rw [hp])
 have hx : Ext [] w2 Wp1 := by rw [← hW]; exact (Ext.refl [] w2).alloc _
 have hb : Wp1.heap[p1]? = some (.cells #[.slice s2b 3 s2c, .int .i64 1, .int .i64 0] 26 (0, 0)) := by rw [← hW, ← hp]; exact heap_alloc_at _
 have HX3 := Lib.hid (⟨(HX2.out.1).trans hx, (HX2.out.2.1).ext hx, (HX2.out.2.2).ext hx, hb⟩ : _ ∧ _ ∧ _ ∧ _)
 clear hx hb hW hp HX2
 go_wp2_with fail
 refine (one_2 _).mono ?_
 rintro e w4 ⟨v4, a4, b4, d4, rfl, hx, hO⟩
 have HX4 := Lib.hid (⟨(HX3.out.1).trans hx, (HX3.out.2.1).ext hx, (HX3.out.2.2.1).ext hx, hx.keep (HX3.out.2.2.2) (by simp), hO⟩ : _ ∧ _ ∧ _ ∧ _ ∧ _)
 clear  HX3
 obtain ⟨s4b, s4c, rfl⟩ : ∃ b c, v4 = .slice b 3 c := by
  obtain ⟨b, c, h, -⟩ := HX4.out.2.2.2.2
  exact ⟨b, c, h⟩
 clear hx hO
 go_wp2_with fail
 refine (mend_w2 _ a4 b4 d4 _ (HX4.out.2.2.2.2)).mono ?_
 rintro e w5 ⟨v5, nv5, t0, t1, t2, t3, rfl, hx, hO, hN⟩
 have HX5 := Lib.hid (⟨(HX4.out.1).trans hx, (HX4.out.2.1).ext hx, (HX4.out.2.2.1).ext hx, hx.keep (HX4.out.2.2.2.1) (by simp), hO⟩ : _ ∧ _ ∧ _ ∧ _ ∧ _)
 clear  HX4
 obtain ⟨s5b, s5c, rfl⟩ : ∃ b c, v5 = .slice b 4 c := by
  obtain ⟨b, c, h, -⟩ := HX5.out.2.2.2.2
  exact ⟨b, c, h⟩
 obtain ⟨hlb, hlc, rfl⟩ : ∃ b c, nv5 = .slice b 2 c := by
  obtain ⟨b, c, h, -⟩ := hN
  exact ⟨b, c, h⟩
 clear hx hO hN
 go_upto_region 3 with fail
 refine gen_world (fun Wp3 hW => ?_)
 obtain ⟨p3, hp⟩ : ∃ p, w5.heap.size = p := ⟨_, rfl⟩
 (try rw [hp])
 have hx : Ext [] w5 Wp3 := by rw [← hW]; exact (Ext.refl [] w5).alloc _
 have hb : Wp3.heap[p3]? = some (.cells #[.slice s5b 4 s5c, .int .i64 1, .int .i64 0] 26 (0, 0)) := by rw [← hW, ← hp]; exact heap_alloc_at _
 have HX6 := Lib.hid (⟨(HX5.out.1).trans hx, (HX5.out.2.1).ext hx, (HX5.out.2.2.1).ext hx, hx.keep (HX5.out.2.2.2.1) (by simp), (HX5.out.2.2.2.2).ext hx, hb⟩ : _ ∧ _ ∧ _ ∧ _ ∧ _ ∧ _)
 clear hx hb hW hp HX5
 obtain ⟨hg, ho, rfl, hA2⟩ := oms_at (HX6.out.2.2.2.2.1) 2 (by show 2 < 4; omega)
 have hA2t : Wp3.cell? ⟨hg, ho + 2 * 5 + 2, none⟩ = some t2 := hA2.tv
 have hN2 : NodesAt Wp3 t2 l3 := hA2.nodes
 obtain ⟨t2b, t2c, hq2⟩ : ∃ b c, t2 = .slice b 7 c := by
  obtain ⟨b, c, h, -⟩ := hN2
  exact ⟨b, c, h⟩
 rw [hq2] at hA2t hN2
 have c0 := cellOf (HX6.out.2.2.2.2.2) 0
 have hA2u : Wp3.cell? ⟨hg, ho + 10 + 2, none⟩ = some (.slice t2b 7 t2c) := hA2t
 clear hA2 hA2t
 have HN2 := Lib.hid hN2
 clear hN2
 go_wp2_with fail
 refine (get_w3 _ _ HN2.out).mono ?_
 rintro e w6 ⟨v6, rfl, hx, hN⟩
 have HX7 := Lib.hid (⟨(HX6.out.1).trans hx, (HX6.out.2.1).ext hx, (HX6.out.2.2.1).ext hx, hx.keep (HX6.out.2.2.2.1) (by simp), (HX6.out.2.2.2.2.1).ext hx, hx.keep (HX6.out.2.2.2.2.2) (by simp), hN⟩ : _ ∧ _ ∧ _ ∧ _ ∧ _ ∧ _ ∧ _)
 clear  HX6
 obtain ⟨r6b, r6c, rfl⟩ : ∃ b c, v6 = .slice b 1 c := by
  obtain ⟨b, c, h, -⟩ := HX7.out.2.2.2.2.2.2
  exact ⟨b, c, h⟩
 clear hx hN c0 hA2u HN2
 obtain ⟨hg', ho', hgo, hA3⟩ := oms_at (HX7.out.2.2.2.2.1) 3 (by show 3 < 4; omega)
 cases hgo
 have hA3t : w6.cell? ⟨hg, ho + 3 * 5 + 2, none⟩ = some t3 := hA3.tv
 have hN3 : NodesAt w6 t3 l4 := hA3.nodes
 obtain ⟨t3b, t3c, hq3⟩ : ∃ b c, t3 = .slice b 8 c := by
  obtain ⟨b, c, h, -⟩ := hN3
  exact ⟨b, c, h⟩
 rw [hq3] at hA3t hN3
 have c0 := cellOf (HX7.out.2.2.2.2.2.1) 0
 have hA3u : w6.cell? ⟨hg, ho + 15 + 2, none⟩ = some (.slice t3b 8 t3c) := hA3t
 clear hA3 hA3t
 have HN3 := Lib.hid hN3
 clear hN3
 go_wp2_with fail
 refine (get_w4 _ _ HN3.out).mono ?_
 rintro e w7 ⟨v7, rfl, hx, hN⟩
 have HX8 := Lib.hid (⟨(HX7.out.1).trans hx, (HX7.out.2.1).ext hx, (HX7.out.2.2.1).ext hx, hx.keep (HX7.out.2.2.2.1) (by simp), (HX7.out.2.2.2.2.2.2).ext hx, hN⟩ : _ ∧ _ ∧ _ ∧ _ ∧ _ ∧ _)
 clear  HX7
 obtain ⟨r7b, r7c, rfl⟩ : ∃ b c, v7 = .slice b 1 c := by
  obtain ⟨b, c, h, -⟩ := HX8.out.2.2.2.2.2
  exact ⟨b, c, h⟩
 clear hx hN c0 hA3u HN3 hq2 hq3
 go_wp2_with fail
 refine (one_1 _).mono ?_
 rintro e w8 ⟨v8, a8, b8, d8, rfl, hx, hO⟩
 have HX9 := Lib.hid (⟨(HX8.out.1).trans hx, (HX8.out.2.1).ext hx, (HX8.out.2.2.1).ext hx, hx.keep (HX8.out.2.2.2.1) (by simp), (HX8.out.2.2.2.2.1).ext hx, (HX8.out.2.2.2.2.2).ext hx, hO⟩ : _ ∧ _ ∧ _ ∧ _ ∧ _ ∧ _ ∧ _)
 clear  HX8
 obtain ⟨s8b, s8c, rfl⟩ : ∃ b c, v8 = .slice b 3 c := by
  obtain ⟨b, c, h, -⟩ := HX9.out.2.2.2.2.2.2
  exact ⟨b, c, h⟩
 clear hx hO
 go_upto_region 8 with fail
 refine gen_world (fun W9 hW => ?_)
 obtain ⟨p9, hp⟩ : ∃ p, w8.heap.size = p := ⟨_, rfl⟩
 (try rw [hp])
 have hx9 : Ext [] w8 W9 := by rw [← hW]; exact (Ext.refl [] w8).alloc _
 have hb : W9.heap[p9]? = some (.cells #[.slice s8b 3 s8c, .int .i64 1, .int .i64 0] 26 (0, 0)) := by rw [← hW, ← hp]; exact heap_alloc_at _
 have r1 := cellOf hb 1
 have r2 := cellOf hb 2
 have f1 := freeOf hb 1
 have f2 := freeOf hb 2
 have HB9 := Lib.hid (⟨hx9, hb, hp⟩ : _ ∧ _ ∧ _)
 clear hx9 hb hW hp
 go_upto_region 9 with fail
 refine gen_world (fun W10 hW => ?_)
 have hx9' : Ext [p9] W9 W10 := by rw [← hW]; exact ((Ext.refl [p9] W9).setCell ⟨p9, 1, none⟩ _ (by simp)).setCell ⟨p9, 2, none⟩ _ (by simp)
 have hb : W10.heap[p9]? = some (.cells #[.slice s8b 3 s8c, .int .i64 0, .int .i64 0] 26 (0, 0)) := by rw [← hW]; exact heap_setCell_same (heap_setCell_same HB9.out.2.1 _) _
 have hx : Ext [] w8 W10 := HB9.out.1.trans' hx9' (fun k hlt hk => by
  obtain rfl := List.mem_singleton.1 hk
  have := HB9.out.2.2
  omega)
 have c0 := cellOf hb 0
 have c1 := cellOf hb 1
 have c2 := cellOf hb 2
 have HX10 := Lib.hid (⟨(HX9.out.1).trans hx, (HX9.out.2.1).ext hx, (HX9.out.2.2.1).ext hx, hx.keep (HX9.out.2.2.2.1) (by simp), (HX9.out.2.2.2.2.1).ext hx, (HX9.out.2.2.2.2.2.1).ext hx, (HX9.out.2.2.2.2.2.2).ext hx⟩ : _ ∧ _ ∧ _ ∧ _ ∧ _ ∧ _ ∧ _)
 clear hx hx9' hb hW r1 r2 f1 f2 HB9 HX9
 go_wp2_with fail
 refine gen_calls (fun W11 hW => ?_)
 have hx : Ext [] W10 W11 := by rw [← hW]; exact (Ext.refl [] W10).alloc _
 have hb : W11.heap[W10.heap.size]? = some (.cells #[.int .i64 3, .int .i64 0] 24 (0, 0)) := by rw [← hW]; exact heap_alloc_at _
 have hrl := row_lit [(3, 0)] hb rfl
 have HX11 := Lib.hid (⟨(HX10.out.1).trans hx, (HX10.out.2.1).ext hx, (HX10.out.2.2.1).ext hx, hx.keep (HX10.out.2.2.2.1) (by simp), (HX10.out.2.2.2.2.1).ext hx, (HX10.out.2.2.2.2.2.1).ext hx, (HX10.out.2.2.2.2.2.2).ext hx, hrl⟩ : _ ∧ _ ∧ _ ∧ _ ∧ _ ∧ _ ∧ _ ∧ _)
 clear hx hb hW c0 c1 c2 hrl HX10
 refine (mend_w0 _ a8 b8 d8 _ _ (HX11.out.2.2.2.2.2.2.1) (HX11.out.2.2.2.2.2.2.2)).mono ?_
 rintro e w12 ⟨v12, nv12, rfl, hx, ⟨ML, hO⟩, hN⟩
 obtain ⟨ib, in_, ic, rfl⟩ : ∃ b n c, v12 = .slice b n c := by
  obtain ⟨b, c, h, -⟩ := hO
  exact ⟨b, _, c, h⟩
 have HX12 := Lib.hid (⟨(HX11.out.1).trans hx, (HX11.out.2.1).ext hx, (HX11.out.2.2.1).ext hx, hx.keep (HX11.out.2.2.2.1) (by simp), (HX11.out.2.2.2.2.1).ext hx, (HX11.out.2.2.2.2.2.1).ext hx, hN⟩ : _ ∧ _ ∧ _ ∧ _ ∧ _ ∧ _ ∧ _)
 clear  HX11
 obtain ⟨m12b, m12c, rfl⟩ : ∃ b c, nv12 = .slice b 4 c := by
  obtain ⟨b, c, h, -⟩ := HX12.out.2.2.2.2.2.2
  exact ⟨b, c, h⟩
 clear hx hN hO
 go_upto_region 10 with fail
 refine gen_world (fun Wp10 hW => ?_)
 obtain ⟨p10, hp⟩ : ∃ p, w12.heap.size = p := ⟨_, rfl⟩
 (try rw [hp])
 have hx : Ext [] w12 Wp10 := by rw [← hW]; exact (Ext.refl [] w12).alloc _
 have hb : Wp10.heap[p10]? = some (.cells #[.slice ib in_ ic, .int .i64 4, .int .i64 0] 26 (0, 0)) := by rw [← hW, ← hp]; exact heap_alloc_at _
 have HX13 := Lib.hid (⟨(HX12.out.1).trans hx, (HX12.out.2.1).ext hx, (HX12.out.2.2.1).ext hx, hx.keep (HX12.out.2.2.2.1) (by simp), (HX12.out.2.2.2.2.1).ext hx, (HX12.out.2.2.2.2.2.1).ext hx, (HX12.out.2.2.2.2.2.2).ext hx, hb⟩ : _ ∧ _ ∧ _ ∧ _ ∧ _ ∧ _ ∧ _ ∧ _)
 clear hx hb hW hp HX12
 skip
 have bg0 := fun y : Ex Wp10 => y.cell (cellOf (HX13.out.2.2.2.1) 0)
 have bg1 := fun y : Ex Wp10 => y.cell (cellOf (HX13.out.2.2.2.1) 1)
 have bg2 := fun y : Ex Wp10 => y.cell (cellOf (HX13.out.2.2.2.1) 2)
 have bi1 := fun y : Ex Wp10 => y.cell (cellOf (HX13.out.2.2.2.2.2.2.2) 1)
 have bi2 := fun y : Ex Wp10 => y.cell (cellOf (HX13.out.2.2.2.2.2.2.2) 2)
 obtain ⟨rg, ro, rfl, hc90⟩ := nodes_at (HX13.out.2.2.2.2.1)
 obtain ⟨cg, co, rfl, hc1⟩ := nodes_at (HX13.out.2.2.2.2.2.1)
 dsimp only at hc90 hc1
 have rt0 := fun y : Ex Wp10 => y.cell hc90
 have ct0 := fun y : Ex Wp10 => y.cell hc1
 clear hc90 hc1
 have HX14 := Lib.hid (⟨HX13.out.1, HX13.out.2.1, HX13.out.2.2.1, HX13.out.2.2.2.2.2.2.1⟩ : _ ∧ _ ∧ _ ∧ _)
 clear  HX13
 simp only [List.append_eq, List.cons_append, List.nil_append]
 refine wp_region_perm (C := fun w' => ∃ y : Ex Wp10, w' = y.w) [] 57 (by kernel_rfl) (by kernel_rfl) ⟨Ex.mk _ ((Ext.refl [] Wp10).drew), rfl⟩ ?_
 simp only [pick, List.drop_succ_cons, List.drop_zero]
 refine wpQuiet_nil ?_
 refine anyC_one (f := 56) (i := 0) (by kernel_rfl) (by decide) rfl rfl (fun K9 hK9 => ?_)
 go_wp2_with fail
 refine (lives_walk28 _).mono ?_
 rintro e w14 ⟨rfl, hx⟩
 have hx := ((Ext.refl [] Wp10).drew).trans hx
 have HX15 := Lib.hid (⟨(HX14.out.1).trans hx, (HX14.out.2.1).ext hx, (HX14.out.2.2.1).ext hx, (HX14.out.2.2.2).ext hx, hx⟩ : _ ∧ _ ∧ _ ∧ _ ∧ _)
 clear hx HX14
 go_wp2_with fail
 refine hK9 _ _ ⟨Ex.mk _ (HX15.out.2.2.2.2), rfl⟩ ?_
 clear hK9 K9
 refine anyC_more [1, 2] 54 (by kernel_rfl) ⟨Ex.mk _ (HX15.out.2.2.2.2), rfl⟩ ?_
 simp only [pick, List.getElem?_toArray, List.getElem?_cons_zero, List.getElem?_cons_succ]
 repeat (go_big_quiet_step (fail))
 refine wpQuiet_nil ?_
 clear bg0 bg1 bg2
 refine anyC_oneG (f := 53) (i := 3) (by kernel_rfl) (by decide) rfl rfl (fun K9 hK9 => ?_)
 go_wp2_with fail
 refine (one_1 _).mono ?_
 rintro e w15 ⟨v15, a15, b15, d15, rfl, hx, hO⟩
 have HX16 := Lib.hid (⟨(HX15.out.1).trans hx, (HX15.out.2.1).ext hx, (HX15.out.2.2.1).ext hx, (HX15.out.2.2.2.1).ext hx, (HX15.out.2.2.2.2).trans hx, hO⟩ : _ ∧ _ ∧ _ ∧ _ ∧ _ ∧ _)
 clear  HX15
 obtain ⟨s15b, s15c, rfl⟩ : ∃ b c, v15 = .slice b 3 c := by
  obtain ⟨b, c, h, -⟩ := HX16.out.2.2.2.2.2
  exact ⟨b, c, h⟩
 clear hx hO
 go_wp2_with fail
 refine hK9 _ _ ⟨Ex.mk _ (HX16.out.2.2.2.2.1), rfl⟩ ?_
 clear hK9 K9
 refine anyC_oneG (f := 52) (i := 4) (by kernel_rfl) (by decide) rfl rfl (fun K9 hK9 => ?_)
 go_wp2_with fail
 refine (sameG_walk _ _ (exL a1 b1 d1 1) (exL a15 b15 d15 1) 1 0 _ (HX16.out.2.1) (HX16.out.2.2.2.2.2) rfl (fun x hx => (exL_wf a1 b1 d1 1 x hx).lt) (by show 3 ≤ 1000; omega)).mono ?_
 rintro e w16 ⟨rfl, hx⟩
 have HX17 := Lib.hid (⟨(HX16.out.1).trans hx, (HX16.out.2.2.2.1).ext hx, (HX16.out.2.2.2.2.1).trans hx⟩ : _ ∧ _ ∧ _)
 clear hx HX16
 go_wp2_with fail
 refine hK9 _ _ ⟨Ex.mk _ (HX17.out.2.2), rfl⟩ ?_
 clear hK9 K9
 refine anyC_more [5, 6, 7, 8, 9, 10, 11, 12, 13, 14, 15, 16, 17, 18, 19, 20, 21, 22, 23, 24, 25, 26, 27, 28, 29, 30, 31] 25 (by kernel_rfl) ⟨Ex.mk _ (HX17.out.2.2), rfl⟩ ?_
 simp only [pick, List.getElem?_toArray, List.getElem?_cons_zero, List.getElem?_cons_succ]
 repeat (go_big_quiet_step (fail))
 refine wpQuiet_nil ?_
 clear rt0 ct0
 refine anyC_more [34] 24 (by kernel_rfl) ⟨Ex.mk _ (HX17.out.2.2), rfl⟩ ?_
 simp only [pick, List.getElem?_toArray, List.getElem?_cons_zero, List.getElem?_cons_succ]
 repeat (go_big_quiet_step (fail))
 refine wpQuiet_nil ?_
 refine' rest_once (fun W b c d e p => Ext [] w16 W ∧ RowAt W (.slice d 1 e) [(3, 0)] ∧ RowAt W (.slice (some ⟨p, 0, none⟩) 1 1) [(3, 0)]) _ (fun hrest => ?main) ?rest
 case main =>
  have HX18 := Lib.hid (⟨HX17.out.1, HX17.out.2.1, HX17.out.2.2, (Ext.refl [] w16)⟩ : _ ∧ _ ∧ _ ∧ _)
  refine anyC_twoG (f := 23) (i := 32) (j := 35) (by kernel_rfl) (by decide) (by decide) rfl rfl rfl rfl (fun K9 hK9 => ?_) (fun K9 hK9 => ?_)
  rotate_left
  ·skip
   go_wp2_with fail
   have hx : Ext [] w16 (w16.alloc (.cells #[.int .i64 3, .int .i64 0] 24)) := (Ext.refl [] w16).alloc _
   have hrl := row_lit [(3, 0)] (heap_alloc_at (w := w16) (.cells #[.int .i64 3, .int .i64 0] 24)) rfl
   refine hK9 _ _ ⟨Ex.mk _ ((HX18.out.2.2.1).trans hx), rfl⟩ ?_
   clear hK9 K9
   revert hrl
   generalize w16.heap.size = p35
   intro hrl
   have HX19 := Lib.hid (⟨(HX18.out.1).trans hx, (HX18.out.2.1).ext hx, (HX18.out.2.2.1).trans hx, (HX18.out.2.2.2).trans hx, hrl⟩ : _ ∧ _ ∧ _ ∧ _ ∧ _)
   clear hx hrl HX18
   refine anyC_oneG (f := 22) (i := 32) (by kernel_rfl) (by decide) rfl rfl (fun K9 hK9 => ?_)
   go_wp2_with fail
   refine (one_2 _).mono ?_
   rintro e w17 ⟨v17, a17, b17, d17, rfl, hx, hO⟩
   have HX20 := Lib.hid (⟨(HX19.out.1).trans hx, (HX19.out.2.1).ext hx, (HX19.out.2.2.1).trans hx, (HX19.out.2.2.2.1).trans hx, (HX19.out.2.2.2.2).ext hx, hO⟩ : _ ∧ _ ∧ _ ∧ _ ∧ _ ∧ _)
   clear  HX19
   obtain ⟨s17b, s17c, rfl⟩ : ∃ b c, v17 = .slice b 3 c := by
    obtain ⟨b, c, h, -⟩ := HX20.out.2.2.2.2.2
    exact ⟨b, c, h⟩
   clear hx hO
   go_wp2_with fail
   refine hK9 _ _ ⟨Ex.mk _ (HX20.out.2.2.1), rfl⟩ ?_
   clear hK9 K9
   refine anyC_oneG (f := 21) (i := 33) (by kernel_rfl) (by decide) rfl rfl (fun K9 hK9 => ?_)
   go_wp2_with fail
   refine (list_w2 _ a17 b17 d17 _ (HX20.out.2.2.2.2.2)).mono ?_
   rintro e w18 ⟨v18, rfl, hx, hN⟩
   have HX21 := Lib.hid (⟨(HX20.out.1).trans hx, (HX20.out.2.1).ext hx, (HX20.out.2.2.1).trans hx, (HX20.out.2.2.2.1).trans hx, (HX20.out.2.2.2.2.1).ext hx, hN⟩ : _ ∧ _ ∧ _ ∧ _ ∧ _ ∧ _)
   clear  HX20
   obtain ⟨s18b, s18c, rfl⟩ : ∃ b c, v18 = .slice b 1 c := by
    obtain ⟨b, c, h, -⟩ := HX21.out.2.2.2.2.2
    exact ⟨b, c, h⟩
   clear hx hN
   go_wp2_with fail
   refine hK9 _ _ ⟨Ex.mk _ (HX21.out.2.2.1), rfl⟩ ?_
   clear hK9 K9
   refine anyC_lst (l' := #[true, true, true, true, true, true, true, true, true, true, true, true, true, true, true, true, true, true, true, true, true, true, true, true, true, true, true, true, true, true, true, true, true, true, true, true, false, false, false, false, false, false, false, false, false, false, false, false, false, false, false, false, false, false, false, false, false, false, false, false, false, false, false, false, false, false, false, false, false, false, false, false, false, false, false]) (by kernel_rfl) ?_
   exact hrest w18 s17b s17c s18b s18c p35 ⟨HX21.out.2.2.2.1, HX21.out.2.2.2.2.2, HX21.out.2.2.2.2.1⟩
  ·skip
   go_wp2_with fail
   refine (one_2 _).mono ?_
   rintro e w17 ⟨v17, a17, b17, d17, rfl, hx, hO⟩
   have HX19 := Lib.hid (⟨(HX18.out.1).trans hx, (HX18.out.2.1).ext hx, (HX18.out.2.2.1).trans hx, (HX18.out.2.2.2).trans hx, hO⟩ : _ ∧ _ ∧ _ ∧ _ ∧ _)
   clear  HX18
   obtain ⟨s17b, s17c, rfl⟩ : ∃ b c, v17 = .slice b 3 c := by
    obtain ⟨b, c, h, -⟩ := HX19.out.2.2.2.2
    exact ⟨b, c, h⟩
   clear hx hO
   go_wp2_with fail
   refine hK9 _ _ ⟨Ex.mk _ (HX19.out.2.2.1), rfl⟩ ?_
   clear hK9 K9
   refine anyC_twoG (f := 22) (i := 33) (j := 35) (by kernel_rfl) (by decide) (by decide) rfl rfl rfl rfl (fun K9 hK9 => ?_) (fun K9 hK9 => ?_)
   ·skip
    go_wp2_with fail
    refine (list_w2 _ a17 b17 d17 _ (HX19.out.2.2.2.2)).mono ?_
    rintro e w18 ⟨v18, rfl, hx, hN⟩
    have HX20 := Lib.hid (⟨(HX19.out.1).trans hx, (HX19.out.2.1).ext hx, (HX19.out.2.2.1).trans hx, (HX19.out.2.2.2.1).trans hx, hN⟩ : _ ∧ _ ∧ _ ∧ _ ∧ _)
    clear  HX19
    obtain ⟨s18b, s18c, rfl⟩ : ∃ b c, v18 = .slice b 1 c := by
     obtain ⟨b, c, h, -⟩ := HX20.out.2.2.2.2
     exact ⟨b, c, h⟩
    clear hx hN
    go_wp2_with fail
    refine hK9 _ _ ⟨Ex.mk _ (HX20.out.2.2.1), rfl⟩ ?_
    clear hK9 K9
    refine anyC_oneG (f := 21) (i := 35) (by kernel_rfl) (by decide) rfl rfl (fun K9 hK9 => ?_)
    go_wp2_with fail
    have hx : Ext [] w18 (w18.alloc (.cells #[.int .i64 3, .int .i64 0] 24)) := (Ext.refl [] w18).alloc _
    have hrl := row_lit [(3, 0)] (heap_alloc_at (w := w18) (.cells #[.int .i64 3, .int .i64 0] 24)) rfl
    refine hK9 _ _ ⟨Ex.mk _ ((HX20.out.2.2.1).trans hx), rfl⟩ ?_
    clear hK9 K9
    have HX21 := Lib.hid (⟨(HX20.out.1).trans hx, (HX20.out.2.1).ext hx, (HX20.out.2.2.1).trans hx, (HX20.out.2.2.2.1).trans hx, (HX20.out.2.2.2.2).ext hx, hrl⟩ : _ ∧ _ ∧ _ ∧ _ ∧ _ ∧ _)
    clear hx hrl HX20
    refine anyC_lst (l' := #[true, true, true, true, true, true, true, true, true, true, true, true, true, true, true, true, true, true, true, true, true, true, true, true, true, true, true, true, true, true, true, true, true, true, true, true, false, false, false, false, false, false, false, false, false, false, false, false, false, false, false, false, false, false, false, false, false, false, false, false, false, false, false, false, false, false, false, false, false, false, false, false, false, false, false]) (by kernel_rfl) ?_
    exact hrest (w18.alloc (.cells #[.int .i64 3, .int .i64 0] 24)) s17b s17c s18b s18c w18.heap.size ⟨HX21.out.2.2.2.1, HX21.out.2.2.2.2.1, HX21.out.2.2.2.2.2⟩
   ·skip
    go_wp2_with fail
    have hx : Ext [] w17 (w17.alloc (.cells #[.int .i64 3, .int .i64 0] 24)) := (Ext.refl [] w17).alloc _
    have hrl := row_lit [(3, 0)] (heap_alloc_at (w := w17) (.cells #[.int .i64 3, .int .i64 0] 24)) rfl
    refine hK9 _ _ ⟨Ex.mk _ ((HX19.out.2.2.1).trans hx), rfl⟩ ?_
    clear hK9 K9
    have HX20 := Lib.hid (⟨(HX19.out.1).trans hx, (HX19.out.2.1).ext hx, (HX19.out.2.2.1).trans hx, (HX19.out.2.2.2.1).trans hx, (HX19.out.2.2.2.2).ext hx, hrl⟩ : _ ∧ _ ∧ _ ∧ _ ∧ _ ∧ _)
    clear hx hrl HX19
    refine anyC_oneG (f := 21) (i := 33) (by kernel_rfl) (by decide) rfl rfl (fun K9 hK9 => ?_)
    go_wp2_with fail
    refine (list_w2 _ a17 b17 d17 _ (HX20.out.2.2.2.2.1)).mono ?_
    rintro e w18 ⟨v18, rfl, hx, hN⟩
    have HX21 := Lib.hid (⟨(HX20.out.1).trans hx, (HX20.out.2.1).ext hx, (HX20.out.2.2.1).trans hx, (HX20.out.2.2.2.1).trans hx, (HX20.out.2.2.2.2.2).ext hx, hN⟩ : _ ∧ _ ∧ _ ∧ _ ∧ _ ∧ _)
    clear  HX20
    obtain ⟨s18b, s18c, rfl⟩ : ∃ b c, v18 = .slice b 1 c := by
     obtain ⟨b, c, h, -⟩ := HX21.out.2.2.2.2.2
     exact ⟨b, c, h⟩
    clear hx hN
    go_wp2_with fail
    refine hK9 _ _ ⟨Ex.mk _ (HX21.out.2.2.1), rfl⟩ ?_
    clear hK9 K9
    refine anyC_lst (l' := #[true, true, true, true, true, true, true, true, true, true, true, true, true, true, true, true, true, true, true, true, true, true, true, true, true, true, true, true, true, true, true, true, true, true, true, true, false, false, false, false, false, false, false, false, false, false, false, false, false, false, false, false, false, false, false, false, false, false, false, false, false, false, false, false, false, false, false, false, false, false, false, false, false, false, false]) (by kernel_rfl) ?_
    exact hrest w18 s17b s17c s18b s18c w17.heap.size ⟨HX21.out.2.2.2.1, HX21.out.2.2.2.2.2, HX21.out.2.2.2.2.1⟩
 case rest =>
  rintro W35 s17b s17c s18b s18c p35 ⟨hx, hli, hlit⟩
  have HX18 := Lib.hid (⟨(HX17.out.1).trans hx, (HX17.out.2.1).ext hx, (HX17.out.2.2).trans hx, hli, hlit⟩ : _ ∧ _ ∧ _ ∧ _ ∧ _)
  clear hx hli hlit HX17
  refine anyC_oneG (f := 20) (i := 36) (by kernel_rfl) (by decide) rfl rfl (fun K9 hK9 => ?_)
  go_wp2_with fail
  refine (sameR28_walk _ _ [(3, 0)] _ (HX18.out.2.2.2.1) (HX18.out.2.2.2.2) (by decide)).mono ?_
  rintro e w20 ⟨rfl, hx⟩
  have HX19 := Lib.hid (⟨(HX18.out.1).trans hx, (HX18.out.2.1).ext hx, (HX18.out.2.2.1).trans hx⟩ : _ ∧ _ ∧ _)
  clear hx HX18
  go_wp2_with fail
  refine hK9 _ _ ⟨Ex.mk _ (HX19.out.2.2), rfl⟩ ?_
  clear hK9 K9
  refine anyC_more [37, 38] 18 (by kernel_rfl) ⟨Ex.mk _ (HX19.out.2.2), rfl⟩ ?_
  simp only [pick, List.getElem?_toArray, List.getElem?_cons_zero, List.getElem?_cons_succ]
  repeat (go_big_quiet_step (fail))
  refine wpQuiet_nil ?_
  refine anyC_oneG (f := 17) (i := 39) (by kernel_rfl) (by decide) rfl rfl (fun K9 hK9 => ?_)
  go_wp2_with fail
  refine (one_1 _).mono ?_
  rintro e w21 ⟨v21, a21, b21, d21, rfl, hx, hO⟩
  have HX20 := Lib.hid (⟨(HX19.out.1).trans hx, (HX19.out.2.1).ext hx, (HX19.out.2.2).trans hx, hO⟩ : _ ∧ _ ∧ _ ∧ _)
  clear  HX19
  obtain ⟨s21b, s21c, rfl⟩ : ∃ b c, v21 = .slice b 3 c := by
   obtain ⟨b, c, h, -⟩ := HX20.out.2.2.2
   exact ⟨b, c, h⟩
  clear hx hO
  go_wp2_with fail
  refine hK9 _ _ ⟨Ex.mk _ (HX20.out.2.2.1), rfl⟩ ?_
  clear hK9 K9
  refine anyC_oneG (f := 16) (i := 40) (by kernel_rfl) (by decide) rfl rfl (fun K9 hK9 => ?_)
  go_wp2_with fail
  refine (orph_w1 _ a21 b21 d21 _ (HX20.out.2.2.2)).mono ?_
  rintro e w22 ⟨v22, rfl, hx, hN⟩
  obtain ⟨ob, oc, rfl⟩ : ∃ b c, v22 = .slice b 0 c := by
   obtain ⟨b, c, h, -⟩ := hN
   exact ⟨b, c, h⟩
  have HX21 := Lib.hid (⟨(HX20.out.1).trans hx, (HX20.out.2.1).ext hx, (HX20.out.2.2.1).trans hx⟩ : _ ∧ _ ∧ _)
  clear hx hN HX20
  go_wp2_with fail
  refine hK9 _ _ ⟨Ex.mk _ (HX21.out.2.2), rfl⟩ ?_
  clear hK9 K9
  refine anyC_more [41, 42, 43, 44, 45, 46, 47, 48, 49, 50, 51, 52, 53, 54, 55] 1 (by kernel_rfl) ⟨Ex.mk _ (HX21.out.2.2), rfl⟩ ?_
  simp only [pick, List.getElem?_toArray, List.getElem?_cons_zero, List.getElem?_cons_succ]
  repeat (go_big_quiet_step (fail))
  refine wpQuiet_nil ?_
  clear bi1 bi2
  refine anyC_oneG (f := 0) (i := 56) (by kernel_rfl) (by decide) rfl rfl (fun K9 hK9 => ?_)
  go_wp2_with fail
  have hx : Ext [] w22 (w22.alloc (.cells #[.int .i64 3, .int .i64 4, .int .i64 3, .int .i64 5, .int .i64 4, .int .i64 5, .int .i64 5, .int .i64 3] 47)) := (Ext.refl [] w22).alloc _
  have hrl := row_lit [(3, 4), (3, 5), (4, 5), (5, 3)] (heap_alloc_at (w := w22) (.cells #[.int .i64 3, .int .i64 4, .int .i64 3, .int .i64 5, .int .i64 4, .int .i64 5, .int .i64 5, .int .i64 3] 47)) rfl
  refine hK9 _ _ ⟨Ex.mk _ ((HX21.out.2.2).trans hx), rfl⟩ ?_
  clear hK9 K9
  refine ⟨by kernel_rfl, ?_⟩
  have HX22 := Lib.hid (⟨(HX21.out.1).trans hx, (HX21.out.2.1).ext hx, (HX21.out.2.2).trans hx, hrl⟩ : _ ∧ _ ∧ _ ∧ _)
  clear hx hrl HX21
  go_wp2_with fail
  refine (sameN28_walk _ _ [(3, 4), (3, 5), (4, 5), (5, 3)] _ (HX22.out.2.1) (HX22.out.2.2.2) (by decide)).mono ?_
  rintro e w24 ⟨rfl, hx⟩
  have HX23 := Lib.hid (⟨(HX22.out.1).trans hx, (HX22.out.2.2.1).trans hx⟩ : _ ∧ _)
  clear hx HX22
  go_wp2_with fail
  refine (one_1 _).mono ?_
  rintro e w25 ⟨v25, aw25, bw25, dw25, rfl, hx, hO⟩
  have HX24 := Lib.hid (⟨(HX23.out.1).trans hx, (HX23.out.2).trans hx, hO⟩ : _ ∧ _ ∧ _)
  clear  HX23
  obtain ⟨sw25b, sw25c, rfl⟩ : ∃ b c, v25 = .slice b 3 c := by
   obtain ⟨b, c, h, -⟩ := HX24.out.2.2
   exact ⟨b, c, h⟩
  clear hx hO
  obtain ⟨og, oo, rfl, hA⟩ := oms_at (HX24.out.2.2) 2 (by show 2 < 3; omega)
  have g0 : w25.cell? ⟨og, oo + 10, none⟩ = some (.int .i64 3) := hA.num
  have g1 : w25.cell? ⟨og, oo + 10 + 1, none⟩ = some (.int .i64 0) := hA.gen
  have g2 : w25.cell? ⟨og, oo + 10 + 2, none⟩ = some dw25 := hA.tv
  have g3 : w25.cell? ⟨og, oo + 10 + 3, none⟩ = some (.bool false) := hA.stream
  have g4 : w25.cell? ⟨og, oo + 10 + 4, none⟩ = some (.string ⟨#[]⟩) := hA.data
  have hNd : NodesAt w25 dw25 (lC) := hA.nodes
  obtain ⟨tb0, tc0, hq0⟩ : ∃ b c, dw25 = .slice b 5 c := by
   obtain ⟨b, c, h, -⟩ := hNd
   exact ⟨b, c, h⟩
  rw [hq0] at g2 hNd
  have hP := page_walk ⟨3, 0, .slice tb0 5 tc0, false, ⟨#[]⟩, lC⟩ w25 hNd (lt_lC)
  rw [page_3] at hP
  have HP := Lib.hid hP
  clear hA hNd hP hq0
  go_wp2_with fail
  refine HP.out.mono ?_
  rintro e w25b ⟨rfl, hx⟩
  have HX25 := Lib.hid (⟨(HX24.out.1).trans hx, (HX24.out.2.1).trans hx⟩ : _ ∧ _)
  clear hx g0 g1 g2 g3 g4 HP HX24
  go_wp2_with fail
  refine (one_1 _).mono ?_
  rintro e w27 ⟨v27, aw27, bw27, dw27, rfl, hx, hO⟩
  have HX26 := Lib.hid (⟨(HX25.out.1).trans hx, (HX25.out.2).trans hx, hO⟩ : _ ∧ _ ∧ _)
  clear  HX25
  obtain ⟨sw27b, sw27c, rfl⟩ : ∃ b c, v27 = .slice b 3 c := by
   obtain ⟨b, c, h, -⟩ := HX26.out.2.2
   exact ⟨b, c, h⟩
  clear hx hO
  obtain ⟨og, oo, rfl, hA⟩ := oms_at (HX26.out.2.2) 1 (by show 1 < 3; omega)
  have g0 : w27.cell? ⟨og, oo + 5, none⟩ = some (.int .i64 2) := hA.num
  have g1 : w27.cell? ⟨og, oo + 5 + 1, none⟩ = some (.int .i64 0) := hA.gen
  have g2 : w27.cell? ⟨og, oo + 5 + 2, none⟩ = some bw27 := hA.tv
  have g3 : w27.cell? ⟨og, oo + 5 + 3, none⟩ = some (.bool false) := hA.stream
  have g4 : w27.cell? ⟨og, oo + 5 + 4, none⟩ = some (.string ⟨#[]⟩) := hA.data
  have hNd : NodesAt w27 bw27 (lB 1) := hA.nodes
  obtain ⟨tb1, tc1, hq1⟩ : ∃ b c, bw27 = .slice b 10 c := by
   obtain ⟨b, c, h, -⟩ := hNd
   exact ⟨b, c, h⟩
  rw [hq1] at g2 hNd
  have hP := page_walk ⟨2, 0, .slice tb1 10 tc1, false, ⟨#[]⟩, lB 1⟩ w27 hNd (lt_lB 1)
  rw [page_2] at hP
  have HP := Lib.hid hP
  clear hA hNd hP hq1
  go_wp2_with fail
  refine HP.out.mono ?_
  rintro e w27b ⟨rfl, hx⟩
  have HX27 := Lib.hid (⟨(HX26.out.1).trans hx, (HX26.out.2.1).trans hx⟩ : _ ∧ _)
  clear hx g0 g1 g2 g3 g4 HP HX26
  go_wp2_with fail
  refine NoPanic.normal ?_
  go_wp2_with fail
  go_ret
  exact ⟨rfl, HX27.out.1⟩
end Go.Proofs.YtljachhmdogkdaaGreatDoor.Pg
namespace Go.Proofs.YtljachhmdogkdaaGreatDoor
open Go.RowKit
theorem Ext.below {w w' : World} (h : Ext [] w w') : Below w.heap.size w w' := ⟨h.os, h.tape, h.output, h.size, fun k hk => h.block k hk (by simp)⟩
end Go.Proofs.YtljachhmdogkdaaGreatDoor
