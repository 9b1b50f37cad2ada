/-
  law17.TreeCalls walked (wip/mktun.py).
-/
import Derived.Test.YtkjcjklnclahdaaGreatDoorTuM
import Derived.Test.YtkjcjklnclahdaaGreatDoorTsG
import Derived.Lib.SmallJoins
namespace Go.Proofs.YtkjcjklnclahdaaGreatDoor.Tr
open Go.RowKit

set_option maxRecDepth 100000 in
set_option maxHeartbeats 4000000 in
theorem calls17_law (u v : Value) (l t : List Nd) (xv : Value) (x : Nd) (at_ : Int) (nm : ByteArray) (w : World) (hu : NodeArg w u l) (hv : NodeArg w v t) (hx : NdArg w xv x) (hnm : nm.size ≤ 9223372036854775807) :
    Calls Tryz.prog 3 #[u, v, xv, .int .i64 at_, .string nm] w fun e w' => e = .returned (.bool true) ∧ Ext [] w w' := by
  obtain ⟨hu, hul⟩ := hu
  obtain ⟨hv, hvl⟩ := hv
  obtain ⟨kb, kc, rfl, xw, xI⟩ := hx
  have H1 := Lib.hid lives_walk
  have L1 := Lib.hid (fun W (hx : Ext [] w W) => light_walk u l 300 W (hu.ext hx) hul)
  have L2 := Lib.hid (fun W (hx : Ext [] w W) => light_walk v t 300 W (hv.ext hx) hvl)
  have L3 := Lib.hid (fun W (hx : Ext [] w W) => light_walk _ [x] 300 (W.alloc (.cells #[.int .i64 x.kind, .int .i64 x.n, .int .i64 x.gen, .string x.s, .slice kb x.kids.length kc] 25)) (node_alone (heap_alloc_at (w := W) _) xw (xI.ext (hx.trans ((Ext.refl [] W).alloc _)))) (by simp))
  have EW := Lib.hid (fun W (h : Ext [] (w.alloc (nbox x (.slice kb x.kids.length kc))) W) => ((Ext.refl [] w).alloc (nbox x (.slice kb x.kids.length kc))).trans h)
  have HB := Lib.hid (heap_alloc_at (w := w) (nbox x (.slice kb x.kids.length kc)))
  have hu0 := Lib.hid hu
  have hv0 := Lib.hid hv
  obtain ⟨ub, uc, rfl, -, -⟩ := hu
  obtain ⟨vb, vc, rfl, -, -⟩ := hv
  obtain ⟨n, hn⟩ : ∃ n, l.length = n := ⟨_, rfl⟩
  obtain ⟨m, hm⟩ : ∃ m, t.length = m := ⟨_, rfl⟩
  have HNM := Lib.hid (⟨hn, hm⟩ : _ ∧ _)
  obtain ⟨b1, hb1⟩ : ∃ b1, lightL l 300 = b1 := ⟨_, rfl⟩
  obtain ⟨b2, hb2⟩ : ∃ b2, lightL t 300 = b2 := ⟨_, rfl⟩
  obtain ⟨b3, hb3⟩ : ∃ b3, lightL [x] 300 = b3 := ⟨_, rfl⟩
  rw [hn] at L1 hul hu0 ⊢
  rw [hm] at L2 hvl hv0 ⊢
  rw [hb1] at L1
  rw [hb2] at L2
  rw [hb3] at L3
  cases b1 with
  | false =>
    clear hb1 hb2 hb3 hn hm xI xw
    go_enter Tryz.func3, Tryz.ntmps3
    go_wp2_with fail
    refine (H1.out _).mono ?_
    rintro e w1 ⟨rfl, hx1⟩
    have X1 := Lib.hid hx1
    have hb := hx1.keep HB.out (by simp)
    have d0 := cellOf hb 0
    have d1 := cellOf hb 1
    have d2 := cellOf hb 2
    have d3 := cellOf hb 3
    have d4 := cellOf hb 4
    clear hx1 hb
    go_wp2_with fail
    refine (L1.out w1 (EW.out _ X1.out)).mono ?_
    rintro e w2 ⟨rfl, rfl⟩
    go_wp2_with fail
    go_ret
    exact ⟨rfl, EW.out _ X1.out⟩
  | true =>
  cases b2 with
  | false =>
    clear hb1 hb2 hb3 hn hm xI xw
    go_enter Tryz.func3, Tryz.ntmps3
    go_wp2_with fail
    refine (H1.out _).mono ?_
    rintro e w1 ⟨rfl, hx1⟩
    have X1 := Lib.hid hx1
    have hb := hx1.keep HB.out (by simp)
    have d0 := cellOf hb 0
    have d1 := cellOf hb 1
    have d2 := cellOf hb 2
    have d3 := cellOf hb 3
    have d4 := cellOf hb 4
    clear hx1 hb
    go_wp2_with fail
    refine (L1.out w1 (EW.out _ X1.out)).mono ?_
    rintro e w2 ⟨rfl, rfl⟩
    go_wp2_with fail
    refine (L2.out w1 (EW.out _ X1.out)).mono ?_
    rintro e w2 ⟨rfl, rfl⟩
    go_wp2_with fail
    go_ret
    exact ⟨rfl, EW.out _ X1.out⟩
  | true =>
  cases b3 with
  | false =>
    clear hb1 hb2 hb3 hn hm xI xw
    go_enter Tryz.func3, Tryz.ntmps3
    go_wp2_with fail
    refine (H1.out _).mono ?_
    rintro e w1 ⟨rfl, hx1⟩
    have X1 := Lib.hid hx1
    have hb := hx1.keep HB.out (by simp)
    have d0 := cellOf hb 0
    have d1 := cellOf hb 1
    have d2 := cellOf hb 2
    have d3 := cellOf hb 3
    have d4 := cellOf hb 4
    clear hx1 hb
    go_wp2_with fail
    refine (L1.out w1 (EW.out _ X1.out)).mono ?_
    rintro e w2 ⟨rfl, rfl⟩
    go_wp2_with fail
    refine (L2.out w1 (EW.out _ X1.out)).mono ?_
    rintro e w2 ⟨rfl, rfl⟩
    go_wp2_with fail
    refine (L3.out w1 (EW.out _ X1.out)).mono ?_
    rintro e w2 ⟨rfl, rfl⟩
    go_wp2_with fail
    go_ret
    exact ⟨rfl, EW.out _ (X1.out.alloc _)⟩
  | true =>
  by_cases hn3 : 300 < nm.size
  · have hn3z : (300 : Int) < (nm.size : Int) := by omega
    clear hb1 hb2 hb3 hn hm xI xw hn3
    go_enter Tryz.func3, Tryz.ntmps3
    go_wp2_with fail
    refine (H1.out _).mono ?_
    rintro e w1 ⟨rfl, hx1⟩
    have X1 := Lib.hid hx1
    have hb := hx1.keep HB.out (by simp)
    have d0 := cellOf hb 0
    have d1 := cellOf hb 1
    have d2 := cellOf hb 2
    have d3 := cellOf hb 3
    have d4 := cellOf hb 4
    clear hx1 hb
    go_wp2_with fail
    refine (L1.out w1 (EW.out _ X1.out)).mono ?_
    rintro e w2 ⟨rfl, rfl⟩
    go_wp2_with fail
    refine (L2.out w1 (EW.out _ X1.out)).mono ?_
    rintro e w2 ⟨rfl, rfl⟩
    go_wp2_with fail
    refine (L3.out w1 (EW.out _ X1.out)).mono ?_
    rintro e w2 ⟨rfl, rfl⟩
    go_wp2_with fail
    go_ret
    exact ⟨rfl, EW.out _ (X1.out.alloc _)⟩
  have hn3z : ¬ (300 : Int) < (nm.size : Int) := by omega
  obtain ⟨l1, l2⟩ := light_facts hb1
  obtain ⟨t1, t2⟩ := light_facts hb2
  obtain ⟨-, x2⟩ := light_facts hb3
  have x2 := x2 x (by simp)
  have hLl : Lt l := ⟨by omega, fun y hy => by have := l2 y hy; omega⟩
  have hLt : Lt t := ⟨by omega, fun y hy => by have := t2 y hy; omega⟩
  have he := ents_count (fun y hy => (l2 y hy).1) nm
  have K1 := Lib.hid (fun W => one_walk x xw (by omega) kb kc W)
  have K2 := Lib.hid (fun W (hx : Ext [] w W) => one17_walk x xw (by omega) (by omega) kb kc W (xI.ext hx))
  have K3 := Lib.hid (fun W (hx : Ext [] w W) => get_walk _ l nm W (hu0.out.ext hx) hLl)
  have K4 := Lib.hid (fun W (hx : Ext [] w W) => get17_walk _ l nm W (hu0.out.ext hx) hLl)
  have K5 := Lib.hid (fun W (hx : Ext [] w W) => ownT_walk _ l W (hu0.out.ext hx) (by omega) (fun y hy => by have := l2 y hy; omega))
  have K6 := Lib.hid (fun W (hx : Ext [] w W) o (ho : NodesAt W o l) => set2_walk o _ l t nm W ho (hv0.out.ext hx) hLl hLt (by omega) he)
  have K7 := Lib.hid (fun W (hx : Ext [] w W) => set17_walk _ _ l t nm W (hu0.out.ext hx) (hv0.out.ext hx) hLl hLt (by omega) he)
  have K8 := Lib.hid (fun W (hx : Ext [] w W) => items_walk _ l W (hu0.out.ext hx) hLl)
  have K9 := Lib.hid (fun W (hx : Ext [] w W) => items17_walk _ l W (hu0.out.ext hx) hLl)
  have M1 := Lib.hid (fun W (hx : Ext [] w W) => check_walk _ l W (hu0.out.ext hx) hLl.len hLl.s)
  have M2 := Lib.hid (fun W (hx : Ext [] w W) => check17_walk _ l W (hu0.out.ext hx) hLl.len hLl.s)
  have M3 := Lib.hid (fun W (hx : Ext [] w W) => end_walk _ l at_ W (hu0.out.ext hx) hLl)
  have M4 := Lib.hid (fun W (hx : Ext [] w W) => end17_walk _ l at_ W (hu0.out.ext hx) hLl)
  have M5 := Lib.hid (fun W (hx : Ext [] w W) => subX_walk _ l at_ W (hu0.out.ext hx) hLl)
  have M6 := Lib.hid (fun W (hx : Ext [] w W) => sub17_walk _ l at_ W (hu0.out.ext hx) hLl)
  have M7 := Lib.hid (fun W (hx : Ext [] w W) => depth_walk _ l W (hu0.out.ext hx) hLl)
  have M8 := Lib.hid (fun W (hx : Ext [] w W) => depth17_walk _ l W (hu0.out.ext hx) hLl)
  have M9 := Lib.hid (fun W (hx : Ext [] w W) => names_walk _ l W (hu0.out.ext hx) hLl)
  have N1 := Lib.hid (fun W (hx : Ext [] w W) => names17_walk _ l W (hu0.out.ext hx) hLl)
  have N2 := Lib.hid (fun W (hx : Ext [] w W) => drop2_walk _ l nm W (hu0.out.ext hx) hLl he)
  have N3 := Lib.hid (fun W (hx : Ext [] w W) => drop17_walk _ l nm W (hu0.out.ext hx) hLl he)
  have N4 := Lib.hid (fun W (hx : Ext [] w W) => refs_walk _ l W (hu0.out.ext hx) hLl)
  have N5 := Lib.hid (fun W (hx : Ext [] w W) => refs17_walk _ l W (hu0.out.ext hx) hLl)
  have N6 := Lib.hid (fun W (hx : Ext [] w W) => tsame_walk _ _ l t W (hu0.out.ext hx) (hv0.out.ext hx) (by omega) (by omega))
  have N7 := Lib.hid (fun W (hx : Ext [] w W) => lsame_walk _ _ l t W (hu0.out.ext hx) (hv0.out.ext hx) (by omega) (by omega))
  have N8 := Lib.hid (fun W (hx : Ext [] w W) o (ho : NodesAt W o l) => tsame_walk _ o l l W (hu0.out.ext hx) ho (by omega) (by omega))
  rw [(sameL_iff l l).2 rfl] at N8
  have z1 := oneN_len x
  have z2 := getN_len l nm
  have z3 := setN_len l nm t
  have z4 := items_count (fun y hy => (l2 y hy).1)
  have z5 : ∀ y ∈ itemsN l, y.length ≤ 300 := fun y hy => by have := items_each hy; omega
  have z6 := subXN_len l at_
  have z7 := names_small l
  have z8 := dropN_len l1 nm
  have z9 := refs_count l1
  have hl300 := Lib.hid l1
  clear l2 t2 x2 hLl hLt he xw xI hb1 hb2 hb3 hn hm hn3 t1
  obtain ⟨AA, hA⟩ : ∃ A, oneN x = A := ⟨_, rfl⟩
  rw [hA] at K1 K2 z1
  obtain ⟨A1, A2⟩ := AA
  obtain ⟨G1, hG1⟩ : ∃ G, (getN l nm).isSome = G := ⟨_, rfl⟩
  obtain ⟨G2, hG2⟩ : ∃ G, (getN l nm).getD [] = G := ⟨_, rfl⟩
  rw [hG1, hG2] at K3 K4
  rw [hG2] at z2
  obtain ⟨SS, hS⟩ : ∃ S, setN l nm t = S := ⟨_, rfl⟩
  rw [hS] at K6 K7 z3
  obtain ⟨S1, S2⟩ := SS
  obtain ⟨IT, hIT⟩ : ∃ I, itemsN l = I := ⟨_, rfl⟩
  rw [hIT] at K8 K9 z4 z5
  obtain ⟨c1, hc1⟩ : ∃ c, checkN l = c := ⟨_, rfl⟩
  rw [hc1] at M1 M2
  obtain ⟨c2, hc2⟩ : ∃ c, endN l at_ = c := ⟨_, rfl⟩
  rw [hc2] at M3 M4
  obtain ⟨c3, hc3⟩ : ∃ c, subXN l at_ = c := ⟨_, rfl⟩
  rw [hc3] at M5 M6 z6
  obtain ⟨c4, hc4⟩ : ∃ c, depthN l = c := ⟨_, rfl⟩
  rw [hc4] at M7 M8
  obtain ⟨c5, hc5⟩ : ∃ c, namesN l = c := ⟨_, rfl⟩
  rw [hc5] at M9 N1 z7
  obtain ⟨c6, hc6⟩ : ∃ c, dropN l nm = c := ⟨_, rfl⟩
  rw [hc6] at N2 N3 z8
  obtain ⟨c7, hc7⟩ : ∃ c, refsN l = c := ⟨_, rfl⟩
  rw [hc7] at N4 N5 z9
  obtain ⟨c8, hc8⟩ : ∃ c, sameL l t = c := ⟨_, rfl⟩
  rw [hc8] at N6 N7
  clear hA hG1 hG2 hS hIT hc1 hc2 hc3 hc4 hc5 hc6 hc7 hc8
  simp only at K1 K2 K6 K7 z1 z3
  have HZ := Lib.hid (⟨z1, z2, z3, z5, z6, z7, z8, z9⟩ : _ ∧ _ ∧ _ ∧ _ ∧ _ ∧ _ ∧ _ ∧ _)
  clear z1 z2 z3 z5 z6 z7 z8 z9 l1
  have e1 : (A2 != A2) = false := bne_self_eq_false _
  have e2 : (G1 != G1) = false := bne_self_eq_false _
  have e3 : (S2 != S2) = false := bne_self_eq_false _
  have e4 : (c1 == c1) = true := beq_self_eq_true _
  have e5 : (c2 == c2) = true := beq_self_eq_true _
  have e6 : (c4 == c4) = true := beq_self_eq_true _
  have e7 : (c8 == c8) = true := beq_self_eq_true _
  go_enter Tryz.func3, Tryz.ntmps3
  go_wp2_with fail
  refine (H1.out _).mono ?_
  rintro e w1 ⟨rfl, hx1⟩
  have X1 := Lib.hid hx1
  have hb := hx1.keep HB.out (by simp)
  have d0 := cellOf hb 0
  have d1 := cellOf hb 1
  have d2 := cellOf hb 2
  have d3 := cellOf hb 3
  have d4 := cellOf hb 4
  clear hx1 hb
  go_wp2_with fail
  refine (L1.out w1 (EW.out _ X1.out)).mono ?_
  rintro e w2 ⟨rfl, rfl⟩
  go_wp2_with fail
  refine (L2.out w1 (EW.out _ X1.out)).mono ?_
  rintro e w2 ⟨rfl, rfl⟩
  go_wp2_with fail
  refine (L3.out w1 (EW.out _ X1.out)).mono ?_
  rintro e w2 ⟨rfl, rfl⟩
  have X2 := Lib.hid (X1.out.alloc (.cells #[.int .i64 x.kind, .int .i64 x.n, .int .i64 x.gen, .string x.s, .slice kb x.kids.length kc] 25))
  clear X1
  clear d0 d1 d2 d3 d4
  obtain ⟨W2, hW2⟩ : ∃ W2, w1.alloc (Obj.cells #[.int .i64 x.kind, .int .i64 x.n, .int .i64 x.gen, .string x.s, .slice kb x.kids.length kc] 25) = W2 := ⟨_, rfl⟩
  rw [hW2] at X2 ⊢
  clear hW2
  have Y1 := Lib.hid (⟨X2.out, trivial⟩ : _ ∧ _)
  clear X2
  have hb := Y1.out.1.keep HB.out (by simp)
  have d0 := cellOf hb 0
  have d1 := cellOf hb 1
  have d2 := cellOf hb 2
  have d3 := cellOf hb 3
  have d4 := cellOf hb 4
  clear hb
  go_wp2_with fail
  refine (K1.out _).mono ?_
  rintro e v2 ⟨r2, rfl, hx, hN⟩
  have Y2 := Lib.hid (⟨Y1.out.1.trans hx, hN, trivial⟩ : _ ∧ _ ∧ _)
  clear hx hN Y1
  obtain ⟨rb2, rc2, rfl, -, -⟩ := id (Y2.out.2.1)
  clear d0 d1 d2 d3 d4
  have hb := Y2.out.1.keep HB.out (by simp)
  have d0 := cellOf hb 0
  have d1 := cellOf hb 1
  have d2 := cellOf hb 2
  have d3 := cellOf hb 3
  have d4 := cellOf hb 4
  clear hb
  go_wp2_with fail
  refine (K2.out _ (EW.out _ Y2.out.1)).mono ?_
  rintro e v3 ⟨r3, rfl, hx, hN⟩
  have Y3 := Lib.hid (⟨Y2.out.1.trans hx, (Y2.out.2.1).ext hx, hN, trivial⟩ : _ ∧ _ ∧ _ ∧ _)
  clear hx hN Y2
  obtain ⟨rb3, rc3, rfl, -, -⟩ := id (Y3.out.2.2.1)
  clear d0 d1 d2 d3 d4
  go_wp2_with fail
  refine (K3.out _ (EW.out _ Y3.out.1)).mono ?_
  rintro e v4 ⟨r4, rfl, hx, hN⟩
  have Y4 := Lib.hid (⟨Y3.out.1.trans hx, (Y3.out.2.1).ext hx, (Y3.out.2.2.1).ext hx, hN, trivial⟩ : _ ∧ _ ∧ _ ∧ _ ∧ _)
  clear hx hN Y3
  obtain ⟨rb4, rc4, rfl, -, -⟩ := id (Y4.out.2.2.2.1)
  go_wp2_with fail
  refine (K4.out _ (EW.out _ Y4.out.1)).mono ?_
  rintro e v5 ⟨r5, rfl, hx, hN⟩
  have Y5 := Lib.hid (⟨Y4.out.1.trans hx, (Y4.out.2.1).ext hx, (Y4.out.2.2.1).ext hx, (Y4.out.2.2.2.1).ext hx, hN, trivial⟩ : _ ∧ _ ∧ _ ∧ _ ∧ _ ∧ _)
  clear hx hN Y4
  obtain ⟨rb5, rc5, rfl, -, -⟩ := id (Y5.out.2.2.2.2.1)
  go_wp2_with fail
  refine (K5.out _ (EW.out _ Y5.out.1)).mono ?_
  rintro e v6 ⟨r6, rfl, hx, hN⟩
  have Y6 := Lib.hid (⟨Y5.out.1.trans hx, (Y5.out.2.1).ext hx, (Y5.out.2.2.1).ext hx, (Y5.out.2.2.2.1).ext hx, (Y5.out.2.2.2.2.1).ext hx, hN, trivial⟩ : _ ∧ _ ∧ _ ∧ _ ∧ _ ∧ _ ∧ _)
  clear hx hN Y5
  obtain ⟨rb6, rc6, rfl, -, -⟩ := id (Y6.out.2.2.2.2.2.1)
  go_wp2_with fail
  refine (K6.out _ (EW.out _ Y6.out.1) _ (Y6.out.2.2.2.2.2.1)).mono ?_
  rintro e v7 ⟨r7, rfl, hx, hN⟩
  have Y7 := Lib.hid (⟨Y6.out.1.trans hx, (Y6.out.2.1).ext hx, (Y6.out.2.2.1).ext hx, (Y6.out.2.2.2.1).ext hx, (Y6.out.2.2.2.2.1).ext hx, hN, trivial⟩ : _ ∧ _ ∧ _ ∧ _ ∧ _ ∧ _ ∧ _)
  clear hx hN Y6
  obtain ⟨rb7, rc7, rfl, -, -⟩ := id (Y7.out.2.2.2.2.2.1)
  go_wp2_with fail
  refine (K7.out _ (EW.out _ Y7.out.1)).mono ?_
  rintro e v8 ⟨r8, rfl, hx, hN⟩
  have Y8 := Lib.hid (⟨Y7.out.1.trans hx, (Y7.out.2.1).ext hx, (Y7.out.2.2.1).ext hx, (Y7.out.2.2.2.1).ext hx, (Y7.out.2.2.2.2.1).ext hx, (Y7.out.2.2.2.2.2.1).ext hx, hN, trivial⟩ : _ ∧ _ ∧ _ ∧ _ ∧ _ ∧ _ ∧ _ ∧ _)
  clear hx hN Y7
  obtain ⟨rb8, rc8, rfl, -, -⟩ := id (Y8.out.2.2.2.2.2.2.1)
  go_wp2_with fail
  refine (K8.out _ (EW.out _ Y8.out.1)).mono ?_
  rintro e v9 ⟨r9, rfl, hx, hN⟩
  have Y9 := Lib.hid (⟨Y8.out.1.trans hx, (Y8.out.2.1).ext hx, (Y8.out.2.2.1).ext hx, (Y8.out.2.2.2.1).ext hx, (Y8.out.2.2.2.2.1).ext hx, (Y8.out.2.2.2.2.2.1).ext hx, (Y8.out.2.2.2.2.2.2.1).ext hx, hN, trivial⟩ : _ ∧ _ ∧ _ ∧ _ ∧ _ ∧ _ ∧ _ ∧ _ ∧ _)
  clear hx hN Y8
  obtain ⟨rb9, rc9, rfl, -, -⟩ := id (Y9.out.2.2.2.2.2.2.2.1)
  go_wp2_with fail
  refine (K9.out _ (EW.out _ Y9.out.1)).mono ?_
  rintro e v10 ⟨r10, rfl, hx, hN⟩
  have Y10 := Lib.hid (⟨Y9.out.1.trans hx, (Y9.out.2.1).ext hx, (Y9.out.2.2.1).ext hx, (Y9.out.2.2.2.1).ext hx, (Y9.out.2.2.2.2.1).ext hx, (Y9.out.2.2.2.2.2.1).ext hx, (Y9.out.2.2.2.2.2.2.1).ext hx, (Y9.out.2.2.2.2.2.2.2.1).ext hx, hN, trivial⟩ : _ ∧ _ ∧ _ ∧ _ ∧ _ ∧ _ ∧ _ ∧ _ ∧ _ ∧ _)
  clear hx hN Y9
  obtain ⟨rb10, rc10, rfl, -, -⟩ := id (Y10.out.2.2.2.2.2.2.2.2.1)
  go_wp2_with fail
  refine (same_true _ _ _ _ (Y10.out.2.1) (Y10.out.2.2.1) (by have := HZ.out.1; have := hl300.out; omega)).mono ?_
  rintro e v11 ⟨rfl, hx⟩
  have Y11 := Lib.hid (⟨Y10.out.1.trans hx, (Y10.out.2.2.2.1).ext hx, (Y10.out.2.2.2.2.1).ext hx, (Y10.out.2.2.2.2.2.1).ext hx, (Y10.out.2.2.2.2.2.2.1).ext hx, (Y10.out.2.2.2.2.2.2.2.1).ext hx, (Y10.out.2.2.2.2.2.2.2.2.1).ext hx, trivial⟩ : _ ∧ _ ∧ _ ∧ _ ∧ _ ∧ _ ∧ _ ∧ _)
  clear hx  Y10
  go_wp2_with fail
  refine (same_true _ _ _ _ (Y11.out.2.1) (Y11.out.2.2.1) (by have := HZ.out.2.1; have := hl300.out; omega)).mono ?_
  rintro e v12 ⟨rfl, hx⟩
  have Y12 := Lib.hid (⟨Y11.out.1.trans hx, (Y11.out.2.2.2.1).ext hx, (Y11.out.2.2.2.2.1).ext hx, (Y11.out.2.2.2.2.2.1).ext hx, (Y11.out.2.2.2.2.2.2.1).ext hx, trivial⟩ : _ ∧ _ ∧ _ ∧ _ ∧ _ ∧ _)
  clear hx  Y11
  go_wp2_with fail
  refine (same_true _ _ _ _ (Y12.out.2.1) (Y12.out.2.2.1) (by have := HZ.out.2.2.1; have := hl300.out; omega)).mono ?_
  rintro e v13 ⟨rfl, hx⟩
  have Y13 := Lib.hid (⟨Y12.out.1.trans hx, (Y12.out.2.2.2.1).ext hx, (Y12.out.2.2.2.2.1).ext hx, trivial⟩ : _ ∧ _ ∧ _ ∧ _)
  clear hx  Y12
  obtain ⟨IL, hIL⟩ : ∃ IL, IT.length = IL := ⟨_, rfl⟩
  have HIL := Lib.hid hIL
  rw [hIL] at z4 ⊢
  clear hIL
  have e8 : ((IL : Int) != (IL : Int)) = false := bne_self_eq_false _
  go_wp2_with fail
  clear e8 e1 e2 e3
  go_loopg [25] IL (fun g iv wr => ∃ i : Nat, g + i = IL ∧ iv = .int .i64 i ∧ Ext [] v13 wr)
  case atStart => exact ⟨0, by omega, rfl, Ext.refl _ _⟩
  case round =>
    obtain ⟨i, hgi, rfl, hxr⟩ := hrel
    by_cases hlt : i < IL
    case pos =>
      obtain ⟨g, rfl⟩ : ∃ g, gk = g + 1 := ⟨gk - 1, by omega⟩
      have hltz : (i : Int) < (IL : Int) := by omega
      have hil : i < IT.length := by rw [HIL.out]; exact hlt
      have hp := Y13.out.2.1
      have hq := Y13.out.2.2.1
      obtain ⟨pb, pc, ep, -, hp⟩ := hp
      obtain ⟨qb, qc, eq, -, hq⟩ := hq
      cases ep
      cases eq
      obtain ⟨b1, o1, vi, rfl, ci, hNi⟩ := hp i hil
      obtain ⟨b2, o2, vj, rfl, cj, hNj⟩ := hq i hil
      have g1 : ∀ y : Ex wr, y.w.cell? ⟨b1, o1 + i, none⟩ = some vi := fun y => (hxr.trans y.ext).cell ci
      have g2 : ∀ y : Ex wr, y.w.cell? ⟨b2, o2 + i, none⟩ = some vj := fun y => (hxr.trans y.ext).cell cj
      have hyl := HZ.out.2.2.2.1 _ (List.getElem_mem hil)
      have HSM := Lib.hid (fun y : Ex wr => same_true vi vj _ y.w (hNi.ext (hxr.trans y.ext)) (hNj.ext (hxr.trans y.ext)) (by omega))
      have HXR := Lib.hid hxr
      clear hp hq ci cj hNi hNj hyl hxr
      go_upto_region 17 with (fail)
      refine wp_region_ext (by kernel_rfl) (by kernel_rfl) ?_
      repeat (go_big_quiet_step (first | (go_at_call 15; refine Calls.ext_of (HSM.out _))))
      refine wpQuiet_nil ?_
      rintro _ ⟨y, rfl⟩
      clear g1 g2 HSM
      have HXR2 := Lib.hid (HXR.out.trans y.ext)
      go_wp2_with fail
      go_roundg g
      case measure => omega
      case rel => exact ⟨i + 1, by omega, by go_num, HXR2.out⟩
    case neg =>
      obtain rfl : gk = 0 := by omega
      have hltz : ¬ (i : Int) < (IL : Int) := by omega
      have Y14 := Lib.hid (⟨Y13.out.1.trans hxr, trivial⟩ : _ ∧ _)
      clear hxr Y13
      go_wp2_with fail
      refine (M1.out _ (EW.out _ Y14.out.1)).mono ?_
      rintro e v15 ⟨rfl, hx⟩
      have Y15 := Lib.hid (⟨Y14.out.1.trans hx, trivial⟩ : _ ∧ _)
      clear hx  Y14
      go_wp2_with fail
      refine (M2.out _ (EW.out _ Y15.out.1)).mono ?_
      rintro e v16 ⟨rfl, hx⟩
      have Y16 := Lib.hid (⟨Y15.out.1.trans hx, trivial⟩ : _ ∧ _)
      clear hx  Y15
      go_wp2_with fail
      refine (M3.out _ (EW.out _ Y16.out.1)).mono ?_
      rintro e v17 ⟨rfl, hx⟩
      have Y17 := Lib.hid (⟨Y16.out.1.trans hx, trivial⟩ : _ ∧ _)
      clear hx  Y16
      go_wp2_with fail
      refine (M4.out _ (EW.out _ Y17.out.1)).mono ?_
      rintro e v18 ⟨rfl, hx⟩
      have Y18 := Lib.hid (⟨Y17.out.1.trans hx, trivial⟩ : _ ∧ _)
      clear hx  Y17
      go_wp2_with fail
      refine (M5.out _ (EW.out _ Y18.out.1)).mono ?_
      rintro e v19 ⟨r19, rfl, hx, hN⟩
      have Y19 := Lib.hid (⟨Y18.out.1.trans hx, hN, trivial⟩ : _ ∧ _ ∧ _)
      clear hx hN Y18
      obtain ⟨rb19, rc19, rfl, -, -⟩ := id (Y19.out.2.1)
      go_wp2_with fail
      refine (M6.out _ (EW.out _ Y19.out.1)).mono ?_
      rintro e v20 ⟨r20, rfl, hx, hN⟩
      have Y20 := Lib.hid (⟨Y19.out.1.trans hx, (Y19.out.2.1).ext hx, hN, trivial⟩ : _ ∧ _ ∧ _ ∧ _)
      clear hx hN Y19
      obtain ⟨rb20, rc20, rfl, -, -⟩ := id (Y20.out.2.2.1)
      go_wp2_with fail
      refine (same_true _ _ _ _ (Y20.out.2.1) (Y20.out.2.2.1) (by have := HZ.out.2.2.2.2.1; have := hl300.out; omega)).mono ?_
      rintro e v21 ⟨rfl, hx⟩
      have Y21 := Lib.hid (⟨Y20.out.1.trans hx, trivial⟩ : _ ∧ _)
      clear hx  Y20
      go_wp2_with fail
      refine (M7.out _ (EW.out _ Y21.out.1)).mono ?_
      rintro e v22 ⟨rfl, hx⟩
      have Y22 := Lib.hid (⟨Y21.out.1.trans hx, trivial⟩ : _ ∧ _)
      clear hx  Y21
      go_wp2_with fail
      refine (M8.out _ (EW.out _ Y22.out.1)).mono ?_
      rintro e v23 ⟨rfl, hx⟩
      have Y23 := Lib.hid (⟨Y22.out.1.trans hx, trivial⟩ : _ ∧ _)
      clear hx  Y22
      go_wp2_with fail
      refine (M9.out _ (EW.out _ Y23.out.1)).mono ?_
      rintro e v24 ⟨r24, rfl, hx, hN⟩
      have Y24 := Lib.hid (⟨Y23.out.1.trans hx, hN, trivial⟩ : _ ∧ _ ∧ _)
      clear hx hN Y23
      obtain ⟨rb24, rc24, rfl, -, -⟩ := id (Y24.out.2.1)
      go_wp2_with fail
      refine (N1.out _ (EW.out _ Y24.out.1)).mono ?_
      rintro e v25 ⟨r25, rfl, hx, hN⟩
      have Y25 := Lib.hid (⟨Y24.out.1.trans hx, (Y24.out.2.1).ext hx, hN, trivial⟩ : _ ∧ _ ∧ _ ∧ _)
      clear hx hN Y24
      obtain ⟨rb25, rc25, rfl, -, -⟩ := id (Y25.out.2.2.1)
      go_wp2_with fail
      refine (strs_true _ _ _ _ (Y25.out.2.1) (Y25.out.2.2.1) (by have := HZ.out.2.2.2.2.2.1; omega)).mono ?_
      rintro e v26 ⟨rfl, hx⟩
      have Y26 := Lib.hid (⟨Y25.out.1.trans hx, trivial⟩ : _ ∧ _)
      clear hx  Y25
      go_wp2_with fail
      refine (N2.out _ (EW.out _ Y26.out.1)).mono ?_
      rintro e v27 ⟨r27, rfl, hx, hN⟩
      have Y27 := Lib.hid (⟨Y26.out.1.trans hx, hN, trivial⟩ : _ ∧ _ ∧ _)
      clear hx hN Y26
      obtain ⟨rb27, rc27, rfl, -, -⟩ := id (Y27.out.2.1)
      go_wp2_with fail
      refine (N3.out _ (EW.out _ Y27.out.1)).mono ?_
      rintro e v28 ⟨r28, rfl, hx, hN⟩
      have Y28 := Lib.hid (⟨Y27.out.1.trans hx, (Y27.out.2.1).ext hx, hN, trivial⟩ : _ ∧ _ ∧ _ ∧ _)
      clear hx hN Y27
      obtain ⟨rb28, rc28, rfl, -, -⟩ := id (Y28.out.2.2.1)
      go_wp2_with fail
      refine (same_true _ _ _ _ (Y28.out.2.1) (Y28.out.2.2.1) (by have := HZ.out.2.2.2.2.2.2.1; have := hl300.out; omega)).mono ?_
      rintro e v29 ⟨rfl, hx⟩
      have Y29 := Lib.hid (⟨Y28.out.1.trans hx, trivial⟩ : _ ∧ _)
      clear hx  Y28
      go_wp2_with fail
      refine (N4.out _ (EW.out _ Y29.out.1)).mono ?_
      rintro e v30 ⟨r30, rfl, hx, hN⟩
      have Y30 := Lib.hid (⟨Y29.out.1.trans hx, hN, trivial⟩ : _ ∧ _ ∧ _)
      clear hx hN Y29
      obtain ⟨rb30, rc30, rfl, -, -⟩ := id (Y30.out.2.1)
      go_wp2_with fail
      refine (N5.out _ (EW.out _ Y30.out.1)).mono ?_
      rintro e v31 ⟨r31, rfl, hx, hN⟩
      have Y31 := Lib.hid (⟨Y30.out.1.trans hx, (Y30.out.2.1).ext hx, hN, trivial⟩ : _ ∧ _ ∧ _ ∧ _)
      clear hx hN Y30
      obtain ⟨rb31, rc31, rfl, -, -⟩ := id (Y31.out.2.2.1)
      go_wp2_with fail
      refine (refs_same _ _ _ _ (Y31.out.2.1) (Y31.out.2.2.1) (by have := HZ.out.2.2.2.2.2.2.2; omega)).mono ?_
      rintro e v32 ⟨rfl, hx⟩
      have Y32 := Lib.hid (⟨Y31.out.1.trans hx, trivial⟩ : _ ∧ _)
      clear hx  Y31
      go_wp2_with fail
      refine (N6.out _ (EW.out _ Y32.out.1)).mono ?_
      rintro e v33 ⟨rfl, hx⟩
      have Y33 := Lib.hid (⟨Y32.out.1.trans hx, trivial⟩ : _ ∧ _)
      clear hx  Y32
      go_wp2_with fail
      refine (N7.out _ (EW.out _ Y33.out.1)).mono ?_
      rintro e v34 ⟨rfl, hx⟩
      have Y34 := Lib.hid (⟨Y33.out.1.trans hx, trivial⟩ : _ ∧ _)
      clear hx  Y33
      go_wp2_with fail
      refine (K5.out _ (EW.out _ Y34.out.1)).mono ?_
      rintro e v35 ⟨r35, rfl, hx, hN⟩
      have Y35 := Lib.hid (⟨Y34.out.1.trans hx, hN, trivial⟩ : _ ∧ _ ∧ _)
      clear hx hN Y34
      obtain ⟨rb35, rc35, rfl, -, -⟩ := id (Y35.out.2.1)
      go_wp2_with fail
      refine (N8.out _ (EW.out _ Y35.out.1) _ (Y35.out.2.1)).mono ?_
      rintro e v36 ⟨rfl, hx⟩
      have Y36 := Lib.hid (⟨Y35.out.1.trans hx, trivial⟩ : _ ∧ _)
      clear hx  Y35
      go_wp2_with fail
      go_ret
      exact ⟨rfl, (EW.out _ Y36.out.1)⟩
section
open Go.ChangeShapes Go.WideShapes Go.Joins
set_option maxRecDepth 100000 in
theorem open_node {H : Type} {enc : TypeId × Value → H} {w : World} {base : Nat} {sp : Nat → Bool} {held : Bool} {r : Reach} {b0 : Nat} {v : Value} {d : DataW H} {ps : List MemPlace} (hval : Value.okWide Tryz.prog w r b0 25 v) (hd : DataW.Trod enc Tryz.prog w base sp held 25 v d ps) :
    ∃ x, NdArg w v x := by
  obtain ⟨cs, rfl, hsz⟩ := okWide_struct Tryz.underlying25 hval
  obtain ⟨fuel, hf⟩ := hd
  obtain ⟨y0, y1, y2, y3, y4, k, _, g0, g1, g2, g3, g4⟩ := trod_struct5 Tryz.underlying25 hf
  have hsz : cs.size = 5 := hsz.trans cellsNode17
  obtain ⟨v0, v1, v2, v3, v4, rfl⟩ : ∃ v0 v1 v2 v3 v4, cs = #[v0, v1, v2, v3, v4] := by
    obtain ⟨cl⟩ := cs
    match cl, hsz with
    | [v0, v1, v2, v3, v4], _ => exact ⟨v0, v1, v2, v3, v4, rfl⟩
  simp [Value.cells, cellsInt17, cellsI6417, cellsStr17, cellsInts17] at g0 g1 g2 g3 g4
  obtain ⟨kd, hkd, _, _⟩ := DataW.trod_int Tryz.underlying3 g0
  obtain ⟨nn, hnn, _, hnw⟩ := DataW.trod_int Tryz.underlying2 g1
  obtain ⟨gn, hgn, _, _⟩ := DataW.trod_int Tryz.underlying3 g2
  obtain ⟨s, hs, _, hsw⟩ := DataW.trod_string Tryz.underlying9 g3
  obtain ⟨kb, kc, K, hk, hkl, hkI, hkw⟩ := open_kids g4
  simp only [List.cons.injEq, and_true] at hkd hnn hgn hs hk
  subst hkd hnn hgn hs hk
  unfold maxLen at hsw hkl
  exact ⟨⟨kd, nn, gn, s, K⟩, kb, kc, rfl, ⟨Kt.wf_i64 hnw, by show s.size ≤ _; omega, by show K.length ≤ _; omega, hkw⟩, hkI⟩
end
theorem calls17_card (v0 v1 v2 : Value) (a3 : Int) (a4 : ByteArray) (W : World) (w0 : ∃ l, NodeArg W v0 l) (w1 : ∃ l, NodeArg W v1 l) (w2 : ∃ x, NdArg W v2 x) (_ : (Lit.int .i64 a3).wf = true) (w4 : a4.size ≤ maxLen) :
    Calls Tryz.prog 3 #[v0, v1, v2, .int .i64 a3, .string a4] W fun e W' => e = .returned (.bool true) ∧ Ext [] W W' := by
  obtain ⟨l, h0⟩ := w0
  obtain ⟨t, h1⟩ := w1
  obtain ⟨x, h2⟩ := w2
  exact calls17_law v0 v1 l t v2 x a3 a4 W h0 h1 h2 (by unfold maxLen at w4; omega)
end Go.Proofs.YtkjcjklnclahdaaGreatDoor.Tr
