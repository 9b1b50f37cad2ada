/-
  law17.TreeNames walked.
-/
import Derived.Test.YtkjcjklnclahdaaDoorTtQ
import Derived.Test.YtkjcjklnclahdaaDoorTtE
namespace Go.Proofs.YtkjcjklnclahdaaDoor.Tr
open Go.RowKit

set_option maxRecDepth 100000 in
set_option maxHeartbeats 2000000 in
theorem sameR_walk (u v : Value) (a : List (Int × Int)) (w : World) (hu : RefsAt w u a) (hv : RefsAt w v a) (ha : a.length ≤ 9223372036854775807) :
    Calls Tryd.prog 33 #[u, v] w fun e w' => e = .returned (.bool true) ∧ Ext [] w w' := by
  obtain ⟨ub, uc, rfl, -, hU⟩ := hu
  obtain ⟨vb, vc, rfl, -, hV⟩ := hv
  obtain ⟨n, hn⟩ : ∃ n, a.length = n := ⟨_, rfl⟩
  have HH := Lib.hid (⟨hU, hV, hn⟩ : _ ∧ _ ∧ _)
  rw [hn] at ha ⊢
  have hbb : ((n : Int) != (n : Int)) = false := bne_self_eq_false _
  clear hU hV hn
  go_enter Tryd.func33, Tryd.ntmps33
  go_wp2_with fail
  clear hbb
  go_loopg [4, 5] n (fun g v4 iv wr => ∃ i : Nat, g + i = n ∧ iv = .int .i64 i ∧ Ext [] w wr)
  case atStart => exact ⟨0, by omega, rfl, Ext.refl _ _⟩
  case round =>
    obtain ⟨i, hgi, rfl, hx⟩ := hrel
    by_cases hlt : i < n
    case neg =>
      obtain rfl : gk = 0 := by omega
      have HX := Lib.hid hx
      clear hx
      go_wp2_with fail
      go_ret
      exact ⟨rfl, HX.out⟩
    case pos =>
    obtain ⟨g, rfl⟩ : ∃ g, gk = g + 1 := ⟨gk - 1, by omega⟩
    have hltz : (i : Int) < (n : Int) := by omega
    have hia : i < a.length := by rw [HH.out.2.2]; exact hlt
    obtain ⟨b1, o1, rfl, x1, x2⟩ := HH.out.1 i hia
    obtain ⟨b2, o2, rfl, y1, y2⟩ := HH.out.2.1 i hia
    have x1 := hx.cell x1
    have x2 := hx.cell x2
    have y1 := hx.cell y1
    have y2 := hx.cell y2
    generalize a[i]'hia = p at *
    have HX := Lib.hid hx
    clear hx
    go_upto_region 6 with (fail)
    go_quiet (fail)
    go_wp2_with fail
    go_roundg g
    case measure => omega
    case rel => exact ⟨i + 1, by omega, by go_num, HX.out.drewN _⟩
theorem strs1 {w : World} {g : Nat} {a : ByteArray} {t : TypeId} {f : Nat × Nat} (h : w.heap[g]? = some (.cells #[.string a] t f)) : StrsAt w (.slice (some ⟨g, 0, none⟩) 1 1) [a] :=
  ⟨_, 1, rfl, Nat.le_refl _, fun i hi => by
    match i, hi with
    | 0, _ => exact ⟨g, 0, rfl, cellOf h 0⟩⟩
theorem trees1 {w : World} {g : Nat} {u : Value} {a : List Nd} {t : TypeId} {f : Nat × Nat} (h : w.heap[g]? = some (.cells #[u] t f)) (hu : NodesAt w u a) : TreesAt w (.slice (some ⟨g, 0, none⟩) 1 1) [a] :=
  ⟨_, 1, rfl, Nat.le_refl _, fun i hi => by
    match i, hi with
    | 0, _ => exact ⟨g, 0, u, rfl, cellOf h 0, hu⟩⟩
theorem trees0 (w : World) : TreesAt w (.slice none 0 0) [] := ⟨none, 0, rfl, Nat.le_refl _, fun i hi => by cases hi⟩
theorem nodes0 (w : World) : NodesAt w (.slice none 0 0) [] := ⟨none, 0, rfl, Nat.le_refl _, fun i hi => by cases hi⟩
theorem refs1 {w : World} {g : Nat} {a b : Int} {t : TypeId} {f : Nat × Nat} (h : w.heap[g]? = some (.cells #[.int .i64 a, .int .i64 b] t f)) : RefsAt w (.slice (some ⟨g, 0, none⟩) 1 1) [(a, b)] :=
  ⟨_, 1, rfl, Nat.le_refl _, fun i hi => by
    match i, hi with
    | 0, _ => exact ⟨g, 0, rfl, cellOf h 0, cellOf h 1⟩⟩
def bad10 (g : Nat) : Obj := .cells #[.int .i64 7, .int .i64 0, .int .i64 0, .string ⟨#[]⟩, .slice (some ⟨g, 0, none⟩) 1 1, .int .i64 1, .int .i64 0, .int .i64 0, .string ⟨#[]⟩, .slice none 0 0] 37
theorem RefsAt.ext {w w' : World} {v : Value} {l : List (Int × Int)} (h : RefsAt w v l) (hx : Ext [] w w') : RefsAt w' v l := by
  obtain ⟨base, cap, h1, h0, h2⟩ := h
  refine ⟨base, cap, h1, h0, fun i hi => ?_⟩
  obtain ⟨b, o, h3, h4, h5⟩ := h2 i hi
  exact ⟨b, o, h3, hx.cell h4, hx.cell h5⟩
theorem wf_bad : NdWf ⟨7, 0, 0, ⟨#[]⟩, [2]⟩ := ⟨by decide, by decide, by decide, by decide⟩
theorem bad_lit {w : World} {g q : Nat} (hg : w.heap[g]? = some (.cells #[.int .i64 2] 3)) (hq : w.heap[q]? = some (bad10 g)) : NodesAt w (.slice (some ⟨q, 0, none⟩) 2 2) [⟨7, 0, 0, ⟨#[]⟩, [2]⟩, nullNd] :=
  ⟨_, 2, rfl, Nat.le_refl _, fun i hi => by
    match i, hi with
    | 0, _ => exact ⟨q, 0, rfl, cellOf hq 0, cellOf hq 1, cellOf hq 2, cellOf hq 3, wf_bad, some ⟨g, 0, none⟩, 1, cellOf hq 4, fun k hk => by
        match k, hk with
        | 0, _ => exact ⟨g, 0, rfl, cellOf hg 0⟩⟩
    | 1, _ => exact ⟨q, 0, rfl, cellOf hq 5, cellOf hq 6, cellOf hq 7, cellOf hq 8, wf0 nullNd rfl (by decide) (by decide), none, 0, cellOf hq 9, fun k hk => by cases hk⟩⟩
theorem small6 {l : List Nd} (h : l.length ≤ 1000) (hs : ∀ x ∈ l, x.s.size ≤ 1000000) : Lt l := ⟨by omega, hs⟩
theorem lt_one {x : Nd} (hs : x.s.size ≤ 1000000) : Lt [x] := ⟨by simp, fun y hy => by rw [List.mem_singleton.1 hy]; exact hs⟩
theorem lt_two (a b : Nd) (ha : a.s.size = 0) (hb : b.s.size = 0) (hc : checkN (wd [(nA, [a]), (nB, [b])]) = 0) : Lt (wd [(nA, [a]), (nB, [b])]) :=
  wd_lt hc fun p hp => by
    simp only [List.mem_cons, List.not_mem_nil, or_false] at hp
    rcases hp with rfl | rfl
    · exact ⟨by show (⟨#[65]⟩ : ByteArray).size ≤ 1000000; decide, fun x hx => by rw [List.mem_singleton.1 hx]; omega⟩
    · exact ⟨by show (⟨#[66]⟩ : ByteArray).size ≤ 1000000; decide, fun x hx => by rw [List.mem_singleton.1 hx]; omega⟩
theorem lt_a : Lt aL := whole_lt ck_a fun l hl x hx => by
  simp only [List.mem_cons, List.not_mem_nil, or_false] at hl
  rcases hl with rfl | rfl
  · obtain rfl : x = numNd 7 := by simpa using hx
    decide
  · exact lt_ex.s x hx
theorem lt_d : Lt (wd [(nA, [numNd 2])]) := wd_lt ck_d fun p hp => by
  obtain rfl : p = (nA, [numNd 2]) := by simpa using hp
  exact ⟨by decide, fun x hx => by rw [List.mem_singleton.1 hx]; decide⟩
theorem ents_ex : (entsN exL nA).length ≤ 999 := by
  rw [ex_wd, show entsN (wd exP) nA = butE exP nA from ents_whole ck_exP nA]
  have := but_len exP nA
  have h2 : exP.length = 2 := rfl
  omega
theorem ents_s : (entsN (wd sP) nB).length ≤ 999 := by
  rw [show entsN (wd sP) nB = butE sP nB from ents_whole ck_s nB]
  have := but_len sP nB
  have h2 : sP.length = 2 := rfl
  omega
theorem ents_num : (entsN [numNd 1] nA).length ≤ 999 := by
  have : entsN [numNd 1] nA = [] := rfl
  rw [this]
  simp
set_option maxRecDepth 100000 in
set_option maxHeartbeats 4000000 in
theorem names17_law (w : World) : Calls Tryd.prog 7 #[] w fun e w' => e = .returned (.bool true) ∧ Ext [] w w' := by
  have HNull := Lib.hid null_walk
  have HEx := Lib.hid ex_walk
  have HLives := Lib.hid lives_walk
  have n7 := Lib.hid (fun W => num_walk 7 (by decide) W)
  have n2 := Lib.hid (fun W => num_walk 2 (by decide) W)
  have n1 := Lib.hid (fun W => num_walk 1 (by decide) W)
  have D1 := Lib.hid (fun (u v : Value) (W : World) (hu : StrsAt W u [nA, nA]) (hv : TreesAt W v [[nullNd], [nullNd]]) => dictX2_walk u v _ _ W hu hv (by decide) (by decide) (fun l hl => by
    simp only [List.mem_cons, List.not_mem_nil, or_false, or_self] at hl
    subst hl
    exact ⟨by decide, fun x hx => by rw [List.mem_singleton.1 hx]; decide⟩))
  simp only [tn_twice] at D1
  have D2 := Lib.hid (fun (u v : Value) (W : World) (hu : StrsAt W u [nA]) (hv : TreesAt W v []) => dictX2_walk u v _ _ W hu hv (by decide) (by decide) (fun l hl => by cases hl))
  simp only [tn_short] at D2
  have AR := Lib.hid (fun (v : Value) (W : World) (hv : TreesAt W v [[numNd 7], exL]) => array_walk v _ W hv (by decide) (fun l hl => by
    simp only [List.mem_cons, List.not_mem_nil, or_false] at hl
    rcases hl with rfl | rfl
    · exact ⟨by decide, fun x hx => by rw [List.mem_singleton.1 hx]; decide⟩
    · exact ⟨by decide, lt_ex.s⟩))
  simp only [tn_array] at AR
  have SE := Lib.hid (fun (u v : Value) (W : World) (hu : NodesAt W u exL) (hv : NodesAt W v [numNd 2]) => set2_walk u v exL [numNd 2] nA W hu hv lt_ex (lt_one (by decide)) (by decide) ents_ex)
  simp only [tn_set] at SE
  have DR := Lib.hid (fun (v : Value) (W : World) (hv : NodesAt W v (wd sP)) => drop2_walk v (wd sP) nB W hv (lt_two _ _ rfl rfl ck_s) ents_s)
  simp only [tn_drop] at DR
  have S1 := Lib.hid (fun (u v : Value) (W : World) (hu : NodesAt W u [numNd 1]) (hv : NodesAt W v [nullNd]) => set2_walk u v [numNd 1] [nullNd] nA W hu hv (lt_one (by decide)) (lt_one (by decide)) (by decide) ents_num)
  simp only [tn_set1] at S1
  have O1 := Lib.hid (fun (W : World) => one_walk realNd ⟨by decide, by decide, by decide, fun k hk => by cases hk⟩ (by decide) none 0 W)
  simp only [tn_real] at O1
  have O2 := Lib.hid (fun (W : World) => one_walk refNd ⟨by decide, by decide, by decide, fun k hk => by cases hk⟩ (by decide) none 0 W)
  simp only [tn_one] at O2
  have DP := Lib.hid (fun (i : Nat) (hi : i ≤ 255) (v : Value) (W : World) (hv : TreesAt W v [deepL i]) => array_walk v _ W hv (by simp) (fun l hl => by
    obtain rfl : l = deepL i := by simpa using hl
    obtain ⟨-, -, h3, h4, -⟩ := deep_facts i hi
    exact ⟨by omega, fun x hx => by have := h4 x hx; omega⟩))
  have E1 := Lib.hid (fun (v : Value) (W : World) (hv : NodesAt W v aL) => depth_walk v aL W hv lt_a)
  simp only [tn_depth] at E1
  have E2 := Lib.hid (fun (v : Value) (W : World) (hv : NodesAt W v aL) => end_walk v aL 2 W hv lt_a)
  simp only [tn_end] at E2
  have E3 := Lib.hid (fun (v : Value) (W : World) (hv : NodesAt W v aL) => subX_walk v aL 2 W hv lt_a)
  simp only [tn_sub] at E3
  have E4 := Lib.hid (fun (u v : Value) (W : World) (hu : NodesAt W u exL) (hv : NodesAt W v exL) => lsame_walk u v exL exL W hu hv (by decide) (by decide))
  simp only [(sameL_iff _ _).2 rfl] at E4
  have E5 := Lib.hid (fun (v : Value) (W : World) (hv : NodesAt W v aL) => items_walk v aL W hv lt_a)
  simp only [tn_items] at E5
  have E6 := Lib.hid (fun (v : Value) (W : World) (hv : NodesAt W v (wd [(nA, [numNd 2])])) => names_walk v _ W hv lt_d)
  simp only [tn_names] at E6
  have E7 := Lib.hid (fun (u v : Value) (W : World) (hu : StrsAt W u [nA]) (hv : StrsAt W v [nA]) => sameS_walk u v _ _ W hu hv (by decide) (by decide))
  simp only [(sameS_iff _ _).2 rfl] at E7
  have E8 := Lib.hid (fun (v : Value) (W : World) (hv : NodesAt W v [refNd]) => refs_walk v _ W hv (lt_one (by decide)))
  simp only [tn_refs] at E8
  have E9 := Lib.hid (fun (u v : Value) (W : World) (hu : RefsAt W u [(3, 1)]) (hv : RefsAt W v [(3, 1)]) => sameR_walk u v _ W hu hv (by decide))
  have F1 := Lib.hid (fun (v : Value) (W : World) (hv : NodesAt W v [⟨7, 0, 0, ⟨#[]⟩, [2]⟩, nullNd]) => check_walk v _ W hv (by decide) (fun x hx => by
    simp only [List.mem_cons, List.not_mem_nil, or_false] at hx
    rcases hx with rfl | rfl <;> decide))
  simp only [tn_bad] at F1
  have F2 := Lib.hid (fun (W : World) => check_walk (.slice none 0 0) [] W (nodes0 W) (by decide) (fun x hx => by cases hx))
  simp only [tn_none] at F2
  have F3 := Lib.hid (fun (u v : Value) (W : World) (hu : NodesAt W u aL) (hv : NodesAt W v aL) => tsame_walk u v aL aL W hu hv (by rw [len_a]; omega) (by rw [len_a]; omega))
  simp only [(sameL_iff _ _).2 rfl] at F3
  have F4 := Lib.hid (fun (u v : Value) (W : World) (hu : NodesAt W u aL) (hv : NodesAt W v (wd sP)) => tsame_walk u v aL (wd sP) W hu hv (by rw [len_a]; omega) (by have := (check_zero ck_s).2.1; omega))
  simp only [tn_ne] at F4
  have hsl : (wd sP).length = 5 := rfl
  go_enter Tryd.func7, Tryd.ntmps7
  go_wp2_with fail
  -- Dict of A twice
  refine (HNull.out _).mono ?_
  rintro e w1 ⟨v1, rfl, hx1, hN1⟩
  have hb1 := hx1.keep (heap_alloc_at (w := w) _) (by simp)
  obtain ⟨a1, c1, rfl, -, -⟩ := id hN1
  have HA := Lib.hid (⟨((Ext.refl [] w).alloc _).trans hx1, hN1, hb1⟩ : _ ∧ _ ∧ _)
  clear hx1 hN1 hb1
  obtain ⟨q1, hq1⟩ : ∃ q, w.heap.size = q := ⟨_, rfl⟩
  rw [hq1] at HA ⊢
  clear hq1
  go_wp2_with fail
  refine (HNull.out _).mono ?_
  rintro e w2 ⟨v2, rfl, hx2, hN2⟩
  obtain ⟨a2, c2, rfl, -, -⟩ := id hN2
  have HB := Lib.hid (⟨HA.out.1.trans hx2, HA.out.2.1.ext hx2, hN2, hx2.keep HA.out.2.2 (by simp)⟩ : _ ∧ _ ∧ _ ∧ _)
  clear hx2 hN2 HA
  simp only [List.length_singleton] at HB ⊢
  go_wp2_with fail
  have hx3 : Ext [] w2 (w2.alloc (.cells #[.slice a1 1 c1, .slice a2 1 c2] 26)) := (Ext.refl [] w2).alloc _
  have hb3 := heap_alloc_at (w := w2) (.cells #[.slice a1 1 c1, .slice a2 1 c2] 26)
  have DD := Lib.hid (D1.out _ _ _ (strs2 (hx3.keep HB.out.2.2.2 (by simp))) (trees2 hb3 (HB.out.2.1.ext hx3) (HB.out.2.2.1.ext hx3)))
  have HX := Lib.hid (HB.out.1.trans hx3)
  clear hx3 hb3 HB D1
  refine DD.out.mono ?_
  rintro e w3 ⟨v3, rfl, hx3, -⟩
  have HX3 := Lib.hid (HX.out.trans hx3)
  clear hx3 DD HX
  go_wp2_with fail
  -- Dict of names without trees
  have hx4 : Ext [] w3 (w3.alloc (.cells #[.string ⟨#[65]⟩] 9)) := (Ext.refl [] w3).alloc _
  have DD := Lib.hid (D2.out _ _ _ (strs1 (heap_alloc_at (w := w3) (.cells #[.string ⟨#[65]⟩] 9))) (trees0 _))
  have HX := Lib.hid (HX3.out.trans hx4)
  clear hx4 HX3 D2
  refine DD.out.mono ?_
  rintro e w4 ⟨v4, rfl, hx4, -⟩
  have HX4 := Lib.hid (HX.out.trans hx4)
  clear hx4 DD HX
  go_wp2_with fail
  -- Array
  refine (n7.out _).mono ?_
  rintro e w5 ⟨v5, rfl, hx5, hN5⟩
  have HX5 := Lib.hid (⟨HX4.out.trans hx5, hN5⟩ : _ ∧ _)
  clear hx5 hN5 HX4 n7
  go_wp2_with fail
  refine (HEx.out _).mono ?_
  rintro e w6 ⟨v6, rfl, hx6, hN6⟩
  have HX6 := Lib.hid (⟨HX5.out.1.trans hx6, HX5.out.2.ext hx6, hN6⟩ : _ ∧ _ ∧ _)
  clear hx6 hN6 HX5
  obtain ⟨a5, c5, rfl, -, -⟩ := id HX6.out.2.1
  obtain ⟨a6, c6, rfl, -, -⟩ := id HX6.out.2.2
  rw [show exL.length = 5 from rfl] at HX6 ⊢
  simp only [List.length_singleton] at HX6 ⊢
  go_wp2_with fail
  have hx7 : Ext [] w6 (w6.alloc (.cells #[.slice a5 1 c5, .slice a6 5 c6] 26)) := (Ext.refl [] w6).alloc _
  have DD := Lib.hid (AR.out _ _ (trees2 (heap_alloc_at (w := w6) _) (HX6.out.2.1.ext hx7) (HX6.out.2.2.ext hx7)))
  have HX := Lib.hid (HX6.out.1.trans hx7)
  clear hx7 HX6 AR
  refine DD.out.mono ?_
  rintro e w7 ⟨va, rfl, hx7, hNa⟩
  have HX7 := Lib.hid (⟨HX.out.trans hx7, hNa⟩ : _ ∧ _)
  clear hx7 hNa DD HX
  go_wp2_with fail
  -- Set
  refine (HEx.out _).mono ?_
  rintro e w8 ⟨v8, rfl, hx8, hN8⟩
  have HX8 := Lib.hid (⟨HX7.out.1.trans hx8, HX7.out.2.ext hx8, hN8⟩ : _ ∧ _ ∧ _)
  clear hx8 hN8 HX7
  go_wp2_with fail
  refine (n2.out _).mono ?_
  rintro e w9 ⟨v9, rfl, hx9, hN9⟩
  have HX9 := Lib.hid (⟨HX8.out.1.trans hx9, HX8.out.2.1.ext hx9, HX8.out.2.2.ext hx9, hN9⟩ : _ ∧ _ ∧ _ ∧ _)
  clear hx9 hN9 HX8 n2
  go_wp2_with fail
  refine (SE.out _ _ _ HX9.out.2.2.1 HX9.out.2.2.2).mono ?_
  rintro e w10 ⟨vs, rfl, hx10, hN10⟩
  have HX10 := Lib.hid (⟨HX9.out.1.trans hx10, HX9.out.2.1.ext hx10, hN10⟩ : _ ∧ _ ∧ _)
  clear hx10 hN10 HX9 SE
  go_wp2_with fail
  refine (DR.out _ _ HX10.out.2.2).mono ?_
  rintro e w11 ⟨vd, rfl, hx11, hN11⟩
  have HX11 := Lib.hid (⟨HX10.out.1.trans hx11, HX10.out.2.1.ext hx11, HX10.out.2.2.ext hx11, hN11⟩ : _ ∧ _ ∧ _ ∧ _)
  clear hx11 hN11 HX10 DR
  go_wp2_with fail
  refine (n1.out _).mono ?_
  rintro e w12 ⟨v12, rfl, hx12, hN12⟩
  have HX12 := Lib.hid (⟨hx12, hN12⟩ : _ ∧ _)
  clear hx12 hN12 n1
  go_wp2_with fail
  refine (HNull.out _).mono ?_
  rintro e w13 ⟨v13, rfl, hx13, hN13⟩
  have HX13 := Lib.hid (⟨HX12.out.1.trans hx13, HX12.out.2.ext hx13, hN13⟩ : _ ∧ _ ∧ _)
  clear hx13 hN13 HX12
  go_wp2_with fail
  refine (S1.out _ _ _ HX13.out.2.1 HX13.out.2.2).mono ?_
  rintro e w14 ⟨v14, rfl, hx14, -⟩
  have HX14 := Lib.hid (HX13.out.1.trans hx14)
  clear hx14 HX13 S1
  go_wp2_with fail
  refine (O1.out _).mono ?_
  rintro e w15 ⟨v15, rfl, hx15, -⟩
  have HX15 := Lib.hid (HX14.out.trans hx15)
  clear hx15 HX14 O1
  go_wp2_with fail
  refine (O2.out _).mono ?_
  rintro e w16 ⟨vr, rfl, hx16, hN16⟩
  have HX16 := Lib.hid (⟨HX15.out.trans hx16, hN16⟩ : _ ∧ _)
  clear hx16 hN16 HX15 O2
  go_wp2_with fail
  refine (HNull.out _).mono ?_
  rintro e w17 ⟨v17, rfl, hx17, hN17⟩
  have hxt := HX16.out.1.trans hx17
  have HW := Lib.hid (⟨HX11.out.1.trans hxt, HX11.out.2.1.ext hxt, HX11.out.2.2.1.ext hxt, HX11.out.2.2.2.ext hxt, HX16.out.2.ext hx17, hN17⟩ : _ ∧ _ ∧ _ ∧ _ ∧ _ ∧ _)
  clear hx17 hN17 HX16 HX11 hxt
  go_wp2_with fail
  go_loopg [16, 17] 256 (fun g dv iv wr => ∃ i : Nat, g + i = 256 ∧ iv = .int .i64 i ∧ NodesAt wr dv (deepL i) ∧ Ext [] w17 wr)
  case atStart => exact ⟨0, by omega, rfl, HW.out.2.2.2.2.2, Ext.refl _ _⟩
  case round =>
    obtain ⟨i, hgi, rfl, hN, hx⟩ := hrel
    obtain ⟨kb, kc, hkv, -, -⟩ := id hN
    obtain ⟨kl, hkl⟩ : ∃ kl, (deepL i).length = kl := ⟨_, rfl⟩
    rw [hkl] at hkv
    subst hkv
    by_cases hlt : i < 256
    · obtain ⟨g, rfl⟩ : ∃ g, gk = g + 1 := ⟨gk - 1, by omega⟩
      have hltz : (i : Int) < 256 := by omega
      have HN := Lib.hid (⟨hN, hx⟩ : _ ∧ _)
      clear hN hx hkl
      go_wp2_with fail
      have hxa : Ext [] wr (wr.alloc (.cells #[.slice kb kl kc] 26)) := (Ext.refl [] wr).alloc _
      have DD := Lib.hid (DP.out i (by omega) _ _ (trees1 (heap_alloc_at (w := wr) (.cells #[.slice kb kl kc] 26)) (HN.out.1.ext hxa)))
      have HX := Lib.hid (HN.out.2.trans hxa)
      clear hxa
      refine DD.out.mono ?_
      rintro e w18 ⟨v18, rfl, hx18, hN18⟩
      have HX18 := Lib.hid (⟨HX.out.trans hx18, hN18⟩ : _ ∧ _)
      clear hx18 hN18 DD HX HN
      go_wp2_with fail
      go_roundg g
      case measure => omega
      case rel => exact ⟨i + 1, by omega, by go_num, HX18.out.2, HX18.out.1⟩
    · obtain rfl : gk = 0 := by omega
      obtain rfl : i = 256 := by omega
      have hk0 : kl = 0 := by rw [← hkl, deep_last]; rfl
      subst hk0
      have HX := Lib.hid (⟨HW.out.1.trans hx, HW.out.2.1.ext hx, HW.out.2.2.1.ext hx, HW.out.2.2.2.1.ext hx, HW.out.2.2.2.2.1.ext hx⟩ : _ ∧ _ ∧ _ ∧ _ ∧ _)
      clear hN hx hkl HW
      obtain ⟨xb, xc, rfl, -, -⟩ := id HX.out.2.1
      obtain ⟨sb, sc, rfl, -, -⟩ := id HX.out.2.2.1
      obtain ⟨db, dc, rfl, -, -⟩ := id HX.out.2.2.2.1
      obtain ⟨rb, rc, rfl, -, -⟩ := id HX.out.2.2.2.2
      rw [len_a, hsl] at *
      simp only [List.length_singleton] at HX ⊢
      go_wp2_with fail
      refine (HLives.out _).mono ?_
      rintro e u1 ⟨rfl, hx⟩
      have HX := Lib.hid (⟨HX.out.1.trans hx, HX.out.2.1.ext hx, HX.out.2.2.1.ext hx, HX.out.2.2.2.1.ext hx, HX.out.2.2.2.2.ext hx⟩ : _ ∧ _ ∧ _ ∧ _ ∧ _)
      clear hx HLives
      go_wp2_with fail
      refine (E1.out _ _ HX.out.2.1).mono ?_
      rintro e u2 ⟨rfl, hx⟩
      have HX := Lib.hid (⟨HX.out.1.trans hx, HX.out.2.1.ext hx, HX.out.2.2.1.ext hx, HX.out.2.2.2.1.ext hx, HX.out.2.2.2.2.ext hx⟩ : _ ∧ _ ∧ _ ∧ _ ∧ _)
      clear hx E1
      go_wp2_with fail
      refine (E2.out _ _ HX.out.2.1).mono ?_
      rintro e u3 ⟨rfl, hx⟩
      have HX := Lib.hid (⟨HX.out.1.trans hx, HX.out.2.1.ext hx, HX.out.2.2.1.ext hx, HX.out.2.2.2.1.ext hx, HX.out.2.2.2.2.ext hx⟩ : _ ∧ _ ∧ _ ∧ _ ∧ _)
      clear hx E2
      go_wp2_with fail
      refine (E3.out _ _ HX.out.2.1).mono ?_
      rintro e u4 ⟨z4, rfl, hx, hN4⟩
      obtain ⟨zb4, zc4, rfl, -, -⟩ := id hN4
      have HX := Lib.hid (⟨HX.out.1.trans hx, HX.out.2.1.ext hx, HX.out.2.2.1.ext hx, HX.out.2.2.2.1.ext hx, HX.out.2.2.2.2.ext hx⟩ : _ ∧ _ ∧ _ ∧ _ ∧ _)
      have HZ := Lib.hid hN4
      clear hx E3 hN4
      go_wp2_with fail
      refine (HEx.out _).mono ?_
      rintro e u5 ⟨z5, rfl, hx, hN5⟩
      obtain ⟨zb5, zc5, rfl, -, -⟩ := id hN5
      have HX := Lib.hid (⟨HX.out.1.trans hx, HX.out.2.1.ext hx, HX.out.2.2.1.ext hx, HX.out.2.2.2.1.ext hx, HX.out.2.2.2.2.ext hx⟩ : _ ∧ _ ∧ _ ∧ _ ∧ _)
      have HZ := Lib.hid (⟨HZ.out.ext hx, hN5⟩ : _ ∧ _)
      clear hx HEx hN5
      go_wp2_with fail
      refine (E4.out _ _ _ HZ.out.1 HZ.out.2).mono ?_
      rintro e u6 ⟨rfl, hx⟩
      have HX := Lib.hid (⟨HX.out.1.trans hx, HX.out.2.1.ext hx, HX.out.2.2.1.ext hx, HX.out.2.2.2.1.ext hx, HX.out.2.2.2.2.ext hx⟩ : _ ∧ _ ∧ _ ∧ _ ∧ _)
      clear hx E4 HZ
      go_wp2_with fail
      refine (E5.out _ _ HX.out.2.1).mono ?_
      rintro e u7 ⟨z7, rfl, hx, hT7⟩
      obtain ⟨zb7, zc7, rfl, -, -⟩ := id hT7
      have HX := Lib.hid (⟨HX.out.1.trans hx, HX.out.2.1.ext hx, HX.out.2.2.1.ext hx, HX.out.2.2.2.1.ext hx, HX.out.2.2.2.2.ext hx⟩ : _ ∧ _ ∧ _ ∧ _ ∧ _)
      clear hx E5 hT7
      go_wp2_with fail
      refine (E6.out _ _ HX.out.2.2.2.1).mono ?_
      rintro e u8 ⟨z8, rfl, hx, hT8⟩
      obtain ⟨zb8, zc8, rfl, -, -⟩ := id hT8
      have HX := Lib.hid (⟨HX.out.1.trans hx, HX.out.2.1.ext hx, HX.out.2.2.1.ext hx, HX.out.2.2.2.2.ext hx⟩ : _ ∧ _ ∧ _ ∧ _)
      have HZ := Lib.hid hT8
      clear hx E6 hT8
      go_wp2_with fail
      have hy : Ext [] u8 (u8.alloc (.cells #[.string ⟨#[65]⟩] 9)) := (Ext.refl [] u8).alloc _
      refine (E7.out _ _ _ (HZ.out.ext hy) (strs1 (heap_alloc_at (w := u8) (.cells #[.string ⟨#[65]⟩] 9)))).mono ?_
      rintro e u9 ⟨rfl, hx⟩
      have hx := hy.trans hx
      have HX := Lib.hid (⟨HX.out.1.trans hx, HX.out.2.1.ext hx, HX.out.2.2.1.ext hx, HX.out.2.2.2.ext hx⟩ : _ ∧ _ ∧ _ ∧ _)
      clear hx hy E7 HZ
      go_wp2_with fail
      refine (E8.out _ _ HX.out.2.2.2).mono ?_
      rintro e u10 ⟨z10, rfl, hx, hT10⟩
      obtain ⟨zb10, zc10, rfl, -, -⟩ := id hT10
      have HX := Lib.hid (⟨HX.out.1.trans hx, HX.out.2.1.ext hx, HX.out.2.2.1.ext hx⟩ : _ ∧ _ ∧ _)
      have HZ := Lib.hid hT10
      clear hx E8 hT10
      go_wp2_with fail
      have hy : Ext [] u10 (u10.alloc (.cells #[.int .i64 3, .int .i64 1] 59)) := (Ext.refl [] u10).alloc _
      refine (E9.out _ _ _ (HZ.out.ext hy) (refs1 (heap_alloc_at (w := u10) (.cells #[.int .i64 3, .int .i64 1] 59)))).mono ?_
      rintro e u11 ⟨rfl, hx⟩
      have hx := hy.trans hx
      have HX := Lib.hid (⟨HX.out.1.trans hx, HX.out.2.1.ext hx, HX.out.2.2.ext hx⟩ : _ ∧ _ ∧ _)
      clear hx hy E9 HZ
      go_wp2_with fail
      have hsz : (u11.alloc (.cells #[.int .i64 2] 3)).heap.size = u11.heap.size + 1 := by simp
      have hb1 := heap_alloc_at (w := u11) (.cells #[.int .i64 2] 3)
      have hb2 := heap_alloc_at (w := u11.alloc (.cells #[.int .i64 2] 3)) (bad10 u11.heap.size)
      have hy : Ext [] u11 ((u11.alloc (.cells #[.int .i64 2] 3)).alloc (bad10 u11.heap.size)) := ((Ext.refl [] u11).alloc _).alloc _
      have hb1 := heap_alloc_old (bad10 u11.heap.size) hb1
      rw [hsz] at hb2
      have DD := Lib.hid (F1.out _ _ (bad_lit hb1 hb2))
      have HX := Lib.hid (⟨HX.out.1.trans hy, HX.out.2.1.ext hy, HX.out.2.2.ext hy⟩ : _ ∧ _ ∧ _)
      clear hsz hb1 hb2 hy F1
      refine DD.out.mono ?_
      rintro e u12 ⟨rfl, hx⟩
      have HX := Lib.hid (⟨HX.out.1.trans hx, HX.out.2.1.ext hx, HX.out.2.2.ext hx⟩ : _ ∧ _ ∧ _)
      clear hx DD
      go_wp2_with fail
      refine (F2.out _).mono ?_
      rintro e u13 ⟨rfl, hx⟩
      have HX := Lib.hid (⟨HX.out.1.trans hx, HX.out.2.1.ext hx, HX.out.2.2.ext hx⟩ : _ ∧ _ ∧ _)
      clear hx F2
      go_wp2_with fail
      refine (F3.out _ _ _ HX.out.2.1 HX.out.2.1).mono ?_
      rintro e u14 ⟨rfl, hx⟩
      have HX := Lib.hid (⟨HX.out.1.trans hx, HX.out.2.1.ext hx, HX.out.2.2.ext hx⟩ : _ ∧ _ ∧ _)
      clear hx F3
      go_wp2_with fail
      refine (F4.out _ _ _ HX.out.2.1 HX.out.2.2).mono ?_
      rintro e u15 ⟨rfl, hx⟩
      have HX := Lib.hid (HX.out.1.trans hx)
      clear hx F4
      go_wp2_with fail
      go_ret
      exact ⟨rfl, HX.out⟩
end Go.Proofs.YtkjcjklnclahdaaDoor.Tr
