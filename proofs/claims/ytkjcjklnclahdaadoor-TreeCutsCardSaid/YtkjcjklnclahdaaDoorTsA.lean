/-
  law17: the chapter's example, lives walked.
-/
import Derived.Test.YtkjcjklnclahdaaDoorTrZ
import Derived.Test.YtkjcjklnclahdaaDoorTrV
import Derived.Test.YtkjcjklnclahdaaDoorTrY
namespace Go.Proofs.YtkjcjklnclahdaaDoor.Tr
open Go.RowKit

theorem one_nodes {w : World} {g : Nat} {x : Nd} (h : w.heap[g]? = some (.cells #[.int .i64 x.kind, .int .i64 x.n, .int .i64 x.gen, .string x.s, .slice none 0 0] 37)) (hk : x.kids = []) (hn : -9223372036854775808 ≤ x.n ∧ x.n ≤ 9223372036854775807) (hs : x.s.size ≤ 9223372036854775807) :
    NodesAt w (.slice (some ⟨g, 0, none⟩) 1 1) [x] :=
  ⟨_, 1, rfl, Nat.le_refl _, fun i hi => by
    obtain rfl : i = 0 := by simpa using hi
    exact ⟨g, 0, rfl, cellOf h 0, cellOf h 1, cellOf h 2, cellOf h 3, ⟨hn, hs, by show x.kids.length ≤ _; rw [hk]; exact Nat.zero_le _, fun k hk2 => by rw [show ([x][0]'hi).kids = [] from hk] at hk2; cases hk2⟩, none, 0, by rw [show ([x][0]'hi).kids = [] from hk]; exact cellOf h 4, fun i hi2 => by rw [show ([x][0]'hi).kids = [] from hk] at hi2; cases hi2⟩⟩
set_option maxRecDepth 100000 in
set_option maxHeartbeats 1000000 in
theorem null_walk (w : World) : Calls Tryd.prog 28 #[] w fun e w' => ∃ v2, e = .returned v2 ∧ Ext [] w w' ∧ NodesAt w' v2 [nullNd] := by
  go_enter Tryd.func28, Tryd.ntmps28
  go_wp2_with fail
  go_ret
  exact ⟨_, rfl, (Ext.refl [] w).alloc _, one_nodes (x := nullNd) (heap_alloc_at _) rfl (by decide) (by decide)⟩
set_option maxRecDepth 100000 in
set_option maxHeartbeats 1000000 in
theorem num_walk (n : Int) (hn : -9223372036854775808 ≤ n ∧ n ≤ 9223372036854775807) (w : World) : Calls Tryd.prog 29 #[.int .i64 n] w fun e w' => ∃ v2, e = .returned v2 ∧ Ext [] w w' ∧ NodesAt w' v2 [numNd n] := by
  go_enter Tryd.func29, Tryd.ntmps29
  go_wp2_with fail
  go_ret
  exact ⟨_, rfl, (Ext.refl [] w).alloc _, one_nodes (x := numNd n) (heap_alloc_at _) rfl hn (by show (0 : Nat) ≤ _; omega)⟩
theorem strs2 {w : World} {g : Nat} {a b : ByteArray} {t : TypeId} {f : Nat × Nat} (h : w.heap[g]? = some (.cells #[.string a, .string b] t f)) : StrsAt w (.slice (some ⟨g, 0, none⟩) 2 2) [a, b] :=
  ⟨_, 2, rfl, Nat.le_refl _, fun i hi => by
    match i, hi with
    | 0, _ => exact ⟨g, 0, rfl, cellOf h 0⟩
    | 1, _ => exact ⟨g, 0, rfl, cellOf h 1⟩⟩
theorem trees2 {w : World} {g : Nat} {u v : Value} {a b : List Nd} {t : TypeId} {f : Nat × Nat} (h : w.heap[g]? = some (.cells #[u, v] t f)) (hu : NodesAt w u a) (hv : NodesAt w v b) : TreesAt w (.slice (some ⟨g, 0, none⟩) 2 2) [a, b] :=
  ⟨_, 2, rfl, Nat.le_refl _, fun i hi => by
    match i, hi with
    | 0, _ => exact ⟨g, 0, u, rfl, cellOf h 0, hu⟩
    | 1, _ => exact ⟨g, 0, v, rfl, cellOf h 1, hv⟩⟩
set_option maxRecDepth 100000 in
set_option maxHeartbeats 1000000 in
theorem ex_walk (w : World) : Calls Tryd.prog 30 #[] w fun e w' => ∃ v2, e = .returned v2 ∧ Ext [] w w' ∧ NodesAt w' v2 exL := by
  have H1 := Lib.hid (fun w => num_walk 1 (by decide) w)
  have H2 := Lib.hid null_walk
  have H3 := Lib.hid (fun (u v : Value) (W : World) (hu : StrsAt W u [⟨#[66]⟩, ⟨#[65]⟩]) (hv : TreesAt W v [[numNd 1], [nullNd]]) => dictX_walk u v _ _ W hu hv (by decide) (by decide) (fun s hs => by
    simp only [List.mem_cons, List.not_mem_nil, or_false] at hs
    rcases hs with rfl | rfl <;> decide) (fun l hl => by
    simp only [List.mem_cons, List.not_mem_nil, or_false] at hl
    rcases hl with rfl | rfl
    · exact ⟨by decide, fun x hx => by rw [show x = numNd 1 by simpa using hx]; decide⟩
    · exact ⟨by decide, fun x hx => by rw [show x = nullNd by simpa using hx]; decide⟩))
  simp only [dict_ex] at H3
  go_enter Tryd.func30, Tryd.ntmps30
  go_wp2_with fail
  refine (H1.out _).mono ?_
  rintro e w1 ⟨v1, rfl, hx1, hN1⟩
  have hb1 := hx1.keep (heap_alloc_at (w := w) _) (by simp)
  have hN1' := hN1
  obtain ⟨a1, c1, rfl, -, -⟩ := hN1'
  have HA := Lib.hid (⟨((Ext.refl [] w).alloc _).trans hx1, hN1, hb1⟩ : _ ∧ _ ∧ _)
  clear hx1 hN1 hb1
  obtain ⟨q1, hq1⟩ : ∃ q, w.heap.size = q := ⟨_, rfl⟩
  rw [hq1] at HA ⊢
  clear hq1
  go_wp2_with fail
  refine (H2.out _).mono ?_
  rintro e w2 ⟨v2, rfl, hx2, hN2⟩
  have hN2' := hN2
  obtain ⟨a2, c2, rfl, -, -⟩ := hN2'
  have HB := Lib.hid (⟨HA.out.1.trans hx2, HA.out.2.1.ext hx2, hN2, hx2.keep HA.out.2.2 (by simp)⟩ : _ ∧ _ ∧ _ ∧ _)
  clear hx2 hN2 HA
  simp only [List.length_singleton] at HB ⊢
  go_wp2_with fail
  have hx3 : Ext [] w2 (w2.alloc (.cells #[.slice a1 1 c1, .slice a2 1 c2] 26)) := (Ext.refl [] w2).alloc _
  have hb3 := heap_alloc_at (w := w2) (.cells #[.slice a1 1 c1, .slice a2 1 c2] 26)
  have hS := strs2 (hx3.keep HB.out.2.2.2 (by simp))
  have hT := trees2 hb3 (HB.out.2.1.ext hx3) (HB.out.2.2.1.ext hx3)
  have H4 := Lib.hid (H3.out _ _ _ hS hT)
  have HX := Lib.hid (HB.out.1.trans hx3)
  clear hx3 hb3 hS hT
  refine H4.out.mono ?_
  rintro e w4 ⟨v4, rfl, hx4, hN4⟩
  have HF := Lib.hid (⟨HX.out.trans hx4, hN4⟩ : _ ∧ _)
  clear hx4 hN4 H4 HX HB
  go_wp2_with fail
  go_ret
  exact ⟨_, rfl, HF.out.1, HF.out.2⟩
set_option maxRecDepth 100000 in
set_option maxHeartbeats 1000000 in
theorem lsame_walk (u v : Value) (a b : List Nd) (w : World) (hu : NodesAt w u a) (hv : NodesAt w v b) (ha : a.length ≤ 9223372036854775807) (hb : b.length ≤ 9223372036854775807) :
    Calls Tryd.prog 14 #[u, v] w fun e w' => e = .returned (.bool (sameL a b)) ∧ Ext [] w w' := by
  have H := Lib.hid (same_walk u v a b w hu hv ha hb)
  obtain ⟨ub, uc, rfl, -, -⟩ := hu
  obtain ⟨vb, vc, rfl, -, -⟩ := hv
  go_enter Tryd.func14, Tryd.ntmps14
  go_wp2_with fail
  refine H.out.mono ?_
  rintro e w1 ⟨rfl, hx⟩
  have HX := Lib.hid hx
  clear hx H
  go_wp2_with fail
  go_ret
  exact ⟨rfl, HX.out⟩
theorem lt_ex : Lt exL := ⟨by decide, by decide⟩
/-- the five nodes as they are written out -/
def ex25 (g : Nat) : Obj := .cells #[.int .i64 8, .int .i64 0, .int .i64 0, .string ⟨#[]⟩, .slice (some ⟨g, 0, none⟩) 4 4, .int .i64 6, .int .i64 0, .int .i64 0, .string ⟨#[65]⟩, .slice none 0 0, .int .i64 1, .int .i64 0, .int .i64 0, .string ⟨#[]⟩, .slice none 0 0, .int .i64 6, .int .i64 0, .int .i64 0, .string ⟨#[66]⟩, .slice none 0 0, .int .i64 3, .int .i64 1, .int .i64 0, .string ⟨#[]⟩, .slice none 0 0] 37
theorem wf0 (x : Nd) (hk : x.kids = []) (hn : -9223372036854775808 ≤ x.n ∧ x.n ≤ 9223372036854775807) (hs : x.s.size ≤ 9223372036854775807) : NdWf x := ⟨hn, hs, by rw [hk]; exact Nat.zero_le _, fun k hk2 => by rw [hk] at hk2; cases hk2⟩
theorem wf_root : NdWf ⟨8, 0, 0, ⟨#[]⟩, [1, 2, 3, 4]⟩ := ⟨by decide, by decide, by decide, by decide⟩
theorem ex_lit {w : World} {g q : Nat} (hg : w.heap[g]? = some (.cells #[.int .i64 1, .int .i64 2, .int .i64 3, .int .i64 4] 3)) (hq : w.heap[q]? = some (ex25 g)) : NodesAt w (.slice (some ⟨q, 0, none⟩) 5 5) exL :=
  ⟨_, 5, rfl, Nat.le_refl _, fun i hi => by
    match i, hi with
    | 0, _ => exact ⟨q, 0, rfl, cellOf hq 0, cellOf hq 1, cellOf hq 2, cellOf hq 3, wf_root, some ⟨g, 0, none⟩, 4, cellOf hq 4, fun k hk => by
        match k, hk with
        | 0, _ => exact ⟨g, 0, rfl, cellOf hg 0⟩
        | 1, _ => exact ⟨g, 0, rfl, cellOf hg 1⟩
        | 2, _ => exact ⟨g, 0, rfl, cellOf hg 2⟩
        | 3, _ => exact ⟨g, 0, rfl, cellOf hg 3⟩⟩
    | 1, _ => exact ⟨q, 0, rfl, cellOf hq 5, cellOf hq 6, cellOf hq 7, cellOf hq 8, wf0 (nameNd ⟨#[65]⟩) rfl (by decide) (by decide), none, 0, cellOf hq 9, fun k hk => by cases hk⟩
    | 2, _ => exact ⟨q, 0, rfl, cellOf hq 10, cellOf hq 11, cellOf hq 12, cellOf hq 13, wf0 nullNd rfl (by decide) (by decide), none, 0, cellOf hq 14, fun k hk => by cases hk⟩
    | 3, _ => exact ⟨q, 0, rfl, cellOf hq 15, cellOf hq 16, cellOf hq 17, cellOf hq 18, wf0 (nameNd ⟨#[66]⟩) rfl (by decide) (by decide), none, 0, cellOf hq 19, fun k hk => by cases hk⟩
    | 4, _ => exact ⟨q, 0, rfl, cellOf hq 20, cellOf hq 21, cellOf hq 22, cellOf hq 23, wf0 (numNd 1) rfl (by decide) (by decide), none, 0, cellOf hq 24, fun k hk => by cases hk⟩⟩
set_option maxRecDepth 100000 in
set_option maxHeartbeats 2000000 in
theorem lives_walk (w : World) : Calls Tryd.prog 8 #[] w fun e w' => e = .returned (.bool true) ∧ Ext [] w w' := by
  have H1 := Lib.hid ex_walk
  have H2 := Lib.hid (fun (v : Value) (W : World) (h : NodesAt W v exL) => get_walk v exL ⟨#[65]⟩ W h lt_ex)
  have H3 := Lib.hid (fun (u v : Value) (W : World) (hu : NodesAt W u exL) (hv : NodesAt W v exL) => lsame_walk u v exL exL W hu hv (by decide) (by decide))
  have H4 := Lib.hid (fun (u v : Value) (W : World) (hu : NodesAt W u [nullNd]) (hv : NodesAt W v [nullNd]) => lsame_walk u v _ _ W hu hv (by decide) (by decide))
  have H5 := Lib.hid null_walk
  have H6 := Lib.hid (fun (v : Value) (W : World) (h : NodesAt W v exL) => names_walk v exL W h lt_ex)
  have H7 := Lib.hid (fun (u v : Value) (W : World) (hu : StrsAt W u [⟨#[65]⟩, ⟨#[66]⟩]) (hv : StrsAt W v [⟨#[65]⟩, ⟨#[66]⟩]) => sameS_walk u v _ _ W hu hv (by decide) (by decide))
  simp only [get_ex, nm_ex, (sameL_iff _ _).2 rfl, (sameS_iff _ _).2 rfl, Option.isSome_some, Option.getD_some] at H2 H3 H4 H6 H7
  go_enter Tryd.func8, Tryd.ntmps8
  go_wp2_with fail
  refine (H1.out _).mono ?_
  rintro e w1 ⟨v1, rfl, hx1, hN1⟩
  have HA := Lib.hid (⟨hx1, hN1⟩ : _ ∧ _)
  clear hx1 hN1
  go_wp2_with fail
  refine (H2.out _ _ HA.out.2).mono ?_
  rintro e w2 ⟨v2, rfl, hx2, hN2⟩
  have HB := Lib.hid (⟨HA.out.1.trans hx2, hN2⟩ : _ ∧ _)
  clear hx2 hN2 HA
  go_wp2_with fail
  refine (H1.out _).mono ?_
  rintro e w3 ⟨v3, rfl, hx3, hN3⟩
  have HC := Lib.hid (⟨HB.out.1.trans hx3, HB.out.2.ext hx3, hN3⟩ : _ ∧ _ ∧ _)
  clear hx3 hN3 HB
  go_wp2_with fail
  have hsz : (w3.alloc (.cells #[.int .i64 1, .int .i64 2, .int .i64 3, .int .i64 4] 3)).heap.size = w3.heap.size + 1 := by simp
  have hb1 := heap_alloc_at (w := w3) (.cells #[.int .i64 1, .int .i64 2, .int .i64 3, .int .i64 4] 3)
  have hb2 := heap_alloc_at (w := w3.alloc (.cells #[.int .i64 1, .int .i64 2, .int .i64 3, .int .i64 4] 3)) (ex25 w3.heap.size)
  have hxx : Ext [] w3 ((w3.alloc (.cells #[.int .i64 1, .int .i64 2, .int .i64 3, .int .i64 4] 3)).alloc (ex25 w3.heap.size)) := ((Ext.refl [] w3).alloc _).alloc _
  have hb1 := heap_alloc_old (ex25 w3.heap.size) hb1
  rw [hsz] at hb2
  have hL := ex_lit hb1 hb2
  have H8 := Lib.hid (H3.out _ _ _ (HC.out.2.2.ext hxx) hL)
  have HD := Lib.hid (⟨HC.out.1.trans hxx, HC.out.2.1.ext hxx⟩ : _ ∧ _)
  clear hsz hb1 hb2 hxx hL HC H3
  refine H8.out.mono ?_
  rintro e w4 ⟨rfl, hx4⟩
  have HE := Lib.hid (⟨HD.out.1.trans hx4, HD.out.2.ext hx4⟩ : _ ∧ _)
  clear hx4 HD H8
  go_wp2_with fail
  refine (H5.out _).mono ?_
  rintro e w5 ⟨v5, rfl, hx5, hN5⟩
  have H9 := Lib.hid (H4.out _ _ _ (HE.out.2.ext hx5) hN5)
  have HF := Lib.hid (HE.out.1.trans hx5)
  clear hx5 hN5 HE H4 H5
  go_wp2_with fail
  refine H9.out.mono ?_
  rintro e w6 ⟨rfl, hx6⟩
  have HG := Lib.hid (HF.out.trans hx6)
  clear hx6 HF H9
  go_wp2_with fail
  refine (H1.out _).mono ?_
  rintro e w7 ⟨v7, rfl, hx7, hN7⟩
  have HI := Lib.hid (⟨HG.out.trans hx7, hN7⟩ : _ ∧ _)
  clear hx7 hN7 HG
  go_wp2_with fail
  refine (H6.out _ _ HI.out.2).mono ?_
  rintro e w8 ⟨v8, rfl, hx8, hS8⟩
  have HJ := Lib.hid (⟨HI.out.1.trans hx8, hS8⟩ : _ ∧ _)
  clear hx8 hS8 HI
  go_wp2_with fail
  have hb9 := heap_alloc_at (w := w8) (.cells #[.string ⟨#[65]⟩, .string ⟨#[66]⟩] 9)
  have H10 := Lib.hid (H7.out _ _ _ (HJ.out.2.ext ((Ext.refl [] w8).alloc (.cells #[.string ⟨#[65]⟩, .string ⟨#[66]⟩] 9))) (strs2 hb9))
  have HK := Lib.hid (HJ.out.1.trans ((Ext.refl [] w8).alloc (.cells #[.string ⟨#[65]⟩, .string ⟨#[66]⟩] 9)))
  clear hb9 HJ
  refine H10.out.mono ?_
  rintro e w9 ⟨rfl, hx9⟩
  have HL := Lib.hid (HK.out.trans hx9)
  clear hx9 HK H10
  go_wp2_with fail
  go_ret
  exact ⟨rfl, HL.out⟩
end Go.Proofs.YtkjcjklnclahdaaDoor.Tr
