/-
  The document's Drop, One walked.
-/
import Derived.Test.YtkjcjklnclahdaaGreatDoorTuJ
namespace Go.Proofs.YtkjcjklnclahdaaGreatDoor.Tr
open Go.RowKit

set_option maxRecDepth 100000 in
set_option maxHeartbeats 2000000 in
theorem drop17_walk (v : Value) (l : List Nd) (s : ByteArray) (w : World) (h : NodesAt w v l) (hl : Lt l) (hsm : (entsN l s).length ≤ 999) :
    Calls Tryz.prog 28 #[v, .string s] w fun e w' => ∃ v2, e = .returned v2 ∧ Ext [] w w' ∧ NodesAt w' v2 (dropN l s) := by
  have HC := Lib.hid (check17_walk v l w h hl.len hl.s)
  obtain ⟨c, hc⟩ : ∃ c, checkN l = c := ⟨_, rfl⟩
  rw [hc] at HC
  by_cases c0 : c = 0
  case neg =>
    have hR : dropN l s = [] := by rw [dropN, if_pos (by rw [hc]; exact c0)]
    rw [hR]
    obtain ⟨base, cap, rfl, -, -⟩ := h
    have hcb : (c != 0) = true := bne_iff_ne.2 c0
    clear hR hc
    go_enter Tryz.func28, Tryz.ntmps28
    go_wp2_with fail
    refine HC.out.mono ?_
    rintro e w1 ⟨rfl, hx⟩
    have HX := Lib.hid hx
    clear hx HC
    go_wp2_with fail
    go_ret
    exact ⟨_, rfl, HX.out, none, 0, rfl, by simp, fun k hk => by cases hk⟩
  case pos =>
  subst c0
  obtain ⟨h0, hn, E, D, hsh, -⟩ := check_zero hc
  have h' := h
  obtain ⟨base, cap, rfl, -, hN⟩ := h'
  obtain ⟨b, o, rfl, n1, -⟩ := node_in hN 0 h0
  rw [Nat.zero_mul, Nat.add_zero, show ((0 : Nat) : Int) = 0 from rfl] at n1
  have h0z : (0 : Int) < (l.length : Int) := by omega
  by_cases hk8 : (ndAt l 0).kind = 8
  case neg =>
    have hR : dropN l s = subN l 0 := by rw [dropN, if_neg (by rw [hc]; simp), if_pos hk8]
    rw [hR]
    have HS := Lib.hid (fun W (hx : Ext [] w W) => moved_walk W W [] _ l 0 (Sep.start W) (h.ext hx) (by omega) (fun x hx => by
      obtain ⟨q1, q2⟩ := (checked_kids hc).2 x hx
      exact ⟨q1, fun k hk => by have := q2 k hk; omega⟩))
    have HZ := Lib.hid (sub_root (l := l) (by rw [hsh]; simp))
    rw [moveN_zeros] at HS
    obtain ⟨k, hk⟩ : ∃ k, (ndAt l 0).kind = k := ⟨_, rfl⟩
    rw [hk] at n1 hk8
    have hkb : (k != 8) = true := bne_iff_ne.2 hk8
    have HN1 := Lib.hid n1
    clear hR hc hsh hN h hk hk8 n1
    go_enter Tryz.func28, Tryz.ntmps28
    go_wp2_with fail
    refine HC.out.mono ?_
    rintro e w1 ⟨rfl, hx⟩
    have n2 := hx.cell HN1.out
    have HX := Lib.hid hx
    clear hx HC
    go_wp2_with fail
    refine (HS.out _ HX.out).mono ?_
    rintro e w2 ⟨v2, Z, rfl, hZ, S2⟩
    have hN2 : NodesAt w2 v2 (subN l 0) := by rw [HZ.out, ← hZ]; exact (S2.get 0 rfl : ZsP w2 v2 Z).nodes
    have HX2 := Lib.hid (⟨HX.out.trans S2.ext, hN2⟩ : _ ∧ _)
    clear hZ S2 hN2 HX HS n2
    go_wp2_with fail
    go_ret
    exact ⟨_, rfl, HX2.out.1, HX2.out.2⟩
  case pos =>
  have his : isN l 8 = true := by rw [isN]; simp [hc, hk8]
  have hR : dropN l s = (dictN (entsN l s)).1 := by rw [dropN, if_neg (by rw [hc]; simp), if_neg (by simp [hk8])]
  rw [hR]
  obtain ⟨DD, hDD⟩ : ∃ DD, dictN (entsN l s) = DD := ⟨_, rfl⟩
  have HE := Lib.hid (fun W (hx : Ext [] w W) => parts17_walk _ l s W (h.ext hx) his)
  have HP := Lib.hid (fun P hP => ents_P (l := l) (but := s) (P := P) hP his hl)
  rw [hk8] at n1
  rw [hDD]
  have HD := Lib.hid (⟨hDD, hsm⟩ : _ ∧ _)
  have HN1 := Lib.hid n1
  clear hR hc hsh hN h hk8 n1 his hDD hsm
  go_enter Tryz.func28, Tryz.ntmps28
  go_wp2_with fail
  refine HC.out.mono ?_
  rintro e w1 ⟨rfl, hx⟩
  have n2 := hx.cell HN1.out
  have HX := Lib.hid hx
  clear hx HC
  go_wp2_with fail
  refine (HE.out _ HX.out).mono ?_
  rintro e w2 ⟨nv, av, P, F, rfl, S, hP⟩
  have hPl : P.length ≤ 999 := by have := congrArg List.length hP; rw [List.length_map] at this; have := HD.out.2; omega
  have hst : StrsAt w2 nv (P.map (·.1.1)) := by
    refine strs_own ?_
    rw [List.length_map]
    exact S.get 0 rfl
  have htr : TreesAt w2 av (P.map (·.2)) := trees_own (S.get 1 rfl) (fun p hp => (S.get 2 rfl).2 w2 (fun _ _ => rfl) p hp)
  have hok : ∀ p ∈ entsN l s, nameN p.1 = 0 ∧ checkN p.2 = 0 := fun p hp => by
    rw [← hP] at hp
    obtain ⟨x, hx, rfl⟩ := List.mem_map.1 hp
    have := HP.out P hP x hx
    exact ⟨this.2.1, this.2.2.1⟩
  have hdi : dictionN (P.map (·.1.1)) (P.map (·.2)) = DD := by
    rw [diction_ents (Q := entsN l s) (by simp) ?_ hok, HD.out.1]
    rw [zip_maps, ← hP]
  have hdw := dict17X_walk _ _ _ _ w2 hst htr (by rw [List.length_map]; omega) (by rw [List.length_map]; omega) (fun s hs => by
    obtain ⟨x, hx, rfl⟩ := List.mem_map.1 hs
    exact (HP.out P hP x hx).1) (fun x hx => by
    obtain ⟨p, hp, rfl⟩ := List.mem_map.1 hx
    have := HP.out P hP p hp
    exact ⟨by have := (check_zero this.2.2.1).2.1; omega, this.2.2.2⟩)
  rw [hdi] at hdw
  have HW := Lib.hid (⟨hdw, HX.out.trans S.ext⟩ : _ ∧ _)
  clear hdw hst htr hok hdi S hP hPl n2
  go_wp2_with fail
  refine HW.out.1.mono ?_
  rintro e w3 ⟨v3, rfl, hx3, hN3⟩
  have HF := Lib.hid (⟨HW.out.2.trans hx3, hN3⟩ : _ ∧ _)
  clear hx3 hN3 HW HX
  go_wp2_with fail
  go_ret
  exact ⟨_, rfl, HF.out.1, HF.out.2⟩
theorem node_alone {w : World} {g : Nat} {x : Nd} {base : Option Addr} {cap : Nat} {t : TypeId} {f : Nat × Nat} (h : w.heap[g]? = some (.cells #[.int .i64 x.kind, .int .i64 x.n, .int .i64 x.gen, .string x.s, .slice base x.kids.length cap] t f)) (hw : NdWf x) (hI : IntsAt w base x.kids) :
    NodesAt w (.slice (some ⟨g, 0, none⟩) 1 1) [x] :=
  ⟨_, 1, rfl, Nat.le_refl _, fun i hi => by
    obtain rfl : i = 0 := by simpa using hi
    exact ⟨g, 0, rfl, cellOf h 0, cellOf h 1, cellOf h 2, cellOf h 3, hw, base, cap, cellOf h 4, hI⟩⟩
set_option maxRecDepth 100000 in
set_option maxHeartbeats 1000000 in
theorem one17_walk (x : Nd) (hw : NdWf x) (hs : x.s.size ≤ 1000000) (hkl : x.kids.length ≤ 131072) (base : Option Addr) (cap : Nat) (w : World) (hI : IntsAt w base x.kids) :
    Calls Tryz.prog 7 #[.agg #[.int .i64 x.kind, .int .i64 x.n, .int .i64 x.gen, .string x.s, .slice base x.kids.length cap]] w fun e w' => ∃ v2, e = .returned (.tuple #[v2, .int .i64 (oneN x).2]) ∧ Ext [] w w' ∧ NodesAt w' v2 (oneN x).1 := by
  rw [one_doc]
  obtain ⟨c, hc⟩ : ∃ c, checkN [x] = c := ⟨_, rfl⟩
  rw [hc]
  obtain ⟨R, hR⟩ : ∃ R : List Nd × Int, (if c ≠ 0 then ([], 2) else ([x], 0)) = R := ⟨_, rfl⟩
  rw [hR]
  obtain ⟨O, hO⟩ : ∃ O : Obj, Obj.cells #[.int .i64 x.kind, .int .i64 x.n, .int .i64 x.gen, .string x.s, .slice base x.kids.length cap] 25 = O := ⟨_, rfl⟩
  have hx2 : Ext [] w ((w.alloc O).alloc O) := ((Ext.refl [] w).alloc _).alloc _
  have hb2 := heap_alloc_at (w := w.alloc O) O
  rw [show (w.alloc O).heap.size = w.heap.size + 1 from by simp, ← hO] at hb2
  have hN2 := node_alone hb2 hw (hI.ext (by rw [← hO] at hx2; exact hx2))
  rw [hO] at hN2
  have HM := Lib.hid (moved_walk _ _ [] _ [x] 0 (Sep.start _) hN2 (by simp) (fun y hy => by
    obtain rfl : y = x := by simpa using hy
    exact ⟨hkl, fun k hk => by have := hw.kids k hk; omega⟩))
  have HK := Lib.hid (⟨hx2, hc, hs⟩ : _ ∧ _ ∧ _)
  rw [← hO] at HM HK
  have HRR := Lib.hid hR
  clear hx2 hb2 hN2 hc hO hI hR
  go_enter Tryz.func7, Tryz.ntmps7
  go_wp2_with fail
  refine HM.out.mono ?_
  rintro e w3 ⟨v3, Z, rfl, hZ, S⟩
  have hN3 : NodesAt w3 v3 [x] := by
    have := (S.get 0 rfl : ZsP w3 v3 Z).nodes
    rw [hZ, List.map_cons, List.map_nil, moveN_zero] at this
    exact this
  have HC := Lib.hid (check17_walk v3 [x] w3 hN3 (by simp) (fun y hy => by
    obtain rfl : y = x := by simpa using hy
    exact HK.out.2.2))
  rw [HK.out.2.1] at HC
  have HN := Lib.hid (⟨HK.out.1.trans S.ext, hN3⟩ : _ ∧ _)
  clear hZ S hN3 HM
  go_wp2_with fail
  refine HC.out.mono ?_
  rintro e w4 ⟨rfl, hx4⟩
  have HX := Lib.hid (⟨HN.out.1.trans hx4, HN.out.2.ext hx4⟩ : _ ∧ _)
  clear hx4 HC HN
  by_cases c0 : c = 0
  · subst c0
    have hR : R = ([x], 0) := by rw [← HRR.out]; rfl
    subst hR
    go_wp2_with fail
    go_ret2
    exact ⟨_, rfl, HX.out.1, HX.out.2⟩
  · have hcb : (c != 0) = true := bne_iff_ne.2 c0
    have hR : R = ([], 2) := by rw [← HRR.out]; exact if_pos c0
    subst hR
    clear c0
    go_wp2_with fail
    go_ret2
    exact ⟨_, rfl, HX.out.1, none, 0, rfl, by simp, fun k hk => by cases hk⟩
end Go.Proofs.YtkjcjklnclahdaaGreatDoor.Tr
