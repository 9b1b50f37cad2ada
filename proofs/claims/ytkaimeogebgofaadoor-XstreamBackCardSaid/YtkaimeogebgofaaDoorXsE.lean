/-
  xstream.array, widths walked, of what may be.
-/
import Derived.Test.YtkaimeogebgofaaDoorXsA
namespace Go.Proofs.YtkaimeogebgofaaDoor.Xs
open Go.RowKit
open Go.Proofs.YtkaimeogebgofaaDoor.Tr

/-- an array of ints alone, in nodes -/
structure KInts (v : List Nd) (L : List Int) : Prop where
  one : 0 < v.length
  kind : (ndAt v 0).kind = 7
  len : (ndAt v 0).kids.length = L.length
  each : ∀ (i : Nat) (h : i < L.length), ∃ c : Nat, (ndAt v 0).kids[i]? = some (c : Int) ∧ c < v.length ∧ (ndAt v (c : Int)).kind = 3 ∧ (ndAt v (c : Int)).n = L[i]'h
theorem ints_row {w : World} {v : Value} {L : List Int} (h : w.ownsRow 0 3 1 v L.length (L.map iz)) : ∃ b c, v = .slice b L.length c ∧ IntsAt w b L := by
  obtain ⟨ao, cap, rfl⟩ := row_slice h
  refine ⟨ao, cap, rfl, fun i hi => ?_⟩
  obtain ⟨g, c2, he⟩ := row_form h (by omega)
  cases he
  exact ⟨g, 0, rfl, by rw [Nat.zero_add]; exact row_cell h (by rw [List.getElem?_map, List.getElem?_eq_getElem hi]; rfl)⟩
set_option maxRecDepth 100000 in
set_option maxHeartbeats 4000000 in
theorem array21_walk (v : Value) (l : List Nd) (L : List Int) (w : World) (h : NodesAt w v l) (hI : KInts l L) (hL : L.length ≤ 65536) :
    Calls Tryd.prog 28 #[v] w fun e w' => ∃ b c, e = .returned (.tuple #[.slice b L.length c, .bool true]) ∧ Ext [] w w' ∧ IntsAt w' b L := by
  obtain ⟨i0, hif, hz0, hz1, hz2⟩ := info_parts infoInt
  obtain ⟨h0, hk7, hkl, hE⟩ := hI
  obtain ⟨base, cap, rfl, -, hN⟩ := h
  obtain ⟨b, o, rfl, hnd⟩ := node_in hN 0 h0
  rw [Nat.zero_mul, Nat.add_zero, show ((0 : Nat) : Int) = 0 from rfl] at hnd
  obtain ⟨r1, -, -, -, -, rb, rc, r5, r6⟩ := hnd
  rw [hk7] at r1
  obtain ⟨x, hx0⟩ : ∃ x, ndAt l 0 = x := ⟨_, rfl⟩
  rw [hx0] at hkl hE r5 r6
  obtain ⟨n, hln⟩ : ∃ n, l.length = n := ⟨_, rfl⟩
  obtain ⟨K, hK⟩ : ∃ K, L.length = K := ⟨_, rfl⟩
  rw [hkl, hK] at r5
  have HH := Lib.hid (⟨hN, hE, r6, hln, hK, hkl⟩ : _ ∧ _ ∧ _ ∧ _ ∧ _ ∧ _)
  rw [hln] at h0 ⊢
  rw [hK] at hL
  have h0z : (0 : Int) < (n : Int) := by omega
  clear hN hE r6 hln hK hkl hk7 hx0 h0
  go_enter Tryd.func28, Tryd.ntmps28
  go_wp2_with fail
  have S := (Sep.start w).new (Ext.refl _ _) (oSl 3 1 (.slice none 0 0) 0 []) (World.ownsRow_nil _ _ _ _) (fun q hq => by simp [oSl, Value.ownBlock] at hq)
  have HS := Lib.hid S
  clear S r1 r5
  go_loopg [4, 6, 17] K (fun g ov v6 iv wr => ∃ i : Nat, g + i = K ∧ iv = .int .i64 i ∧ Sep w wr [oSl 3 1 ov i ((L.take i).map iz)])
  case atStart => exact ⟨0, by omega, rfl, HS.out⟩
  case round =>
    clear HS
    obtain ⟨i, hgi, rfl, S⟩ := hrel
    have hr0 : wr.ownsRow 0 3 1 u4 i ((L.take i).map iz) := S.get 0 rfl
    by_cases hlt : i < K
    case neg =>
      obtain rfl : gk = 0 := by omega
      obtain rfl : i = K := by omega
      have hfull : L.take i = L := List.take_of_length_le (by rw [HH.out.2.2.2.2.1]; omega)
      rw [hfull] at hr0
      have hr1 : wr.ownsRow 0 3 1 u4 L.length (L.map iz) := by rw [HH.out.2.2.2.2.1]; exact hr0
      obtain ⟨bb, cc, rfl, hI⟩ := ints_row hr1
      have HF := Lib.hid (⟨S.ext, hI⟩ : _ ∧ _)
      clear S hr0 hr1 hfull hI
      go_wp2_with fail
      go_ret2
      exact ⟨bb, cc, rfl, HF.out.1, HF.out.2⟩
    case pos =>
    obtain ⟨ao3, c3, rfl⟩ := row_slice hr0
    obtain ⟨g, rfl⟩ : ∃ g, gk = g + 1 := ⟨gk - 1, by omega⟩
    have hltz : (i : Int) < (K : Int) := by omega
    have hiL : i < L.length := by rw [HH.out.2.2.2.2.1]; exact hlt
    have hix : i < x.kids.length := by rw [HH.out.2.2.2.2.2]; exact hiL
    obtain ⟨c, hc1, hc2, hc3, hc4⟩ := HH.out.2.1 i hiL
    obtain ⟨b5, o5, rfl, c5⟩ := HH.out.2.2.1 i hix
    rw [(List.getElem?_eq_some_iff.1 hc1).2] at c5
    obtain ⟨b6, o6, e6, d1, d2, -⟩ := node_in HH.out.1 c hc2
    cases e6
    rw [hc3] at d1
    rw [hc4] at d2
    have c5 := S.ext.cell c5
    have d1 := S.ext.cell d1
    have d2 := S.ext.cell d2
    have hcz : (c : Int) < (n : Int) := by have := HH.out.2.2.2.1; omega
    have htk : L.take (i + 1) = L.take i ++ [L[i]'hiL] := by rw [List.take_succ_eq_append_getElem hiL]
    generalize L[i]'hiL = y at *
    have HX := Lib.hid (⟨S, hr0, htk⟩ : _ ∧ _ ∧ _)
    clear S hr0 htk hc1 hc3 hc4
    go_wp2_with (first | (at_builtin; refine wpList_append_lies _ rfl _ _ 41 rfl 0 3 i0 _ 1 8 Tryd.underlying41 hif hz0 hz1 hz2 rfl (by decide) (.slice ao3 i c3) i _ rfl (World.ownsRow.alloc HX.out.2.1 _) ⟨wr.heap.size, 0, none⟩ 1 1 [.int .i64 y] rfl rfl (cell_one_new _ _ _) (by simp [Value.oneCell']) (by decide) (by unfold maxLen; omega) (by omega) (by omega) (wr.heap.size + 1) (by simp) ?_; intro g6 cap2 w6 hown1 hgrow hat6 hlt6))
    have Pl := push_local (cap := cap2) (n := i + 1) hgrow hat6
    go_roundg g
    case measure => omega
    case rel => exact ⟨i + 1, by omega, by go_num, HX.out.1.upd 0 (oSl 3 1 (.slice (some ⟨g6, 0, none⟩) (i + 1) cap2) (i + 1) ((L.take (i + 1)).map iz)) rfl Pl.1 Pl.2 (by rw [HX.out.2.2, List.map_append]; exact hown1)⟩
/-- W -/
def kW : ByteArray := ⟨#[87]⟩
set_option maxRecDepth 100000 in
set_option maxHeartbeats 2000000 in
theorem widths21_walk (v : Value) (d t : List Nd) (w : World) (h : NodesAt w v d) (hl : Lt d) (hW : getN d kW = some t) (hI : KInts t [1, 4, 2]) :
    Calls Tryd.prog 13 #[v] w fun e w' => ∃ b c, e = .returned (.tuple #[.slice b 3 c, .int .i64 7, .bool true]) ∧ Ext [] w w' ∧ IntsAt w' b [1, 4, 2] := by
  have HG := Lib.hid (get_walk v d kW w h hl)
  rw [hW] at HG
  have HA := Lib.hid (fun u W (hu : NodesAt W u t) => array21_walk u t [1, 4, 2] W hu hI (by simp))
  obtain ⟨base, cap, rfl, -, -⟩ := h
  clear hW hI
  unfold kW at HG
  simp only [Option.isSome_some, Option.getD_some] at HG
  go_enter Tryd.func13, Tryd.ntmps13
  go_wp2_with fail
  refine HG.out.mono ?_
  rintro e w1 ⟨v2, rfl, hx, hN⟩
  have HX := Lib.hid (⟨hx, hN⟩ : _ ∧ _)
  clear hx hN HG
  go_wp2_with fail
  refine (HA.out _ _ HX.out.2).mono ?_
  rintro e w2 ⟨b, c, rfl, hx2, hI⟩
  have HX2 := Lib.hid (⟨HX.out.1.trans hx2, hI⟩ : _ ∧ _)
  obtain ⟨b0, o0, rfl, e0⟩ := hI 0 (by simp)
  obtain ⟨b1, o1, q1, e1⟩ := hI 1 (by simp)
  obtain ⟨b2, o2, q2, e2⟩ := hI 2 (by simp)
  cases q1
  cases q2
  have hMin := Lib.hid (Tryd.slices_Min_int b0 o0 3 c [1, 4, 2] w2 (by omega) (by simp) (by omega) (fun j hj => by
    obtain ⟨b9, o9, q9, e9⟩ := hI j hj
    cases q9
    rw [e9, List.getD_eq_getElem?_getD, List.getElem?_eq_getElem hj]; rfl))
  have hMax := Lib.hid (Tryd.slices_Max_int b0 o0 3 c [1, 4, 2] w2 (by omega) (by simp) (by omega) (fun j hj => by
    obtain ⟨b9, o9, q9, e9⟩ := hI j hj
    cases q9
    rw [e9, List.getD_eq_getElem?_getD, List.getElem?_eq_getElem hj]; rfl))
  rw [show Lib.minOf ([1, 4, 2].take 3) = 1 from rfl] at hMin
  rw [show Lib.maxOf ([1, 4, 2].take 3) = 4 from rfl] at hMax
  have e0 : w2.cell? ⟨b0, o0, none⟩ = some (.int .i64 1) := e0
  have e1 : w2.cell? ⟨b0, o0 + 1, none⟩ = some (.int .i64 4) := e1
  have e2 : w2.cell? ⟨b0, o0 + 2, none⟩ = some (.int .i64 2) := e2
  clear hx2 hI HX HA
  simp only [List.length_cons, List.length_nil]
  go_wp2_with fail
  refine hMin.out.mono ?_
  rintro e w3 ⟨rfl, rfl⟩
  go_wp2_with fail
  refine hMax.out.mono ?_
  rintro e w3 ⟨rfl, rfl⟩
  go_wp2_with fail
  refine hMax.out.mono ?_
  rintro e w3 ⟨rfl, rfl⟩
  go_upto_region 7 with (fail)
  go_quiet (fail)
  go_wp2_with fail
  go_ret3
  exact ⟨_, _, rfl, HX2.out.1.drewN _, HX2.out.2.ext ((Ext.refl [] _).drewN _)⟩
end Go.Proofs.YtkaimeogebgofaaDoor.Xs
