/-
  XsO, XsP, XsR, XsQ, in one text.
-/
import Derived.Test.YtkaimeogebgofaaGreatDoorXtB
import Derived.Test.YtkaimeogebgofaaGreatDoorPkY
import Derived.Test.YtkaimeogebgofaaGreatDoorTuH
import Derived.Test.YtkaimeogebgofaaGreatDoorTuJ
import Derived.Deep.Strs
import Derived.Deep.Slices
import Derived.OpenShut
import Derived.ChangeArms
/-! XsO: xstream: a dict that tells its parts by Index, plainly. -/
namespace Go.Proofs.YtkaimeogebgofaaGreatDoor.Xs
open Go.RowKit
open Go.Proofs.YtkaimeogebgofaaGreatDoor.Tr

def Fit3 (n : Int) : Prop := -2147483647 ≤ n ∧ n ≤ 2147483647
def arrL (a b c d : Int) : List Nd := [rootN 7 [1, 2, 3, 4], nd3 a, nd3 b, nd3 c, nd3 d]
theorem one_ok {n : Int} (h : Fit3 n) : checkN [nd3 n] = 0 := by
  have e : shapeN [nd3 n] = some ([1], [1]) := by kernel_rfl
  unfold checkN
  rw [if_neg (by show ¬ 65536 < 1; omega), e]
  show (if 256 < Lib.maxOf [1] then (3 : Int) else _) = 0
  rw [if_neg (by decide), if_pos (by rw [List.all_cons, ok3 h]; rfl)]
theorem arr_ok {a b c d : Int} (ha : Fit3 a) (hb : Fit3 b) (hc : Fit3 c) (hd : Fit3 d) : checkN (arrL a b c d) = 0 := by
  have e : shapeN (arrL a b c d) = some ([5, 2, 3, 4, 5], [1, 2, 2, 2, 2]) := by kernel_rfl
  have k0 : nodeOk (arrL a b c d) (rootN 7 [1, 2, 3, 4]) = true := by kernel_rfl
  unfold checkN
  rw [if_neg (by show ¬ 65536 < 5; omega), e]
  show (if 256 < Lib.maxOf [1, 2, 2, 2, 2] then (3 : Int) else _) = 0
  rw [if_neg (by decide), if_pos]
  show [rootN 7 [1, 2, 3, 4], nd3 a, nd3 b, nd3 c, nd3 d].all (nodeOk (arrL a b c d)) = true
  rw [List.all_cons, List.all_cons, List.all_cons, List.all_cons, List.all_cons, k0, ok3 ha, ok3 hb, ok3 hc, ok3 hd]
  rfl
theorem arr_is {a b c d : Int} (ha : Fit3 a) (hb : Fit3 b) (hc : Fit3 c) (hd : Fit3 d) : arrayN [[nd3 a], [nd3 b], [nd3 c], [nd3 d]] = (arrL a b c d, 0) := by
  have h1 : firstN [[nd3 a], [nd3 b], [nd3 c], [nd3 d]] = 0 := by
    rw [firstN, one_ok ha, if_pos rfl, firstN, one_ok hb, if_pos rfl, firstN, one_ok hc, if_pos rfl, firstN, one_ok hd, if_pos rfl, firstN]
  have h2 : underN 7 [[nd3 a], [nd3 b], [nd3 c], [nd3 d]] = if checkN (arrL a b c d) = 0 then (arrL a b c d, 0) else ([], checkN (arrL a b c d)) := rfl
  rw [arrayN, if_pos h1, h2, if_pos (arr_ok ha hb hc hd)]
def dictI (n a b c d : Int) : List Nd := [rootN 8 [1, 2, 7, 8, 9, 10, 11, 12], nd6 kIndex, rootN 7 [3, 4, 5, 6], nd3 a, nd3 b, nd3 c, nd3 d, nd6 kSize, nd3 n, nd6 kType, nd6 kXRef, nd6 kW, rootN 7 [13, 14, 15], nd3 1, nd3 4, nd3 2]
theorem dictI_check {n a b c d : Int} (h : Fit3 n) (ha : Fit3 a) (hb : Fit3 b) (hc : Fit3 c) (hd : Fit3 d) : checkN (dictI n a b c d) = 0 := by
  have e : shapeN (dictI n a b c d) = some ([16, 2, 7, 4, 5, 6, 7, 8, 9, 10, 11, 12, 16, 14, 15, 16], [1, 2, 2, 3, 3, 3, 3, 2, 2, 2, 2, 2, 2, 3, 3, 3]) := by kernel_rfl
  have k0 : nodeOk (dictI n a b c d) (rootN 8 [1, 2, 7, 8, 9, 10, 11, 12]) = true := by kernel_rfl
  have k1 : nodeOk (dictI n a b c d) (nd6 kIndex) = true := by kernel_rfl
  have k2 : nodeOk (dictI n a b c d) (rootN 7 [3, 4, 5, 6]) = true := by kernel_rfl
  have k3 : nodeOk (dictI n a b c d) (nd6 kSize) = true := by kernel_rfl
  have k4 : nodeOk (dictI n a b c d) (nd6 kType) = true := by kernel_rfl
  have k5 : nodeOk (dictI n a b c d) (nd6 kXRef) = true := by kernel_rfl
  have k6 : nodeOk (dictI n a b c d) (nd6 kW) = true := by kernel_rfl
  have k7 : nodeOk (dictI n a b c d) (rootN 7 [13, 14, 15]) = true := by kernel_rfl
  unfold checkN
  rw [if_neg (by show ¬ 65536 < 16; omega), e]
  show (if 256 < Lib.maxOf [1, 2, 2, 3, 3, 3, 3, 2, 2, 2, 2, 2, 2, 3, 3, 3] then (3 : Int) else _) = 0
  rw [if_neg (by decide), if_pos]
  rw [List.all_eq_true]
  intro x hx
  simp only [dictI, List.mem_cons, List.not_mem_nil, or_false] at hx
  rcases hx with rfl | rfl | rfl | rfl | rfl | rfl | rfl | rfl | rfl | rfl | rfl | rfl | rfl | rfl | rfl | rfl
  · exact k0
  · exact k1
  · exact k2
  · exact ok3 ha _
  · exact ok3 hb _
  · exact ok3 hc _
  · exact ok3 hd _
  · exact k3
  · exact ok3 h _
  · exact k4
  · exact k5
  · exact k6
  · exact k7
  · exact ok3 (by decide) _
  · exact ok3 (by decide) _
  · exact ok3 (by decide) _
theorem dictI_set {n a b c d : Int} (h : Fit3 n) (ha : Fit3 a) (hb : Fit3 b) (hc : Fit3 c) (hd : Fit3 d) : setN (dictD n) kIndex (arrL a b c d) = (dictI n a b c d, 0) := by
  have h1 : firstN [dictD n, arrL a b c d] = 0 := by
    rw [firstN, dictD_check h, if_pos rfl, firstN, arr_ok ha hb hc hd, if_pos rfl, firstN]
  have h2 : ¬ ((ndAt (dictD n) 0).kind ≠ 8 ∨ nameN kIndex ≠ 0) := by
    rintro (q | q)
    · exact q rfl
    · exact q (by kernel_rfl)
  have h3 : entsN (dictD n) kIndex ++ [(kIndex, arrL a b c d)] = [(kSize, [nd3 n]), (kType, [nd6 kXRef]), (kW, [rootN 7 [1, 2, 3], nd3 1, nd3 4, nd3 2]), (kIndex, arrL a b c d)] := by kernel_rfl
  have h4 : dictN [(kSize, [nd3 n]), (kType, [nd6 kXRef]), (kW, [rootN 7 [1, 2, 3], nd3 1, nd3 4, nd3 2]), (kIndex, arrL a b c d)] = if checkN (dictI n a b c d) = 0 then (dictI n a b c d, 0) else ([], checkN (dictI n a b c d)) := by kernel_rfl
  rw [setN, if_neg (by rw [h1]; decide), if_neg h2, h3, h4, if_pos (dictI_check h ha hb hc hd)]
theorem dictI_is {n a b c d : Int} (h : Fit3 n) (ha : Fit3 a) (hb : Fit3 b) (hc : Fit3 c) (hd : Fit3 d) : isN (dictI n a b c d) 8 = true := decide_eq_true ⟨dictI_check h ha hb hc hd, rfl⟩
theorem dictI_names {n a b c d : Int} (h : Fit3 n) (ha : Fit3 a) (hb : Fit3 b) (hc : Fit3 c) (hd : Fit3 d) : namesN (dictI n a b c d) = [kIndex, kSize, kType, kW] := by
  rw [namesN, dictI_is h ha hb hc hd]
  kernel_rfl
theorem dictI_get {n a b c d : Int} (h : Fit3 n) (ha : Fit3 a) (hb : Fit3 b) (hc : Fit3 c) (hd : Fit3 d) : getN (dictI n a b c d) kSize = some [nd3 n] ∧ getN (dictI n a b c d) kW = some [rootN 7 [1, 2, 3], nd3 1, nd3 4, nd3 2] ∧ getN (dictI n a b c d) kIndex = some (arrL a b c d) := by
  refine ⟨?_, ?_, ?_⟩ <;> rw [getN, dictI_names h ha hb hc hd]
  · kernel_rfl
  · kernel_rfl
  · kernel_rfl
theorem arr_ints (a b c d : Int) : KInts (arrL a b c d) [a, b, c, d] where
  one := by show 0 < 5; omega
  kind := rfl
  len := rfl
  each := fun i hi => by
    match i, hi with
    | 0, _ => exact ⟨1, rfl, by show 1 < 5; omega, rfl, rfl⟩
    | 1, _ => exact ⟨2, rfl, by show 2 < 5; omega, rfl, rfl⟩
    | 2, _ => exact ⟨3, rfl, by show 3 < 5; omega, rfl, rfl⟩
    | 3, _ => exact ⟨4, rfl, by show 4 < 5; omega, rfl, rfl⟩
theorem small_nd3 (n : Int) : (nd3 n).s.size ≤ 1000000 := by show 0 ≤ 1000000; omega
theorem small_nd6 {s : ByteArray} (h : s.size ≤ 1000000) : (nd6 s).s.size ≤ 1000000 := h
theorem small_root (k : Int) (K : List Int) : (rootN k K).s.size ≤ 1000000 := by show 0 ≤ 1000000; omega
theorem dictI_lt (n a b c d : Int) : Lt (dictI n a b c d) := ⟨by show 16 ≤ _; omega, fun x hx => by
  simp only [dictI, List.mem_cons, List.not_mem_nil, or_false] at hx
  rcases hx with rfl | rfl | rfl | rfl | rfl | rfl | rfl | rfl | rfl | rfl | rfl | rfl | rfl | rfl | rfl | rfl <;> first | exact small_nd3 _ | exact small_root _ _ | exact small_nd6 (by decide)⟩
theorem arr_lt (a b c d : Int) : Lt (arrL a b c d) := ⟨by show 5 ≤ _; omega, fun x hx => by
  simp only [arrL, List.mem_cons, List.not_mem_nil, or_false] at hx
  rcases hx with rfl | rfl | rfl | rfl | rfl <;> first | exact small_nd3 _ | exact small_root _ _⟩
theorem ents_small (n : Int) : (entsN (dictD n) kIndex).length ≤ 999 := by
  have : entsN (dictD n) kIndex = [(kSize, [nd3 n]), (kType, [nd6 kXRef]), (kW, [rootN 7 [1, 2, 3], nd3 1, nd3 4, nd3 2])] := by kernel_rfl
  rw [this]
  show 3 ≤ 999
  omega
end Go.Proofs.YtkaimeogebgofaaGreatDoor.Xs

/-! XsP: law21.num, nums walked. -/
namespace Go.Proofs.YtkaimeogebgofaaGreatDoor.Xs
open Go.RowKit
open Go.Proofs.YtkaimeogebgofaaGreatDoor.Tr

def one3 (n : Int) : Obj := .cells #[.int .i64 3, .int .i64 n, .int .i64 0, .string ⟨#[]⟩, .slice none 0 0] 47
set_option maxRecDepth 100000 in
set_option maxHeartbeats 1000000 in
theorem lnum_walk (n : Int) (w : World) : Calls Tryz.prog 21 #[.int .i64 n] w fun e w' => e = .returned (.slice (some ⟨w.heap.size, 0, none⟩) 1 1) ∧ w' = w.alloc (one3 n) := by
  go_enter Tryz.func21, Tryz.ntmps21
  go_wp2_with fail
  go_ret
  exact ⟨rfl, rfl⟩
set_option maxRecDepth 100000 in
set_option maxHeartbeats 4000000 in
theorem nums21_walk (lb : Option Addr) (cap : Nat) (L : List Int) (w : World) (hI : IntsAt w lb L) (hL : ∀ n ∈ L, -9223372036854775808 ≤ n ∧ n ≤ 9223372036854775807) (hn : L.length ≤ 1000) :
    Calls Tryz.prog 9 #[.slice lb L.length cap] w fun e w' => ∃ v2, e = .returned v2 ∧ Ext [] w w' ∧ NodesAt w' v2 (arrayN (L.map fun n => [nd3 n])).1 := by
  obtain ⟨i0, hif, hz0, hz1, hz2⟩ := info_parts infoNodes
  have HA := Lib.hid (fun v W (hv : TreesAt W v (L.map fun n => [nd3 n])) => array17_walk v _ W hv (by rw [List.length_map]; omega) (fun l hl => by
    obtain ⟨n, -, rfl⟩ := List.mem_map.1 hl
    exact ⟨by show 1 ≤ _; omega, fun x hx => by
      obtain rfl := List.mem_singleton.1 hx
      show 0 ≤ _
      omega⟩))
  obtain ⟨R, hR⟩ : ∃ R, arrayN (L.map fun n => [nd3 n]) = R := ⟨_, rfl⟩
  rw [hR] at HA ⊢
  obtain ⟨K, hK⟩ : ∃ K, L.length = K := ⟨_, rfl⟩
  have HH := Lib.hid (⟨hI, hL, hK⟩ : _ ∧ _ ∧ _)
  rw [hK] at hn ⊢
  have S := (Sep.start w).new (Ext.refl _ _) (oNs [] []) ⟨by simp, fun _ _ p hp => by cases hp⟩ (fun k hk => by cases hk)
  have S := S.new (Ext.refl _ _) (oSl 28 1 (.slice none 0 0) 0 []) (World.ownsRow_nil _ _ _ _) (fun q hq => by simp [oSl, Value.ownBlock] at hq)
  have HS := Lib.hid S
  clear S hI hL hK hR
  go_enter Tryz.func9, Tryz.ntmps9
  go_wp2_with fail
  go_loopg [3, 4] K (fun g ov iv wr => ∃ (j : Nat) (P : List (Et × List Nd)) (F : List Nat), g + j = K ∧ iv = .int .i64 j ∧ P.length = j ∧ P.map (·.2) = (L.take j).map (fun n => [nd3 n]) ∧ Sep w wr [oSl 28 1 ov P.length (P.map fun p => slC p.1.2), oNs F P])
  case atStart => exact ⟨0, [], [], by omega, rfl, rfl, by simp, HS.out⟩
  case round =>
    clear HS
    obtain ⟨j, P, F, hgj, rfl, hm, hR, S⟩ := hrel
    have hr0 : wr.ownsRow 0 28 1 u3 P.length (P.map fun p => slC p.1.2) := S.get 0 rfl
    obtain ⟨ao3, c3, rfl⟩ := row_slice hr0
    by_cases hjK : j < K
    case neg =>
      obtain rfl : gk = 0 := by omega
      have hRA : P.map (·.2) = L.map (fun n => [nd3 n]) := by rw [hR, List.take_of_length_le (by rw [HH.out.2.2]; omega)]
      have hTr := trees_own hr0 ((S.get 1 rfl).2 wr (fun _ _ => rfl))
      rw [hRA] at hTr
      have HX := Lib.hid (⟨S.ext, HA.out _ _ hTr⟩ : _ ∧ _)
      clear hR S hr0 hRA hTr hm HA
      go_wp2_with fail
      refine HX.out.2.mono ?_
      rintro e w5 ⟨v2, rfl, hx, hN⟩
      have HX5 := Lib.hid (⟨HX.out.1.trans hx, hN⟩ : _ ∧ _)
      clear hx hN HX
      go_wp2_with fail
      go_ret
      exact ⟨_, rfl, HX5.out.1, HX5.out.2⟩
    case pos =>
    obtain ⟨g, rfl⟩ : ∃ g, gk = g + 1 := ⟨gk - 1, by omega⟩
    have hjz : (j : Int) < (K : Int) := by omega
    have hj1 : j < L.length := by rw [HH.out.2.2]; omega
    obtain ⟨b5, o5, rfl, c5⟩ := HH.out.1 j hj1
    have c5 := S.ext.cell c5
    have htk : L.take (j + 1) = L.take j ++ [L[j]'hj1] := by rw [List.take_succ_eq_append_getElem hj1]
    have hnb := HH.out.2.1 _ (List.getElem_mem hj1)
    generalize L[j]'hj1 = c at *
    have HX := Lib.hid (⟨S, hR, hm, hr0, htk, hnb⟩ : _ ∧ _ ∧ _ ∧ _ ∧ _ ∧ _)
    clear S hR hr0 htk hnb
    have HM := Lib.hid hm
    rw [hm] at HX ⊢
    clear hm
    have HNm := Lib.hid (lnum_walk c wr)
    go_wp2_with fail
    refine HNm.out.mono ?_
    rintro e W ⟨rfl, hW⟩
    have hxW : Ext [] wr W := by rw [hW]; exact (Ext.refl [] wr).alloc _
    have hb : W.heap[wr.heap.size]? = some (one3 c) := by rw [hW]; exact heap_alloc_at _
    have hlt : wr.heap.size < W.heap.size := by rw [hW]; simp
    obtain ⟨q, hq⟩ : ∃ q, wr.heap.size = q := ⟨_, rfl⟩
    rw [hq] at hb hlt ⊢
    have SW := (HX.out.1).upd 1 (oNs (F ++ [q]) (P ++ [((⟨#[]⟩, some ⟨q, 0, none⟩, 1, 1), [nd3 c])])) rfl hxW.weak (fun r hr => by
      have hr : r ∈ F ++ [q] := hr
      rcases List.mem_append.1 hr with hr | hr
      · exact .inl hr
      · obtain rfl := List.mem_singleton.1 hr
        exact .inr (by omega)) ⟨fun r hr => by
      rcases List.mem_append.1 hr with hr | hr
      · exact Nat.lt_of_lt_of_le (((HX.out.1).get 1 rfl).1 r hr) hxW.size
      · obtain rfl := List.mem_singleton.1 hr
        exact hlt, fun w2 h2 p hp => by
      rcases List.mem_append.1 hp with hp | hp
      · refine ((HX.out.1).get 1 rfl).2 w2 (fun r hr => ?_) p hp
        rw [h2 r (List.mem_append_left _ hr)]
        exact hxW.block r (((HX.out.1).get 1 rfl).1 r hr) (by simp)
      · obtain rfl : p = ((⟨#[]⟩, some ⟨q, 0, none⟩, 1, 1), [nd3 c]) := by simpa using hp
        exact one_nodes (x := nd3 c) ((h2 q (by simp)).trans hb) rfl HX.out.2.2.2.2.2 (by show (0 : Nat) ≤ _; omega)⟩
    have hrw := ownsRow_ext HX.out.2.2.2.1 hxW (by simp)
    have HR := Lib.hid (⟨SW, hrw⟩ : _ ∧ _)
    clear SW hrw hxW hb hlt hq hW c5 HNm
    go_wp2_with (first | (at_builtin; refine wpList_append_lies _ rfl _ _ 50 rfl 0 28 i0 _ 1 24 Tryz.underlying50 hif hz0 hz1 hz2 rfl (by decide) (.slice ao3 j c3) j _ rfl (World.ownsRow.alloc HR.out.2 _) ⟨W.heap.size, 0, none⟩ 1 1 [.slice (some ⟨q, 0, none⟩) 1 1] rfl rfl (cell_one_new _ _ _) (by simp [Value.oneCell']) (by decide) (by unfold maxLen; omega) (by omega) (by omega) (W.heap.size + 1) (by simp) ?_; intro g6 cap2 w6 hown1 hgrow hat6 hlt6))
    have Pl := push_local (cap := cap2) (n := j + 1) hgrow hat6
    have hl1 : (P ++ [(((⟨#[]⟩, some ⟨q, 0, none⟩, 1, 1) : Et), [nd3 c])]).length = j + 1 := by rw [List.length_append, HM.out]; rfl
    have S2 := HR.out.1.upd 0 (oSl 28 1 (.slice (some ⟨g6, 0, none⟩) (j + 1) cap2) (P ++ [(((⟨#[]⟩, some ⟨q, 0, none⟩, 1, 1) : Et), [nd3 c])]).length ((P ++ [(((⟨#[]⟩, some ⟨q, 0, none⟩, 1, 1) : Et), [nd3 c])]).map fun p => slC p.1.2)) rfl Pl.1 Pl.2 (by
      show World.ownsRow _ 0 28 1 _ _ _
      rw [hl1, List.map_append]
      exact hown1)
    go_roundg g
    case measure => omega
    case rel =>
      refine ⟨j + 1, _, _, by omega, by go_num, hl1, ?_, S2⟩
      rw [List.map_append, HX.out.2.1, HX.out.2.2.2.2.1, List.map_append]
      rfl
end Go.Proofs.YtkaimeogebgofaaGreatDoor.Xs

/-! XsR: The argument []api.Entry; what Put tells, told apart. -/
namespace Go.Proofs.YtkaimeogebgofaaGreatDoor.Xs
open Go.RowKit
open Go.Proofs.YtkaimeogebgofaaGreatDoor.Tr
open Go.ChangeShapes Go.WideShapes

theorem cellsInt21 : Tryz.prog.cellsOf 3 = 1 := by kernel_rfl
theorem cellsEn21 : Tryz.prog.cellsOf 37 = 4 := by kernel_rfl
theorem ad21 (b o k : Nat) : (⟨b, o, none⟩ : Addr).add k = ⟨b, o + k, none⟩ := by unfold Addr.add; split <;> simp_all
theorem trod_struct4 {H : Type} {enc : TypeId × Value → H} {w : World} {base : Nat} {sp : Nat → Bool} {held : Bool} {P : Program} {t : TypeId} {f0 f1 f2 f3 : Field} {fuel : Nat} {cs : List Value} {x : DataW H × List MemPlace} (ht : P.underlying t = some (.struct #[f0, f1, f2, f3])) (h : DataW.trod enc P w base sp held fuel t cs = some x) :
    ∃ y0 y1 y2 y3 n, cs.length = P.cellsOf t ∧ DataW.trod enc P w base sp held n f0.type ((cs.drop f0.offset).take (P.cellsOf f0.type)) = some y0 ∧
      DataW.trod enc P w base sp held n f1.type ((cs.drop f1.offset).take (P.cellsOf f1.type)) = some y1 ∧ DataW.trod enc P w base sp held n f2.type ((cs.drop f2.offset).take (P.cellsOf f2.type)) = some y2 ∧
      DataW.trod enc P w base sp held n f3.type ((cs.drop f3.offset).take (P.cellsOf f3.type)) = some y3 := by
  obtain ⟨xs, n, _, rfl, hl, hlen, hf⟩ := DataW.trod_struct ht h
  match xs, hlen with
  | [y0, y1, y2, y3], _ => exact ⟨y0, y1, y2, y3, n, hl, by simpa using hf 0 f0 rfl, by simpa using hf 1 f1 rfl, by simpa using hf 2 f2 rfl, by simpa using hf 3 f3 rfl⟩
def EnArg (w : World) (v : Value) (l : List En) : Prop := EnsAt w v l ∧ l.length ≤ 9223372036854775807 ∧ ∀ x ∈ l, EnWf x
set_option maxRecDepth 100000 in
theorem open_ents {H : Type} {enc : TypeId × Value → H} {w : World} {base : Nat} {sp : Nat → Bool} {held : Bool} {r : Reach} {b0 : Nat} {v : Value} {d : DataW H} {ps : List MemPlace} (hval : Value.okWide Tryz.prog w r b0 22 v) (hd : DataW.Trod enc Tryz.prog w base sp held 22 v d ps) :
    ∃ l, EnArg w v l := by
  obtain ⟨a0, len0, cap0, rfl⟩ := okWide_slice Tryz.underlying22 hval
  obtain ⟨fuel, hf⟩ := hd
  simp only [Value.cells] at hf
  rcases Go.Deep.open_slice Tryz.underlying22 hf with ⟨hc, _⟩ | ⟨a, len, cap, m, n, D, Pl, hc, _, hl, hm, hmm, _, hx⟩
  · obtain ⟨rfl, rfl, rfl⟩ : a0 = none ∧ len0 = 0 ∧ cap0 = 0 := by simpa using hc
    exact ⟨[], ⟨none, 0, rfl, Nat.le_refl _, fun i hi => (by cases hi)⟩, by simp, fun x hx => by cases hx⟩
  · obtain ⟨rfl, rfl, rfl⟩ : a0 = some a ∧ len0 = len ∧ cap0 = cap := by simpa using hc
    have hlm : len0 ≤ m := by rw [hmm]; split <;> omega
    have each : ∀ i, i < len0 → ∃ q : En, w.cell? (a.add (i * 4)) = some (.int .i64 q.num) ∧ w.cell? ((a.add (i * 4)).add 1) = some (.int .i64 q.kind) ∧ w.cell? ((a.add (i * 4)).add 2) = some (.int .i64 q.a) ∧ w.cell? ((a.add (i * 4)).add 3) = some (.int .i64 q.b) ∧ EnWf q := by
      intro i hi
      obtain ⟨cs', h1, h2⟩ := hx i (by omega)
      rw [cellsEn21] at h1
      obtain ⟨_, hlen, hcell⟩ := World.cells?_some h1
      obtain ⟨y0, y1, y2, y3, k, _, g0, g1, g2, g3⟩ := trod_struct4 Tryz.underlying37 h2
      match cs', hlen with
      | [v0, v1, v2, v3], _ =>
        have e0 := hcell 0 (by omega)
        have e1 := hcell 1 (by omega)
        have e2 := hcell 2 (by omega)
        have e3 := hcell 3 (by omega)
        simp [cellsInt21] at g0 g1 g2 g3
        obtain ⟨n0, hn0, _, w0⟩ := DataW.trod_int Tryz.underlying3 g0
        obtain ⟨n1, hn1, _, w1⟩ := DataW.trod_int Tryz.underlying3 g1
        obtain ⟨n2, hn2, _, w2⟩ := DataW.trod_int Tryz.underlying3 g2
        obtain ⟨n3, hn3, _, w3⟩ := DataW.trod_int Tryz.underlying3 g3
        simp only [List.cons.injEq, and_true] at hn0 hn1 hn2 hn3
        subst hn0 hn1 hn2 hn3
        exact ⟨⟨n0, n1, n2, n3⟩, by rw [show (a.add (i * 4)).add 0 = a.add (i * 4) from by simp [Addr.add]] at e0; simpa using e0, by simpa using e1, by simpa using e2, by simpa using e3, ⟨Kt.wf_i64 w0, Kt.wf_i64 w1, Kt.wf_i64 w2, Kt.wf_i64 w3⟩⟩
    obtain ⟨f, hf⟩ := Go.Deep.choose_lt each
    have hfl : ((List.range len0).map f).length = len0 := by simp
    refine ⟨(List.range len0).map f, ⟨some a, cap0, by rw [hfl], by rw [hfl]; exact hl, fun i hi => ?_⟩, by rw [hfl]; unfold maxLen at hm; omega, fun x hx => ?_⟩
    · rw [hfl] at hi
      have hspot : a.spot = none := by simpa [Addr.add] using World.cell?_spot (hf 0 (by omega)).1
      obtain ⟨b, off, sp0⟩ := a
      obtain rfl : sp0 = none := hspot
      obtain ⟨h0, h1, h2, h3, -⟩ := hf i hi
      simp only [ad21] at h0 h1 h2 h3
      refine ⟨b, off, rfl, ?_⟩
      rw [List.getElem_map, List.getElem_range]
      exact ⟨h0, h1, h2, h3⟩
    · obtain ⟨i, hi, rfl⟩ := List.mem_map.1 hx
      exact (hf i (List.mem_range.1 hi)).2.2.2.2
theorem putN_bad {l : List En} {size : Int} (h : (putN l size).2 ≠ 0) : (putN l size).1 = [] := by
  unfold putN at h ⊢
  split
  · rfl
  · split
    · rfl
    · rename_i h1 h2
      rw [if_neg h1, if_neg h2] at h
      exact absurd rfl h
theorem putN_ok {l : List En} {size : Int} (h : (putN l size).2 = 0) : ∃ N : Nat, size = (N : Int) ∧ secN none l = true ∧ (∀ x ∈ l, FitE x ∧ 0 ≤ x.num ∧ x.num < size) ∧ putN l size = (rowsU (allF N 0 l), 0) := by
  unfold putN at h
  split at h
  · cases h
  · split at h
    · cases h
    · rename_i h1 h2
      have h1 : secN none l = true := by simpa using h1
      have hb : putBad l size = false := by simpa using h2
      unfold putBad at hb
      rw [Bool.or_eq_false_iff, Bool.or_eq_false_iff] at hb
      obtain ⟨b1, b2, b3⟩ := hb
      have b1 := of_decide_eq_false b1
      have b2 := of_decide_eq_false b2
      refine ⟨size.toNat, by omega, h1, fun x hx => ?_, ?_⟩
      · have h3 := (secN_mem l none h1 x hx).1
        have h4 := (List.any_eq_false.1 b3) x hx
        simp at h4
        exact ⟨⟨h3, by omega⟩, (may_facts h3).1, by omega⟩
      · unfold putN
        rw [if_neg (by rw [h1]; decide), if_neg (by rw [putBad, decide_eq_false b1, decide_eq_false b2, b3]; decide)]
end Go.Proofs.YtkaimeogebgofaaGreatDoor.Xs

/-! XsQ: law21.XstreamIndex walked. -/
namespace Go.Proofs.YtkaimeogebgofaaGreatDoor.Xs
open Go.RowKit
open Go.Proofs.YtkaimeogebgofaaGreatDoor.Tr

theorem cut_list (T : ByteArray) (k : Nat) (_ : k ≤ T.size) : (T.extract k T.size ++ T.extract 0 k).data.toList = T.data.toList.drop k ++ T.data.toList.take k := by
  have hl : T.data.toList.length = T.size := rfl
  rw [ByteArray.data_append, Array.toList_append, ByteArray.data_extract, ByteArray.data_extract, Array.toList_extract, Array.toList_extract, List.extract_eq_take_drop, List.extract_eq_take_drop, List.drop_zero, Nat.sub_zero]
  congr 1
  exact List.take_of_length_le (by rw [List.length_drop, hl]; omega)
theorem cut_size (T : ByteArray) (k : Nat) (h : k ≤ T.size) : (T.extract k T.size ++ T.extract 0 k).size = T.size := by
  show (T.extract k T.size ++ T.extract 0 k).data.toList.length = T.size
  rw [cut_list T k h, List.length_append, List.length_drop, List.length_take]
  have hl : T.data.toList.length = T.size := rfl
  omega
/-- rows in two parts -/
theorem index_walk (dv : Value) (N k : Nat) (l : List En) (w : World) (h : NodesAt w dv (dictI N k ((N - k : Nat) : Int) 0 k)) (hN : N ≤ 300) (hk : k ≤ N) (hl : ∀ x ∈ l, FitE x) (T : ByteArray) (hT : T = S8 (rowsU (allF N 0 l))) :
    Calls Tryz.prog 10 #[dv, .string (T.extract (7 * k) T.size ++ T.extract 0 (7 * k))] w fun e w' => ∃ v2, e = .returned (.tuple #[v2, .int .i64 0]) ∧ Ext [] w w' ∧ EnsAt w' v2 (allF N 0 l) := by
  have b1 : Fit3 (N : Int) := ⟨by omega, by omega⟩
  have b2 : Fit3 (k : Int) := ⟨by omega, by omega⟩
  have b3 : Fit3 ((N - k : Nat) : Int) := ⟨by omega, by omega⟩
  have b4 : Fit3 0 := ⟨by omega, by omega⟩
  obtain ⟨g1, g2, g3⟩ := dictI_get b1 b2 b3 b4 b2
  have hf := fit_allF (N := N) (by omega) hl
  have hE := sec_allF (N := N) (by omega) hl
  have hXl := allF_len N 0 l
  have hu := up_allF N l
  have hnum := num_allF N l
  obtain ⟨X, hX⟩ : ∃ X, allF N 0 l = X := ⟨_, rfl⟩
  rw [hX] at hf hE hXl hu hnum hT ⊢
  have hTs : T.size = 7 * N := by rw [hT, S8_size, rowsU_len, hXl]
  have hTl : T.data.toList = rowsU X := by rw [hT, S8_list]
  have hRl : (rangeI k (N - k) ++ rangeI 0 k).length = N := by rw [List.length_append, rangeI_len, rangeI_len]; omega
  obtain ⟨t1, t2⟩ := rowsU_take X k (by omega)
  obtain ⟨s1, s2⟩ := rangeI_split k N hk
  have hdata : (T.extract (7 * k) T.size ++ T.extract 0 (7 * k)).data.toList = rowsU (X.drop k ++ X.take k) := by
    rw [cut_list T (7 * k) (by omega), hTl, t1, t2, rowsU_append]
  have hmap : (X.drop k ++ X.take k).map (·.num) = rangeI k (N - k) ++ rangeI 0 k := by
    rw [List.map_append, List.map_drop, List.map_take, hnum, s1, s2]
  refine read21_walk dv _ _ _ N [(k : Int), ((N - k : Nat) : Int), 0, (k : Int)] (rangeI k (N - k) ++ rangeI 0 k) _ X w h (dictI_lt _ _ _ _ _) (dictI_is b1 b2 b3 b4 b2) (by show 0 < 16; omega) g2 w142 g1 ⟨Nat.zero_lt_one, rfl, rfl⟩ (by omega) (.inr ⟨_, g3, arr_ints _ _ _ _⟩) (by show 4 % 2 = 0; rfl) (by show 4 ≤ 65536; omega) (by rw [hRl]; exact nums_cut k N hk) (by omega) ?_ ?_ hu hE
  · rw [cut_size T (7 * k) (by omega), hTs, hRl]
  · rw [hdata, ← hmap, rdE_rows _ (fun x hx => by
      rcases List.mem_append.1 hx with hx | hx
      · exact hf x (List.mem_of_mem_drop hx)
      · exact hf x (List.mem_of_mem_take hx))]
    have := List.perm_append_comm (l₁ := X.take k) (l₂ := X.drop k)
    rw [List.take_append_drop] at this
    exact this
theorem ints4 {w : World} {b : Nat} {x y z u : Int} {t : TypeId} {f : Nat × Nat} (h : w.heap[b]? = some (.cells #[.int .i64 x, .int .i64 y, .int .i64 z, .int .i64 u] t f)) : IntsAt w (some ⟨b, 0, none⟩) [x, y, z, u] := fun i hi => by
  match i, hi with
  | 0, _ => exact ⟨b, 0, rfl, cellOf h 0⟩
  | 1, _ => exact ⟨b, 0, rfl, cellOf h 1⟩
  | 2, _ => exact ⟨b, 0, rfl, cellOf h 2⟩
  | 3, _ => exact ⟨b, 0, rfl, cellOf h 3⟩
set_option maxRecDepth 100000 in
set_option maxHeartbeats 16000000 in
theorem index_law (v : Value) (size a : Int) (l : List En) (hsz : -9223372036854775808 ≤ size ∧ size ≤ 9223372036854775807) (haz : -9223372036854775808 ≤ a ∧ a ≤ 9223372036854775807) (w : World) (h : EnArg w v l) :
    Calls Tryz.prog 3 #[v, .int .i64 size, .int .i64 a] w fun e w' => e = .returned (.bool true) ∧ Ext [] w w' := by
  obtain ⟨h, hlen, hwf⟩ := h
  have HLv := Lib.hid lives21_walk
  by_cases hbig : 60 < l.length
  · obtain ⟨base, cap, rfl, -, -⟩ := id h
    have hbz : (60 : Int) < (l.length : Int) := by omega
    obtain ⟨n, hn⟩ : ∃ n, l.length = n := ⟨_, rfl⟩
    rw [hn] at hbz ⊢
    clear h hlen hwf hn
    go_enter Tryz.func3, Tryz.ntmps3
    go_wp2_with fail
    refine (HLv.out _).mono ?_
    rintro e w1 ⟨rfl, hx⟩
    have HX := Lib.hid hx
    clear hx HLv
    go_wp2_with fail
    go_ret
    exact ⟨rfl, HX.out⟩
  have hbz : ¬ (60 : Int) < (l.length : Int) := by omega
  by_cases hs3 : 300 < size
  · obtain ⟨base, cap, rfl, -, -⟩ := id h
    obtain ⟨n, hn⟩ : ∃ n, l.length = n := ⟨_, rfl⟩
    rw [hn] at hbz ⊢
    clear h hlen hwf hn
    go_enter Tryz.func3, Tryz.ntmps3
    go_wp2_with fail
    refine (HLv.out _).mono ?_
    rintro e w1 ⟨rfl, hx⟩
    have HX := Lib.hid hx
    clear hx HLv
    go_wp2_with fail
    go_ret
    exact ⟨rfl, HX.out⟩
  have HPut := Lib.hid (fun W (hx : Ext [] w W) => put21_walk v l size W (h.ext hx) (by omega) (by omega) hsz.1)
  by_cases hp : (putN l size).2 = 0
  case neg =>
    have hp1 := putN_bad hp
    obtain ⟨c, hc⟩ : ∃ c, (putN l size).2 = c := ⟨_, rfl⟩
    rw [hp1, hc] at HPut
    rw [hc] at hp
    have hcb : (c != 0) = true := bne_iff_ne.2 hp
    unfold S8 at HPut
    obtain ⟨base, cap, rfl, -, -⟩ := id h
    obtain ⟨n, hn⟩ : ∃ n, l.length = n := ⟨_, rfl⟩
    rw [hn] at hbz HPut ⊢
    clear h hlen hwf hn hp1 hc
    go_enter Tryz.func3, Tryz.ntmps3
    go_wp2_with fail
    refine (HLv.out _).mono ?_
    rintro e w1 ⟨rfl, hx⟩
    have HX := Lib.hid hx
    have HPu := Lib.hid (HPut.out _ hx)
    clear hx HLv HPut
    go_wp2_with fail
    refine HPu.out.mono ?_
    rintro e w2 ⟨rfl, hx⟩
    have HX2 := Lib.hid (HX.out.trans hx)
    clear hx HPu HX
    go_wp2_with fail
    go_ret
    exact ⟨rfl, HX2.out⟩
  case pos =>
  obtain ⟨N, rfl, hsec, hfit, hput⟩ := putN_ok hp
  rw [hput] at HPut
  have hfl : ∀ x ∈ l, FitE x := fun x hx => (hfit x hx).1
  have HDi := Lib.hid (fun W => dict21_walk N hsz W)
  have HRd := Lib.hid (fun dv W (hv : NodesAt W dv (dictD N)) => back_walk dv N l W hv (by omega) hfl)
  have HPk := Lib.hid (fun W => Kt.pick_any a ((N : Int) + 1) W (by omega) (by omega) haz.1 haz.2)
  obtain ⟨k, hk⟩ : ∃ k : Nat, a % ((N : Int) + 1) = (k : Int) := ⟨(a % ((N : Int) + 1)).toNat, by have := Int.emod_nonneg a (show (N : Int) + 1 ≠ 0 by omega); omega⟩
  have hkN : k ≤ N := by have := Int.emod_lt_of_pos a (show 0 < (N : Int) + 1 by omega); omega
  rw [hk] at HPk
  have hS : (S8 (rowsU (allF N 0 l))).size = 7 * N := by rw [S8_size, rowsU_len, allF_len]
  obtain ⟨T, hT⟩ : ∃ T, S8 (rowsU (allF N 0 l)) = T := ⟨_, rfl⟩
  simp only [hT] at HPut HRd hS
  have HIx := Lib.hid (fun dv W (hv : NodesAt W dv (dictI N k ((N - k : Nat) : Int) 0 k)) => index_walk dv N k l W hv (by omega) hkN hfl T hT.symm)
  have b1 : Fit3 (N : Int) := ⟨by omega, by omega⟩
  have b2 : Fit3 (k : Int) := ⟨by omega, by omega⟩
  have b3 : Fit3 ((N - k : Nat) : Int) := ⟨by omega, by omega⟩
  have b4 : Fit3 0 := ⟨by omega, by omega⟩
  have HNs := Lib.hid (fun b cap W (hI : IntsAt W b [(k : Int), ((N - k : Nat) : Int), 0, (k : Int)]) => nums21_walk b cap [(k : Int), ((N - k : Nat) : Int), 0, (k : Int)] W hI (fun n hn => by
    simp only [List.mem_cons, List.not_mem_nil, or_false] at hn
    rcases hn with rfl | rfl | rfl | rfl <;> omega) (by simp))
  simp only [List.map_cons, List.map_nil, arr_is b2 b3 b4 b2, List.length_cons, List.length_nil, Nat.zero_add, Nat.reduceAdd] at HNs
  have HSt := Lib.hid (fun u v W (hu : NodesAt W u (dictD N)) (hv : NodesAt W v (arrL k ((N - k : Nat) : Int) 0 k)) => set17_walk u v (dictD N) _ kIndex W hu hv (dictD_lt N) (arr_lt _ _ _ _) (by decide) (ents_small N))
  simp only [dictI_set b1 b2 b3 b4 b2] at HSt
  unfold kIndex at HSt
  have HSa := Lib.hid (fun u v W (hu : EnsAt W u (allF N 0 l)) (hv : EnsAt W v (allF N 0 l)) => sameE_walk u v _ W hu hv (by rw [allF_len]; omega))
  have hsub : (N : Int) - (k : Int) = ((N - k : Nat) : Int) := by omega
  obtain ⟨M, hM⟩ : ∃ M, N - k = M := ⟨_, rfl⟩
  rw [hM] at HIx HNs HSt hsub
  obtain ⟨X, hX⟩ : ∃ X, allF N 0 l = X := ⟨_, rfl⟩
  rw [hX] at HRd HIx HSa
  obtain ⟨P, hP⟩ : ∃ P, 7 * k = P := ⟨_, rfl⟩
  rw [hP] at HIx
  have hP7 : (7 : Int) * (k : Int) = (P : Int) := by omega
  have hPz : (0 : Int) ≤ (P : Int) := by omega
  have hPT : (P : Int) ≤ (T.size : Int) := by omega
  have hTz : T.size ≤ 2100 := by omega
  obtain ⟨base, cap, rfl, -, hI⟩ := id h
  obtain ⟨n, hn⟩ : ∃ n, l.length = n := ⟨_, rfl⟩
  rw [hn] at hbz HPut ⊢
  clear h hlen hwf hn hp hsec hfit hput hT hS hI hbig hfl hX hP hk
  go_enter Tryz.func3, Tryz.ntmps3
  go_wp2_with fail
  refine (HLv.out _).mono ?_
  rintro e w1 ⟨rfl, hx⟩
  have HX := Lib.hid hx
  have HPu := Lib.hid (HPut.out _ hx)
  clear hx HLv HPut
  go_wp2_with fail
  refine HPu.out.mono ?_
  rintro e w2 ⟨rfl, hx⟩
  have HX2 := Lib.hid (HX.out.trans hx)
  clear hx HPu HX
  go_wp2_with fail
  refine (HPk.out _).mono ?_
  rintro e w3 ⟨rfl, rfl⟩
  go_wp2_with fail
  refine (HDi.out _).mono ?_
  rintro e w3 ⟨dv, rfl, hx, hN⟩
  have HX3 := Lib.hid (⟨HX2.out.trans hx, hN⟩ : _ ∧ _)
  obtain ⟨db, dc, rfl, -⟩ := hN
  clear hx HX2 HPk
  go_wp2_with fail
  refine (HNs.out _ _ _ (ints4 (heap_alloc_at _))).mono ?_
  rintro e w4 ⟨v4, rfl, hx, hN⟩
  have HX4 := Lib.hid (⟨HX3.out.1.trans (((Ext.refl [] w3).alloc _).trans hx), HX3.out.2.ext (((Ext.refl [] w3).alloc _).trans hx), hN⟩ : _ ∧ _ ∧ _)
  obtain ⟨ab, ac, rfl, -⟩ := hN
  clear hx HX3 HNs
  go_wp2_with fail
  refine (HSt.out _ _ _ HX4.out.2.1 HX4.out.2.2).mono ?_
  rintro e w5 ⟨v5, rfl, hx, hN⟩
  have HX5 := Lib.hid (⟨HX4.out.1.trans hx, hN⟩ : _ ∧ _)
  obtain ⟨sb, sc, rfl, -⟩ := hN
  clear hx HX4 HSt
  go_upto_region 10 with (fail)
  go_cut [11, 12] (fun c d wx => d = .int .i64 0 ∧ EnsAt wx c X ∧ Ext [] w wx)
  case first =>
    have hPn : P ≤ T.size := by omega
    have j0 : (T.extract P T.size).size + (T.extract 0 P).size = T.size := by rw [ByteArray.size_extract, ByteArray.size_extract]; omega
    have j1 : ¬ 9223372036854775807 < (T.extract P T.size).size + (T.extract 0 P).size := by omega
    have j2 : ¬ 9223372036854775807 < T.size - P + min P T.size := by omega
    have j3 : ¬ 9223372036854775807 < T.size - P + P := by omega
    have j4 : T.size - P + min P T.size ≤ 9223372036854775807 := by omega
    have j5 : min P T.size = P := by omega
    refine wp_region_perm (C := fun w' => ∃ y : Ex w5, w' = y.w) [0, 1, 2, 3, 4, 5, 6, 7, 8, 9] 15 (by kernel_rfl) (by kernel_rfl) ⟨Ex.mk _ ((Ext.refl [] w5).drew), rfl⟩ ?_
    simp only [pick, List.getElem?_toArray, List.getElem?_cons_zero, List.getElem?_cons_succ, List.drop_succ_cons, List.drop_zero]
    repeat (go_big_quiet_step (fail))
    refine wpQuiet_nil ?_
    refine anyC_one (f := 4) (i := 10) (by kernel_rfl) (by decide) rfl rfl (fun K hK => ?_)
    go_wp2_with fail
    refine (HIx.out _ _ (HX5.out.2.ext ((Ext.refl [] w5).drew))).mono ?_
    rintro e w6 ⟨v6, rfl, hx, hE⟩
    have HX6 := Lib.hid (⟨((Ext.refl [] w5).drew).trans hx, hE⟩ : _ ∧ _)
    obtain ⟨xb, xc, rfl, -⟩ := hE
    clear hx HIx
    go_wp2_with fail
    refine hK _ _ ⟨Ex.mk _ HX6.out.1, rfl⟩ ?_
    clear hK K
    refine anyC_one (f := 3) (i := 11) (by kernel_rfl) (by decide) rfl rfl (fun K hK => ?_)
    go_wp2_with fail
    refine hK _ _ ⟨Ex.mk _ HX6.out.1, rfl⟩ ?_
    clear hK K
    refine anyC_two (f := 2) (i := 12) (j := 13) (by kernel_rfl) (by decide) (by decide) rfl rfl rfl rfl (fun K hK => ?_) (fun K hK => ?_)
    · go_wp2_with fail
      refine hK _ _ ⟨Ex.mk _ HX6.out.1, rfl⟩ ?_
      clear hK K
      refine anyC_two (f := 1) (i := 13) (j := 14) (by kernel_rfl) (by decide) (by decide) rfl rfl rfl rfl (fun K hK => ?_) (fun K hK => ?_)
      · go_wp2_with fail
        refine hK _ _ ⟨Ex.mk _ HX6.out.1, rfl⟩ ?_
        clear hK K
        refine anyC_one (f := 0) (i := 14) (by kernel_rfl) (by decide) rfl rfl (fun K hK => ?_)
        go_wp2_with fail
        refine hK _ _ ⟨Ex.mk _ HX6.out.1, rfl⟩ ?_
        clear hK K
        refine anyC_end (by kernel_rfl) ?_
        go_wp2_with fail
        refine NoPanic.normal ?_
        go_wp2_with fail
        go_meet
        exact ⟨rfl, HX6.out.2, HX5.out.1.trans HX6.out.1⟩
      · go_wp2_with fail
        refine hK _ _ ⟨Ex.mk _ HX6.out.1, rfl⟩ ?_
        clear hK K
        refine anyC_one (f := 0) (i := 13) (by kernel_rfl) (by decide) rfl rfl (fun K hK => ?_)
        go_wp2_with fail
        refine hK _ _ ⟨Ex.mk _ HX6.out.1, rfl⟩ ?_
        clear hK K
        refine anyC_end (by kernel_rfl) ?_
        go_wp2_with fail
        refine NoPanic.normal ?_
        go_wp2_with fail
        go_meet
        exact ⟨rfl, HX6.out.2, HX5.out.1.trans HX6.out.1⟩
    · go_wp2_with fail
      refine hK _ _ ⟨Ex.mk _ HX6.out.1, rfl⟩ ?_
      clear hK K
      refine anyC_one (f := 1) (i := 12) (by kernel_rfl) (by decide) rfl rfl (fun K hK => ?_)
      go_wp2_with fail
      refine hK _ _ ⟨Ex.mk _ HX6.out.1, rfl⟩ ?_
      clear hK K
      refine anyC_one (f := 0) (i := 14) (by kernel_rfl) (by decide) rfl rfl (fun K hK => ?_)
      go_wp2_with fail
      refine hK _ _ ⟨Ex.mk _ HX6.out.1, rfl⟩ ?_
      clear hK K
      refine anyC_end (by kernel_rfl) ?_
      go_wp2_with fail
      refine NoPanic.normal ?_
      go_wp2_with fail
      go_meet
      exact ⟨rfl, HX6.out.2, HX5.out.1.trans HX6.out.1⟩
  case rest =>
    obtain ⟨rfl, hE, hx⟩ := hcut
    have HX6 := Lib.hid (⟨hx, hE⟩ : _ ∧ _)
    obtain ⟨xb, xc, rfl, -⟩ := hE
    clear hx HX5 HIx
    go_wp2_with fail
    refine (HDi.out _).mono ?_
    rintro e w7 ⟨dv, rfl, hx, hN⟩
    have HX7 := Lib.hid (⟨HX6.out.1.trans hx, HX6.out.2.ext hx, hN⟩ : _ ∧ _ ∧ _)
    obtain ⟨fb, fc, rfl, -⟩ := hN
    clear hx HX6 HDi
    go_wp2_with fail
    refine (HRd.out _ _ HX7.out.2.2).mono ?_
    rintro e w8 ⟨v8, rfl, hx, hE⟩
    have HX8 := Lib.hid (⟨HX7.out.1.trans hx, HX7.out.2.1.ext hx, hE⟩ : _ ∧ _ ∧ _)
    obtain ⟨yb, yc, rfl, -⟩ := hE
    clear hx HX7 HRd
    go_wp2_with fail
    refine (HSa.out _ _ _ HX8.out.2.1 HX8.out.2.2).mono ?_
    rintro e w9 ⟨rfl, hx⟩
    have HX9 := Lib.hid (HX8.out.1.trans hx)
    clear hx HX8 HSa
    go_wp2_with fail
    go_ret
    exact ⟨rfl, HX9.out⟩
theorem index_card (v : Value) (size a : Int) (w : World) (h : ∃ l, EnArg w v l) (hs : (Lit.int .i64 size).wf = true) (ha : (Lit.int .i64 a).wf = true) : Calls Tryz.prog 3 #[v, .int .i64 size, .int .i64 a] w fun e w' => e = .returned (.bool true) ∧ Ext [] w w' := by
  obtain ⟨l, h⟩ := h
  exact index_law v size a l (Kt.wf_i64 hs) (Kt.wf_i64 ha) w h
end Go.Proofs.YtkaimeogebgofaaGreatDoor.Xs
