/-
  TsI, TsJ, TsK, TsL, TsM, TsN, in one text.
-/
import Derived.Test.YtkjcjklnclahdaaGreatDoorPkW
import Derived.Test.YtkjcjklnclahdaaGreatDoorPkV
import Derived.Test.YtkjcjklnclahdaaGreatDoorPkX
/-! TsI: tree: entries walked. -/
namespace Go.Proofs.YtkjcjklnclahdaaGreatDoor.Tr
open Go.RowKit

set_option maxRecDepth 100000 in
set_option maxHeartbeats 8000000 in
theorem sub_own (v : Value) (l : List Nd) (w : World) (h : NodesAt w v l) (i : Nat) (hi : i < l.length) (hl : l.length ≤ 65536) (hs : shapeN l ≠ none) :
    Calls Tryz.prog 38 #[v, .int .i64 i] w fun e w' => ∃ v2 q Z2, e = .returned v2 ∧ Sep w w' [oBd q v2 Z2] ∧ Z2.map (·.1) = subN l i := by
  cases hsh : shapeN l with
  | none => exact absurd hsh hs
  | some p =>
  obtain ⟨E, D⟩ := p
  have HW := Lib.hid (shape_walk v l w h hl)
  rw [hsh] at HW
  obtain ⟨R, hR⟩ : ∃ R, subN l i = R := ⟨_, rfl⟩
  have hR2 := hR
  rw [subN, hsh] at hR2
  simp only at hR2
  rw [hR]
  obtain ⟨h0, hE, hD, hK, hEnd⟩ := shape_some hsh
  obtain ⟨e1, e2⟩ := (hEnd i hi).1
  obtain ⟨e, he⟩ : ∃ e : Nat, E.getD i 0 = (e : Int) := ⟨(E.getD i 0).toNat, by omega⟩
  rw [he] at e1 e2 hR2
  rw [Int.toNat_natCast] at hR2
  have hkk := shape_kids hsh hl
  obtain ⟨base, cap, rfl, hcap, hN⟩ := h
  obtain ⟨b, o, rfl, -⟩ := hN 0 h0
  have hEg : E[i]? = some (e : Int) := by
    have hie : i < E.length := by omega
    rw [← he, List.getD_eq_getElem?_getD, List.getElem?_eq_getElem hie]; rfl
  obtain ⟨n, hn⟩ : ∃ n, l.length = n := ⟨_, rfl⟩
  have HH := Lib.hid (⟨hN, hkk, hR2, hn, hEg⟩ : _ ∧ _ ∧ _ ∧ _ ∧ _)
  rw [hn] at hE hi hl e2 hcap ⊢
  rw [hn] at HW
  clear hR hR2 hsh hN hkk hn h0 hD hK hEnd he hs hEg
  go_enter Tryz.func38, Tryz.ntmps38
  go_wp2_with fail
  refine HW.out.mono ?_
  rintro ee w1 ⟨ev, dv, rfl, hx, ⟨⟨eb, ec, rfl, hI⟩, -⟩⟩
  obtain ⟨b3, o3, rfl, hc3⟩ := hI i (by omega)
  rw [(List.getElem?_eq_some_iff.1 HH.out.2.2.2.2).2] at hc3
  have HX := Lib.hid hx
  rw [hE]
  have hiz : (i : Int) < (n : Int) := by omega
  clear hx HW hI hE
  go_upto_region 3 with (fail)
  obtain ⟨W, hW⟩ : ∃ W, w1.alloc (Obj.cells #[.slice none 0 0] 78) = W := ⟨_, rfl⟩
  have hx2 : Ext [] w1 W := by rw [← hW]; exact (Ext.refl [] w1).alloc _
  have hb2 : W.heap[w1.heap.size]? = some (.cells #[.slice none 0 0] 78 (0, 0)) := by rw [← hW]; exact heap_alloc_at _
  obtain ⟨q, hq⟩ : ∃ q, w1.heap.size = q := ⟨_, rfl⟩
  have S := ((Sep.start w).quiet HX.out).new hx2 (oBd q (.slice none 0 0) []) ⟨by rw [← hq]; exact hb2, World.ownsRow_nil _ _ _ _, by simp, by simp [bdF, Value.ownBlock], by simp⟩ (fun k hk => by simp [oBd, bdF, Value.ownBlock] at hk; omega)
  rw [hq, hW]
  have hc4 := hx2.cell hc3
  have HS := Lib.hid S
  clear S hb2 hq hW hx2 hc3 HX
  have hez : (i : Int) ≤ (e : Int) := by omega
  have hecap : (e : Int) ≤ (cap : Int) := by omega
  have hlen : ((l.take e).drop i).length = e - i := by rw [List.length_drop, List.length_take, HH.out.2.2.2.1]; omega
  have hNs : NodesAt w (.slice (some ⟨b, o + i * 5, none⟩) (e - i) (cap - i)) ((l.take e).drop i) := ⟨_, _, by rw [hlen], by rw [hlen]; omega, HH.out.1.cut i e⟩
  have HA := Lib.hid (add_walk w W _ 0 q (.slice none 0 0) [] _ _ i HS.out rfl hNs (by rw [hlen]; simp; omega) (by omega) (fun x hx => HH.out.2.1 x (List.mem_of_mem_take (List.mem_of_mem_drop hx))))
  clear hNs hlen
  go_wp2_with fail
  refine HA.out.mono ?_
  rintro ee w3 ⟨rfl, v3, Z2, hZ, S⟩
  have hP : BdP w3 q v3 Z2 := S.get 0 rfl
  have c0 : w3.cell? ⟨q, 0, none⟩ = some v3 := cellOf hP.here 0
  have HP := Lib.hid (⟨hP, S, hZ⟩ : _ ∧ _ ∧ _)
  clear hP S hZ HA hc4
  go_wp2_with fail
  go_ret
  refine ⟨v3, q, Z2, rfl, HP.out.2.1, ?_⟩
  have hR := HP.out.2.2
  rw [show ((([] : List Zd).length : Nat) : Int) - (i : Int) = -(i : Int) from by simp, HH.out.2.2.1] at hR
  exact hR
theorem row_same {w w' : World} {e : TypeId} {k n : Nat} {v : Value} {xs : List Value} (h : w.ownsRow 0 e k v n xs) (hs : ∀ g, v.ownBlock = some g → w'.heap[g]? = w.heap[g]?) : w'.ownsRow 0 e k v n xs := by
  refine ⟨h.1, ?_⟩
  rcases h.2 with hn | ⟨g, cap, cur, rfl, hb, hgg, rest⟩
  · exact .inl hn
  · exact .inr ⟨g, cap, cur, rfl, hb, (hs g rfl).trans hgg, rest⟩
theorem BdP.same {w w' : World} {b : Nat} {v : Value} {Z : List Zd} (h : BdP w b v Z) (hs : ∀ k ∈ bdF b v Z, w'.heap[k]? = w.heap[k]?) : BdP w' b v Z :=
  ⟨(hs b (by simp [bdF])).trans h.here, row_same h.row (fun g hg => hs g (by simp [bdF, hg])), fun p hp => row_same (h.kids p hp) (fun g hg => hs g (by unfold bdF; exact List.mem_cons_of_mem _ (List.mem_append_right _ (mem_kidF hp hg)))), h.dup, h.wf⟩
/-- trees that lie in blocks of the call's own -/
def oNs (F : List Nat) (L : List (Et × List Nd)) : Ob where
  F := F
  P := fun w => (∀ k ∈ F, k < w.heap.size) ∧ ∀ w' : World, (∀ k ∈ F, w'.heap[k]? = w.heap[k]?) → ∀ p ∈ L, NodesAt w' (slC p.1.2) p.2
  ok := fun h hx hS => ⟨fun k hk => Nat.lt_of_lt_of_le (h.1 k hk) hx.size, fun w2 h2 => h.2 w2 (fun k hk => (h2 k hk).trans (hx.block k (h.1 k hk) (hS k hk)))⟩
  lt := fun h => h.1
/-- a dict's names and values -/
def pairsN (l : List Nd) : List Int → List Ent
  | k :: m :: r => ((ndAt l k).s, subN l m.toNat) :: pairsN l r
  | _ => []
def entsN (l : List Nd) (but : ByteArray) : List Ent := (pairsN l (ndAt l 0).kids).filter fun p => !(p.1.toList == but.toList)
theorem pairs_step (l : List Nd) (L : List Int) (j : Nat) (hj : j + 1 < L.length) : pairsN l (L.drop j) = ((ndAt l (L[j]'(by omega))).s, subN l (L[j + 1]'hj).toNat) :: pairsN l (L.drop (j + 2)) := by
  rw [drop_at L j (by omega), drop_at L (j + 1) hj, pairsN]
set_option maxRecDepth 100000 in
set_option maxHeartbeats 2000000 in
theorem ents_walk (v : Value) (l : List Nd) (but : ByteArray) (w : World) (h : NodesAt w v l) (his : isN l 8 = true) :
    Calls Tryz.prog 43 #[v, .string but] w fun e w' => ∃ ov P F, e = .returned ov ∧ Sep w w' [oEt ov (P.map (·.1)), oNs F P] ∧ P.map (fun p => (p.1.1, p.2)) = entsN l but := by
  obtain ⟨i0, hif, hz0, hz1, hz2⟩ := info_parts infoEntry
  obtain ⟨hc, hk8⟩ := is_facts his
  obtain ⟨h0, hn, E, D, hsh, -⟩ := check_zero hc
  have hrk := root_kids hc
  have hev := root_even his
  have hrl := root_len hc
  have HSub := Lib.hid (fun (k : Nat) (hk : k < l.length) W (hx : Ext [] w W) => sub_own v l W (h.ext hx) k hk hn (by rw [hsh]; simp))
  obtain ⟨R, hR⟩ : ∃ R, entsN l but = R := ⟨_, rfl⟩
  rw [hR]
  rw [entsN] at hR
  obtain ⟨base, cap, rfl, -, hN⟩ := h
  obtain ⟨b, o, rfl, hnd⟩ := node_in hN 0 h0
  rw [Nat.zero_mul, Nat.add_zero, show ((0 : Nat) : Int) = 0 from rfl] at hnd
  obtain ⟨-, -, -, -, -, rb, rc, r5, r6⟩ := hnd
  obtain ⟨x, hx0⟩ : ∃ x, ndAt l 0 = x := ⟨_, rfl⟩
  rw [hx0] at hrk hev hrl hR r5 r6
  obtain ⟨K, hK⟩ : ∃ K, x.kids.length = K := ⟨_, rfl⟩
  rw [hK] at r5 hrl hev
  obtain ⟨n, hln⟩ : ∃ n, l.length = n := ⟨_, rfl⟩
  have HH := Lib.hid (⟨hN, hrk, hR, r5, r6, hK, hln⟩ : _ ∧ _ ∧ _ ∧ _ ∧ _ ∧ _ ∧ _)
  rw [hln] at HSub h0 ⊢
  have h0z : (0 : Int) < (n : Int) := by omega
  clear hN hrk hR r5 r6 hK hln hx0 his hc hk8 h0 hsh hn
  go_enter Tryz.func43, Tryz.ntmps43
  go_wp2_with fail
  have S := (Sep.start w).new (Ext.refl _ _) (oNs [] []) ⟨by simp, fun _ _ p hp => by cases hp⟩ (fun k hk => by cases hk)
  have S := S.new (Ext.refl _ _) (oEt (.slice none 0 0) []) (World.ownsRow_nil _ _ _ _) (fun q hq => by simp [oEt, oSl, Value.ownBlock] at hq)
  have HS := Lib.hid S
  clear S
  go_loopg [5, 6, 7] K (fun g ov iv v7 wr => ∃ (j : Nat) (P : List (Et × List Nd)) (F : List Nat), g + j = K ∧ j % 2 = 0 ∧ iv = .int .i64 j ∧ P.length ≤ j ∧ P.map (fun p => (p.1.1, p.2)) ++ (pairsN l (x.kids.drop j)).filter (fun p => !(p.1.toList == but.toList)) = R ∧ Sep w wr [oEt ov (P.map (·.1)), oNs F P])
  case atStart => exact ⟨0, [], [], by omega, rfl, rfl, by simp, HH.out.2.2.1, HS.out⟩
  case round =>
    clear HS
    obtain ⟨j, P, F, hgj, hj2, rfl, hP, hR, S⟩ := hrel
    have hr0 : wr.ownsRow 0 62 2 u5 (P.map (·.1)).length (etC (P.map (·.1))) := S.get 0 rfl
    rw [List.length_map] at hr0
    obtain ⟨ao3, c3, rfl⟩ := row_slice hr0
    obtain ⟨m, hm⟩ : ∃ m, P.length = m := ⟨_, rfl⟩
    rw [hm] at hP ⊢
    have r5 := S.ext.cell HH.out.2.2.2.1
    by_cases hjK : j < K
    case neg =>
      obtain rfl : gk = 0 := by omega
      have hRA : P.map (fun p => (p.1.1, p.2)) = R := by rw [← hR, List.drop_eq_nil_of_le (by rw [HH.out.2.2.2.2.2.1]; omega)]; simp [pairsN]
      rw [hm] at S
      have HX := Lib.hid (⟨S, hRA⟩ : _ ∧ _)
      clear hR S hr0 hP hm hRA
      go_wp2_with fail
      go_ret
      exact ⟨_, P, F, rfl, HX.out.1, HX.out.2⟩
    case pos =>
    obtain ⟨g, rfl⟩ : ∃ g, gk = g + 2 := ⟨gk - 2, by omega⟩
    have hjz : (j : Int) < (K : Int) := by omega
    have hj1 : j + 1 < x.kids.length := by rw [HH.out.2.2.2.2.2.1]; omega
    have hjz1 : (j : Int) + 1 < (K : Int) := by have := HH.out.2.2.2.2.2.1; omega
    rw [pairs_step l _ j hj1, List.filter_cons] at hR
    obtain ⟨b5, o5, rfl, c5⟩ := HH.out.2.2.2.2.1 j (by omega)
    obtain ⟨b55, o55, e55, c6⟩ := HH.out.2.2.2.2.1 (j + 1) hj1
    cases e55
    have hb := HH.out.2.1 j _ (List.getElem?_eq_getElem (by omega))
    have hb1 := HH.out.2.1 (j + 1) _ (List.getElem?_eq_getElem hj1)
    have c5 := S.ext.cell c5
    have c6 := S.ext.cell c6
    generalize x.kids[j]'(by omega) = c at hR c5 hb
    generalize x.kids[j + 1]'hj1 = d at hR c6 hb1
    obtain ⟨k, rfl⟩ : ∃ k : Nat, c = (k : Int) := ⟨c.toNat, by omega⟩
    obtain ⟨k2, rfl⟩ : ∃ k2 : Nat, d = (k2 : Int) := ⟨d.toNat, by omega⟩
    have hk : k < l.length := by omega
    have hk2 : k2 < n := by have := HH.out.2.2.2.2.2.2; omega
    obtain ⟨b6, o6, e6, d1, d2, d3, d4, -⟩ := node_in (HH.out.1.ext S.ext) k hk
    cases e6
    have hkz : (k : Int) < (n : Int) := by have := HH.out.2.2.2.2.2.2; omega
    obtain ⟨s, hs⟩ : ∃ s, (ndAt l (k : Int)).s = s := ⟨_, rfl⟩
    rw [hs] at d4
    simp only [hs, Int.toNat_natCast] at hR
    clear hs d1 d2 d3 hb hb1
    cases hbut : (s.toList == but.toList) with
    | true =>
      rw [hbut] at hR
      have HX := Lib.hid (⟨S, hR, hm⟩ : _ ∧ _ ∧ _)
      clear S hR hr0 hm
      go_wp2_with fail
      go_roundg g
      case measure => omega
      case rel => exact ⟨j + 2, P, F, by omega, by omega, by go_num, by rw [HX.out.2.2]; omega, by simpa using HX.out.2.1, by have := HX.out.1; rw [HX.out.2.2] at this; exact this⟩
    | false =>
      rw [hbut] at hR
      have HX := Lib.hid (⟨S, hR, hm, hr0⟩ : _ ∧ _ ∧ _ ∧ _)
      have c6' : wr.cell? ⟨b5, o5 + (j + 1), none⟩ = some (.int .i64 (k2 : Nat)) := c6
      clear S hR hr0 hm c6
      go_wp2_with fail
      refine (HSub.out k2 (by have := HH.out.2.2.2.2.2.2; omega) wr HX.out.1.ext).mono ?_
      rintro e W ⟨v9, q9, Z9, rfl, S9, hZ9⟩
      have hB : BdP W q9 v9 Z9 := S9.get 0 rfl
      obtain ⟨a9, c9, rfl⟩ := row_slice hB.row
      have hN9 := hB.nodes
      rw [hZ9] at hN9
      have hl9 : Z9.length = (subN l k2).length := by rw [← hZ9, List.length_map]
      obtain ⟨X9, hX9⟩ : ∃ X9, Z9.length = X9 := ⟨_, rfl⟩
      rw [hX9] at hB hl9 ⊢
      have hS9 : Sep wr W [oBd q9 (.slice a9 X9 c9) Z9] := by rw [← hX9]; exact S9
      have SW := (HX.out.1).upd 1 (oNs (F ++ bdF q9 (.slice a9 X9 c9) Z9) (P ++ [((s, a9, X9, c9), subN l k2)])) rfl (S9.ext.weak) (fun q hq => by
        have hq : q ∈ F ++ bdF q9 (.slice a9 X9 c9) Z9 := hq
        rcases List.mem_append.1 hq with hq | hq
        · exact .inl hq
        · exact .inr (hS9.base _ (List.mem_cons_self ..) q hq)) ⟨fun q hq => by
        rcases List.mem_append.1 hq with hq | hq
        · exact Nat.lt_of_lt_of_le (((HX.out.1).get 1 rfl).1 q hq) S9.ext.size
        · exact (oBd q9 (.slice a9 X9 c9) Z9).lt hB q hq, fun w2 h2 p hp => by
        rcases List.mem_append.1 hp with hp | hp
        · refine ((HX.out.1).get 1 rfl).2 w2 (fun q hq => ?_) p hp
          rw [h2 q (List.mem_append_left _ hq)]
          exact S9.ext.block q (((HX.out.1).get 1 rfl).1 q hq) (by simp)
        · obtain rfl : p = ((s, a9, X9, c9), subN l k2) := by simpa using hp
          have h3 := (hB.same (w' := w2) (fun q hq => h2 q (List.mem_append_right _ hq))).nodes
          rw [hZ9] at h3
          exact h3⟩
      have hrw := ownsRow_ext HX.out.2.2.2 S9.ext (by simp)
      have HR := Lib.hid (⟨SW, hrw⟩ : _ ∧ _)
      have hm' := HX.out.2.2.1
      rw [hm'] at HR
      clear SW hrw hm' hN9 hl9 hX9 hS9 S9 hB
      go_wp2_with (first | (at_builtin; refine wpList_append_lies _ rfl _ _ 59 rfl 0 62 i0 _ 2 40 Tryz.underlying59 hif hz0 hz1 hz2 rfl (by decide) (.slice ao3 m c3) m _ rfl (World.ownsRow.alloc HR.out.2 _) ⟨W.heap.size, 0, none⟩ 1 1 [.string s, .slice a9 X9 c9] rfl rfl (cells_two _ _ _ _) (by simp [Value.oneCell']) (by decide) (by unfold maxLen; omega) (by omega) (by omega) (W.heap.size + 1) (by simp) ?_; intro g6 cap2 w6 hown1 hgrow hat6 hlt6))
      have Pl := push_local (cap := cap2) (n := m + 1) hgrow hat6
      have S2 := HR.out.1.upd 0 (oEt (.slice (some ⟨g6, 0, none⟩) (m + 1) cap2) ((P ++ [((s, a9, X9, c9), subN l k2)]).map (·.1))) rfl Pl.1 Pl.2 (by
        show World.ownsRow _ 0 62 2 _ _ _
        rw [List.length_map, List.length_append, HX.out.2.2.1, List.map_append, etC_append]
        exact hown1)
      go_roundg g
      case measure => omega
      case rel =>
        refine ⟨j + 2, P ++ [((s, a9, X9, c9), subN l k2)], _, by omega, by omega, by go_num, by rw [List.length_append, HX.out.2.2.1]; simp; omega, ?_, S2⟩
        have := HX.out.2.1
        rw [if_pos (by rfl)] at this
        rw [List.map_append, List.append_assoc]
        exact this
end Go.Proofs.YtkjcjklnclahdaaGreatDoor.Tr

/-! TsJ: tree: Set, Drop walked. -/
namespace Go.Proofs.YtkjcjklnclahdaaGreatDoor.Tr
open Go.RowKit

theorem pairs_ok {l : List Nd} (hb : ∀ x ∈ l, bareN x = true) : ∀ (pr : Option ByteArray) (L : List Int), risesN l pr L = true → (∀ k ∈ L, 0 ≤ k ∧ k < (l.length : Int)) → ∀ p ∈ pairsN l L, nameN p.1 = 0 ∧ (∃ x ∈ l, p.1 = x.s) ∧ ∃ m : Nat, m < l.length ∧ p.2 = subN l m
  | _, [], _, _, p, hp => by cases hp
  | _, [_], _, _, p, hp => by cases hp
  | pr, k :: m :: r, h, hk, p, hp => by
    rw [risesN, Bool.and_eq_true, Bool.and_eq_true, decide_eq_true_eq] at h
    obtain ⟨⟨h6, -⟩, h3⟩ := h
    rw [pairsN] at hp
    rcases List.mem_cons.1 hp with rfl | hp
    · obtain ⟨k1, k2⟩ := hk k (by simp)
      obtain ⟨m1, m2⟩ := hk m (by simp)
      obtain ⟨kk, rfl⟩ : ∃ kk : Nat, k = (kk : Int) := ⟨k.toNat, by omega⟩
      have hkl : kk < l.length := by omega
      have hnd := ndAt_nat l kk hkl
      have hmem : ndAt l (kk : Int) ∈ l := by rw [hnd]; exact List.getElem_mem hkl
      refine ⟨?_, ⟨_, hmem, rfl⟩, m.toNat, by omega, rfl⟩
      have := hb _ hmem
      unfold bareN at this
      rw [h6] at this
      split at this
      · cases this
      · simpa using this
    · exact pairs_ok hb _ r h3 (fun q hq => hk q (by simp [hq])) p hp
theorem ents_ok {l : List Nd} {but : ByteArray} (his : isN l 8 = true) (hl : Lt l) : ∀ p ∈ entsN l but, p.1.size ≤ 1000000 ∧ nameN p.1 = 0 ∧ checkN p.2 = 0 ∧ ∀ x ∈ p.2, x.s.size ≤ 1000000 := fun p hp => by
  obtain ⟨hc, hk8⟩ := is_facts his
  obtain ⟨h0, hn, E, D, hsh, -, hall⟩ := check_zero hc
  have hb : ∀ x ∈ l, bareN x = true := fun x hx => by
    have := List.all_eq_true.1 hall x hx
    rw [nodeOk, Bool.and_eq_true] at this
    exact this.1
  have e := ndAt_nat l 0 h0
  rw [show ((0 : Nat) : Int) = 0 from rfl] at e
  have hr : risesN l none (ndAt l 0).kids = true := by
    have := List.all_eq_true.1 hall _ (List.getElem_mem h0)
    rw [← e, nodeOk, hk8] at this
    simp at this
    exact this.2.2
  have hp2 := (List.mem_filter.1 hp).1
  obtain ⟨h1, ⟨x, hx, h2⟩, m, hm, h3⟩ := pairs_ok hb none _ hr (fun k hk => by
    obtain ⟨j, hj⟩ := List.getElem?_of_mem hk
    have := root_kids hc j k hj
    omega) p hp2
  refine ⟨by rw [h2]; exact hl.s x hx, h1, by rw [h3]; exact (cuts_ok hc hm).sub, fun y hy => ?_⟩
  rw [h3] at hy
  unfold subN at hy
  split at hy
  · obtain ⟨z, hz, rfl⟩ := List.mem_map.1 hy
    exact hl.s z (List.mem_of_mem_take (List.mem_of_mem_drop hz))
  · cases hy
def dropN (l : List Nd) (s : ByteArray) : List Nd := if checkN l ≠ 0 then [] else if (ndAt l 0).kind ≠ 8 then subN l 0 else (dictN (entsN l s)).1
theorem ents_P {l : List Nd} {but : ByteArray} {P : List (Et × List Nd)} (hP : P.map (fun p => (p.1.1, p.2)) = entsN l but) (his : isN l 8 = true) (hl : Lt l) : ∀ p ∈ P, p.1.1.size ≤ 1000000 ∧ nameN p.1.1 = 0 ∧ checkN p.2 = 0 ∧ ∀ x ∈ p.2, x.s.size ≤ 1000000 := fun p hp =>
  ents_ok (but := but) his hl (p.1.1, p.2) (by rw [← hP]; exact List.mem_map_of_mem (f := fun p : Et × List Nd => (p.1.1, p.2)) hp)
set_option maxRecDepth 100000 in
set_option maxHeartbeats 2000000 in
theorem drop_walk (v : Value) (l : List Nd) (s : ByteArray) (w : World) (h : NodesAt w v l) (hl : Lt l) (hsm : (entsN l s).length ≤ 20) :
    Calls Tryz.prog 27 #[v, .string s] w fun e w' => ∃ v2, e = .returned v2 ∧ Ext [] w w' ∧ NodesAt w' v2 (dropN l s) := by
  have HC := Lib.hid (check_walk v l w h hl.len hl.s)
  obtain ⟨c, hc⟩ : ∃ c, checkN l = c := ⟨_, rfl⟩
  rw [hc] at HC
  by_cases c0 : c = 0
  case neg =>
    have hR : dropN l s = [] := by rw [dropN, if_pos (by rw [hc]; exact c0)]
    rw [hR]
    obtain ⟨base, cap, rfl, -, -⟩ := h
    have hcb : (c != 0) = true := bne_iff_ne.2 c0
    clear hR hc
    go_enter Tryz.func27, Tryz.ntmps27
    go_wp2_with fail
    refine HC.out.mono ?_
    rintro e w1 ⟨rfl, hx⟩
    have HX := Lib.hid hx
    clear hx HC
    go_wp2_with fail
    go_ret
    exact ⟨_, rfl, HX.out, none, 0, rfl, by simp, fun k hk => by cases hk⟩
  case pos =>
  subst c0
  obtain ⟨h0, hn, E, D, hsh, -⟩ := check_zero hc
  have h' := h
  obtain ⟨base, cap, rfl, -, hN⟩ := h'
  obtain ⟨b, o, rfl, n1, -⟩ := node_in hN 0 h0
  rw [Nat.zero_mul, Nat.add_zero, show ((0 : Nat) : Int) = 0 from rfl] at n1
  have h0z : (0 : Int) < (l.length : Int) := by omega
  by_cases hk8 : (ndAt l 0).kind = 8
  case neg =>
    have hR : dropN l s = subN l 0 := by rw [dropN, if_neg (by rw [hc]; simp), if_pos hk8]
    rw [hR]
    have HS := Lib.hid (fun W (hx : Ext [] w W) => sub_walk _ l W (h.ext hx) 0 h0 hn (by rw [hsh]; simp))
    obtain ⟨k, hk⟩ : ∃ k, (ndAt l 0).kind = k := ⟨_, rfl⟩
    rw [hk] at n1 hk8
    have hkb : (k != 8) = true := bne_iff_ne.2 hk8
    have HN1 := Lib.hid n1
    clear hR hc hsh hN h hk hk8 n1
    go_enter Tryz.func27, Tryz.ntmps27
    go_wp2_with fail
    refine HC.out.mono ?_
    rintro e w1 ⟨rfl, hx⟩
    have n2 := hx.cell HN1.out
    have HX := Lib.hid hx
    clear hx HC
    go_wp2_with fail
    refine (HS.out _ HX.out).mono ?_
    rintro e w2 ⟨v2, rfl, hx2, hN2⟩
    have HX2 := Lib.hid (⟨HX.out.trans hx2, hN2⟩ : _ ∧ _)
    clear hx2 hN2 HX HS n2
    go_wp2_with fail
    go_ret
    exact ⟨_, rfl, HX2.out.1, HX2.out.2⟩
  case pos =>
  have his : isN l 8 = true := by rw [isN]; simp [hc, hk8]
  have hR : dropN l s = (dictN (entsN l s)).1 := by rw [dropN, if_neg (by rw [hc]; simp), if_neg (by simp [hk8])]
  rw [hR]
  obtain ⟨DD, hDD⟩ : ∃ DD, dictN (entsN l s) = DD := ⟨_, rfl⟩
  have HE := Lib.hid (fun W (hx : Ext [] w W) => ents_walk _ l s W (h.ext hx) his)
  have HP := Lib.hid (fun P hP => ents_P (l := l) (but := s) (P := P) hP his hl)
  rw [hk8] at n1
  rw [hDD]
  have HD := Lib.hid (⟨hDD, hsm⟩ : _ ∧ _)
  have HN1 := Lib.hid n1
  clear hR hc hsh hN h hk8 n1 his hDD hsm
  go_enter Tryz.func27, Tryz.ntmps27
  go_wp2_with fail
  refine HC.out.mono ?_
  rintro e w1 ⟨rfl, hx⟩
  have n2 := hx.cell HN1.out
  have HX := Lib.hid hx
  clear hx HC
  go_wp2_with fail
  refine (HE.out _ HX.out).mono ?_
  rintro e w2 ⟨ov, P, F, rfl, S, hP⟩
  have hPl : P.length ≤ 20 := by have := congrArg List.length hP; rw [List.length_map] at this; have := HD.out.2; omega
  have hdw := dict_walk w1 w2 _ 0 ov P S rfl hPl (fun W o hS p hp => (hS.get 1 rfl).2 W (fun _ _ => rfl) p hp) (HP.out P hP)
  rw [hP, HD.out.1] at hdw
  have HW := Lib.hid hdw
  clear hdw S hPl n2
  go_wp2_with fail
  refine HW.out.mono ?_
  rintro e w3 ⟨v3, rfl, S3, hN3⟩
  have HF := Lib.hid (⟨HX.out.trans S3.ext, hN3⟩ : _ ∧ _)
  clear S3 hN3 HW HX
  go_wp2_with fail
  go_ret
  exact ⟨_, rfl, HF.out.1, HF.out.2⟩
end Go.Proofs.YtkjcjklnclahdaaGreatDoor.Tr

/-! TsK: tree: Set walked. -/
namespace Go.Proofs.YtkjcjklnclahdaaGreatDoor.Tr
open Go.RowKit

def setN (l : List Nd) (key : ByteArray) (v : List Nd) : List Nd × Int :=
  if firstN [l, v] ≠ 0 then ([], firstN [l, v]) else if (ndAt l 0).kind ≠ 8 ∨ nameN key ≠ 0 then ([], 2) else dictN (entsN l key ++ [(key, v)])
theorem trees2g {w : World} {g : Nat} {u v : Value} {a b : List Nd} {t : TypeId} {f : Nat × Nat} (h : w.heap[g]? = some (.cells #[u, v] t f)) (hu : NodesAt w u a) (hv : NodesAt w v b) : TreesAt w (.slice (some ⟨g, 0, none⟩) 2 2) [a, b] :=
  ⟨_, 2, rfl, Nat.le_refl _, fun i hi => by
    match i, hi with
    | 0, _ => exact ⟨g, 0, u, rfl, cellOf h 0, hu⟩
    | 1, _ => exact ⟨g, 0, v, rfl, cellOf h 1, hv⟩⟩
set_option maxRecDepth 100000 in
set_option maxHeartbeats 2000000 in
theorem set_walk (u v : Value) (l t : List Nd) (key : ByteArray) (w : World) (hu : NodesAt w u l) (hv : NodesAt w v t) (hl : Lt l) (ht : Lt t) (hks : key.size ≤ 1000000) (hsm : (entsN l key).length ≤ 19) :
    Calls Tryz.prog 10 #[u, .string key, v] w fun e w' => ∃ v2, e = .returned (.tuple #[v2, .int .i64 (setN l key t).2]) ∧ Ext [] w w' ∧ NodesAt w' v2 (setN l key t).1 := by
  obtain ⟨i0, hif, hz0, hz1, hz2⟩ := info_parts infoEntry
  have HF := Lib.hid (fun (x : Value) (W : World) (hT : TreesAt W x [l, t]) => first_walk x [l, t] W hT (by simp) (fun q hq => by
    simp only [List.mem_cons, List.not_mem_nil, or_false] at hq
    rcases hq with rfl | rfl
    · exact ⟨hl.len, hl.s⟩
    · exact ⟨ht.len, ht.s⟩))
  obtain ⟨R, hR⟩ : ∃ R, setN l key t = R := ⟨_, rfl⟩
  rw [hR]
  rw [setN] at hR
  obtain ⟨f, hf⟩ : ∃ f, firstN [l, t] = f := ⟨_, rfl⟩
  rw [hf] at hR HF
  have hu' := hu
  have hv' := hv
  obtain ⟨ub, uc, rfl, -, hN⟩ := hu'
  obtain ⟨vb, vc, rfl, -, -⟩ := hv'
  obtain ⟨n, hn⟩ : ∃ n, l.length = n := ⟨_, rfl⟩
  obtain ⟨m, hm⟩ : ∃ m, t.length = m := ⟨_, rfl⟩
  rw [hn] at hu ⊢
  rw [hm] at hv ⊢
  have HU := Lib.hid (⟨hu, hv⟩ : _ ∧ _)
  by_cases f0 : f = 0
  case neg =>
    rw [if_pos f0] at hR
    subst hR
    have hfb : (f != 0) = true := bne_iff_ne.2 f0
    clear hf hu hv hN f0 hn hm
    go_enter Tryz.func10, Tryz.ntmps10
    go_wp2_with fail
    have hx1 : Ext [] w (w.alloc (.cells #[.slice ub n uc, .slice vb m vc] 22)) := (Ext.refl [] w).alloc _
    have hT := trees2g (heap_alloc_at (w := w) (.cells #[.slice ub n uc, .slice vb m vc] 22)) (HU.out.1.ext hx1) (HU.out.2.ext hx1)
    have HF2 := Lib.hid (HF.out _ _ hT)
    have HX := Lib.hid hx1
    clear hx1 hT
    refine HF2.out.mono ?_
    rintro e w2 ⟨rfl, hx2⟩
    have HX2 := Lib.hid (HX.out.trans hx2)
    clear hx2 HF2
    go_wp2_with fail
    go_ret2
    exact ⟨_, rfl, HX2.out, none, 0, rfl, by simp, fun k hk => by cases hk⟩
  case pos =>
  subst f0
  rw [if_neg (by simp)] at hR
  have hcl := firstN_zero hf l (by simp)
  have hct := firstN_zero hf t (by simp)
  obtain ⟨h0, hn9, E, D, hsh, -⟩ := check_zero hcl
  obtain ⟨b, o, rfl, n1, -⟩ := node_in hN 0 h0
  rw [Nat.zero_mul, Nat.add_zero, show ((0 : Nat) : Int) = 0 from rfl] at n1
  have h0z : (0 : Int) < (n : Int) := by omega
  have HNm := Lib.hid (fun W => name_walk key W)
  obtain ⟨z, hz⟩ : ∃ z, nameN key = z := ⟨_, rfl⟩
  simp only [hz] at HNm hR
  obtain ⟨kd, hkd⟩ : ∃ kd, (ndAt l 0).kind = kd := ⟨_, rfl⟩
  rw [hkd] at n1 hR
  have HN1 := Lib.hid n1
  by_cases k8 : kd = 8
  case neg =>
    rw [if_pos (.inl k8)] at hR
    subst hR
    have hkb : (kd != 8) = true := bne_iff_ne.2 k8
    clear hf hu hv hN n1 hkd hz k8 hcl hct hsh hn9 h0 hn hm
    go_enter Tryz.func10, Tryz.ntmps10
    go_wp2_with fail
    have hx1 : Ext [] w (w.alloc (.cells #[.slice (some ⟨b, o, none⟩) n uc, .slice vb m vc] 22)) := (Ext.refl [] w).alloc _
    have hT := trees2g (heap_alloc_at (w := w) (.cells #[.slice (some ⟨b, o, none⟩) n uc, .slice vb m vc] 22)) (HU.out.1.ext hx1) (HU.out.2.ext hx1)
    have HF2 := Lib.hid (HF.out _ _ hT)
    have HX := Lib.hid hx1
    clear hx1 hT
    refine HF2.out.mono ?_
    rintro e w2 ⟨rfl, hx2⟩
    have n2 := (HX.out.trans hx2).cell HN1.out
    have HX2 := Lib.hid (HX.out.trans hx2)
    clear hx2 HF2
    go_wp2_with fail
    go_ret2
    exact ⟨_, rfl, HX2.out, none, 0, rfl, by simp, fun k hk => by cases hk⟩
  case pos =>
  subst k8
  have his : isN l 8 = true := by rw [isN]; simp [hcl, hkd]
  by_cases z0 : z = 0
  case neg =>
    rw [if_pos (.inr z0)] at hR
    subst hR
    have hzb : (z != 0) = true := bne_iff_ne.2 z0
    clear hf hu hv hN n1 hkd hz z0 hcl hct hsh hn9 h0 hn hm his
    go_enter Tryz.func10, Tryz.ntmps10
    go_wp2_with fail
    have hx1 : Ext [] w (w.alloc (.cells #[.slice (some ⟨b, o, none⟩) n uc, .slice vb m vc] 22)) := (Ext.refl [] w).alloc _
    have hT := trees2g (heap_alloc_at (w := w) (.cells #[.slice (some ⟨b, o, none⟩) n uc, .slice vb m vc] 22)) (HU.out.1.ext hx1) (HU.out.2.ext hx1)
    have HF2 := Lib.hid (HF.out _ _ hT)
    have HX := Lib.hid hx1
    clear hx1 hT
    refine HF2.out.mono ?_
    rintro e w2 ⟨rfl, hx2⟩
    have n2 := (HX.out.trans hx2).cell HN1.out
    have HX2 := Lib.hid (HX.out.trans hx2)
    clear hx2 HF2
    go_wp2_with fail
    refine (HNm.out _).mono ?_
    rintro e w3 ⟨rfl, hx3⟩
    have HX3 := Lib.hid (HX2.out.trans hx3)
    clear hx3 n2
    go_wp2_with fail
    go_ret2
    exact ⟨_, rfl, HX3.out, none, 0, rfl, by simp, fun k hk => by cases hk⟩
  case pos =>
  subst z0
  rw [if_neg (by simp)] at hR
  have HE := Lib.hid (fun W (hx : Ext [] w W) => ents_walk (.slice (some ⟨b, o, none⟩) n uc) l key W (hu.ext hx) his)
  have HP := Lib.hid (fun P hP => ents_P (l := l) (but := key) (P := P) hP his hl)
  have HD := Lib.hid (⟨hR, hsm, hz, hct, ht.s, hks⟩ : _ ∧ _ ∧ _ ∧ _ ∧ _ ∧ _)
  clear hf hu hv hN n1 hkd hz hcl hct hsh hn9 h0 hn hm his hR hsm
  go_enter Tryz.func10, Tryz.ntmps10
  go_wp2_with fail
  have hx1 : Ext [] w (w.alloc (.cells #[.slice (some ⟨b, o, none⟩) n uc, .slice vb m vc] 22)) := (Ext.refl [] w).alloc _
  have hT := trees2g (heap_alloc_at (w := w) (.cells #[.slice (some ⟨b, o, none⟩) n uc, .slice vb m vc] 22)) (HU.out.1.ext hx1) (HU.out.2.ext hx1)
  have HF2 := Lib.hid (HF.out _ _ hT)
  have HX := Lib.hid hx1
  clear hx1 hT HF
  refine HF2.out.mono ?_
  rintro e w2 ⟨rfl, hx2⟩
  have n2 := (HX.out.trans hx2).cell HN1.out
  have HX2 := Lib.hid (HX.out.trans hx2)
  clear hx2 HF2 HX
  go_wp2_with fail
  refine (HNm.out _).mono ?_
  rintro e w3 ⟨rfl, hx3⟩
  have HX3 := Lib.hid (HX2.out.trans hx3)
  clear hx3 n2 HX2 HNm
  go_wp2_with fail
  refine (HE.out _ HX3.out).mono ?_
  rintro e w4 ⟨ov, P, F, rfl, S, hP⟩
  have hPl : P.length ≤ 19 := by have := congrArg List.length hP; rw [List.length_map] at this; have := HD.out.2.1; omega
  have hr0 : w4.ownsRow 0 62 2 ov (P.map (·.1)).length (etC (P.map (·.1))) := S.get 0 rfl
  rw [List.length_map] at hr0
  obtain ⟨ao3, c3, rfl⟩ := row_slice hr0
  obtain ⟨q, hq⟩ : ∃ q, P.length = q := ⟨_, rfl⟩
  rw [hq] at hr0 S hPl ⊢
  have HS := Lib.hid (⟨S, hr0, hP, hq⟩ : _ ∧ _ ∧ _ ∧ _)
  clear S hr0 hP hq HE
  go_wp2_with (first | (at_builtin; refine wpList_append_lies _ rfl _ _ 59 rfl 0 62 i0 _ 2 40 Tryz.underlying59 hif hz0 hz1 hz2 rfl (by decide) (.slice ao3 q c3) q _ rfl (World.ownsRow.alloc HS.out.2.1 _) ⟨w4.heap.size, 0, none⟩ 1 1 [.string key, .slice vb m vc] rfl rfl (cells_two _ _ _ _) (by simp [Value.oneCell']) (by decide) (by unfold maxLen; omega) (by omega) (by omega) (w4.heap.size + 1) (by simp) ?_; intro g6 cap2 w6 hown1 hgrow hat6 hlt6))
  have Pl := push_local (cap := cap2) (n := q + 1) hgrow hat6
  have S2 := HS.out.1.upd 0 (oEt (.slice (some ⟨g6, 0, none⟩) (q + 1) cap2) ((P ++ [((key, vb, m, vc), t)]).map (·.1))) rfl Pl.1 Pl.2 (by
    show World.ownsRow _ 0 62 2 _ _ _
    rw [List.length_map, List.length_append, HS.out.2.2.2, List.map_append, etC_append]
    exact hown1)
  have hdw := dict_walk w3 w6 _ 0 _ (P ++ [((key, vb, m, vc), t)]) S2 rfl (by rw [List.length_append, HS.out.2.2.2]; simp; omega) (fun W o hS p hp => by
    rcases List.mem_append.1 hp with hp | hp
    · exact (hS.get 1 rfl).2 W (fun _ _ => rfl) p hp
    · obtain rfl : p = ((key, vb, m, vc), t) := by simpa using hp
      exact HU.out.2.ext (HX3.out.trans hS.ext)) (fun p hp => by
    rcases List.mem_append.1 hp with hp | hp
    · exact HP.out P HS.out.2.2.1 p hp
    · obtain rfl : p = ((key, vb, m, vc), t) := by simpa using hp
      exact ⟨HD.out.2.2.2.2.2, HD.out.2.2.1, HD.out.2.2.2.1, HD.out.2.2.2.2.1⟩)
  rw [List.map_append, HS.out.2.2.1] at hdw
  simp only [List.map_cons, List.map_nil] at hdw
  rw [HD.out.1] at hdw
  have HW := Lib.hid hdw
  clear hdw S2 Pl hown1 hgrow hat6 hlt6 hPl
  refine HW.out.mono ?_
  rintro e w7 ⟨v7, rfl, S7, hN7⟩
  have HFin := Lib.hid (⟨HX3.out.trans S7.ext, hN7⟩ : _ ∧ _)
  clear S7 hN7 HW
  go_wp2_with fail
  go_ret2
  exact ⟨_, rfl, HFin.out.1, HFin.out.2⟩
end Go.Proofs.YtkjcjklnclahdaaGreatDoor.Tr

/-! TsL: tree: One, Items walked. -/
namespace Go.Proofs.YtkjcjklnclahdaaGreatDoor.Tr
open Go.RowKit

def oneN (x : Nd) : List Nd × Int := if 0 < x.kids.length ∨ bareN x = false then ([], 2) else ([x], 0)
set_option maxRecDepth 100000 in
set_option maxHeartbeats 600000 in
theorem one_walk (x : Nd) (hw : NdWf x) (hs : x.s.size ≤ 1000000) (base : Option Addr) (cap : Nat) (w : World) :
    Calls Tryz.prog 6 #[.agg #[.int .i64 x.kind, .int .i64 x.n, .int .i64 x.gen, .string x.s, .slice base x.kids.length cap]] w fun e w' => ∃ v2, e = .returned (.tuple #[v2, .int .i64 (oneN x).2]) ∧ Ext [] w w' ∧ NodesAt w' v2 (oneN x).1 := by
  have HB := Lib.hid (fun W => bare_walk x hw hs base cap W)
  by_cases hk : 0 < x.kids.length
  · have hR : oneN x = ([], 2) := if_pos (.inl hk)
    rw [hR]
    have hkz : (0 : Int) < (x.kids.length : Int) := by omega
    clear hR
    go_enter Tryz.func6, Tryz.ntmps6
    go_wp2_with fail
    go_ret2
    exact ⟨_, rfl, (Ext.refl [] w).alloc _, none, 0, rfl, by simp, fun k hk => by cases hk⟩
  · have hkz : ¬ (0 : Int) < (x.kids.length : Int) := by omega
    have hk0 : x.kids = [] := List.length_eq_zero_iff.1 (by omega)
    cases hb : bareN x with
    | false =>
      have hR : oneN x = ([], 2) := if_pos (.inr hb)
      rw [hR]
      rw [hb] at HB
      clear hR hb hk0
      go_enter Tryz.func6, Tryz.ntmps6
      go_wp2_with fail
      refine (HB.out _).mono ?_
      rintro e w1 ⟨rfl, hx⟩
      have HX := Lib.hid (((Ext.refl [] w).alloc _).trans hx)
      clear hx HB
      go_wp2_with fail
      go_ret2
      exact ⟨_, rfl, HX.out, none, 0, rfl, by simp, fun k hk => by cases hk⟩
    | true =>
      have hR : oneN x = ([x], 0) := if_neg (by rw [hb]; simp; omega)
      rw [hR]
      rw [hb] at HB
      have HK := Lib.hid hk0
      clear hR hb hk0
      go_enter Tryz.func6, Tryz.ntmps6
      go_wp2_with fail
      refine (HB.out _).mono ?_
      rintro e w1 ⟨rfl, hx⟩
      have hb1 := hx.keep (heap_alloc_at (w := w) _) (by simp)
      have hx2 : Ext [] w w1 := ((Ext.refl [] w).alloc _).trans hx
      obtain ⟨q, hq⟩ : ∃ q, w.heap.size = q := ⟨_, rfl⟩
      rw [hq] at hb1 ⊢
      have c0 := cellOf hb1 0
      have c1 := cellOf hb1 1
      have c2 := cellOf hb1 2
      have c3 := cellOf hb1 3
      have c4 := cellOf hb1 4
      have f4 := freeOf hb1 4
      have HX := Lib.hid (⟨hx2, hb1, hq⟩ : _ ∧ _ ∧ _)
      clear hx hb1 hx2 hq HB
      go_wp2_with fail
      go_ret2
      have hsz : (w1.setCell ⟨q, 4, none⟩ (.slice none 0 0)).heap.size = w1.heap.size := by simp
      have hnew := heap_alloc_at (w := w1.setCell ⟨q, 4, none⟩ (.slice none 0 0)) (.cells #[.int .i64 x.kind, .int .i64 x.n, .int .i64 x.gen, .string x.s, .slice none 0 0] 25)
      rw [hsz] at hnew
      have hext : Ext [] w (w1.setCell ⟨q, 4, none⟩ (.slice none 0 0)) := HX.out.1.setCell ⟨q, 4, none⟩ _ (.inr (by have := HX.out.2.2; show w.heap.size ≤ q; omega))
      exact ⟨_, rfl, hext.alloc _, one_nodes (x := x) hnew HK.out hw.n hw.s⟩
def itemsN (l : List Nd) : List (List Nd) := if isN l 7 then (ndAt l 0).kids.map (fun k => subN l k.toNat) else []
theorem trees_own {w : World} {ov : Value} {P : List (Et × List Nd)} (hr : w.ownsRow 0 22 1 ov P.length (P.map fun p => slC p.1.2)) (hN : ∀ p ∈ P, NodesAt w (slC p.1.2) p.2) : TreesAt w ov (P.map (·.2)) := by
  obtain ⟨ao, cap, rfl⟩ := row_slice hr
  refine ⟨ao, cap, by rw [List.length_map], by rw [List.length_map]; exact row_le hr, fun i hi => ?_⟩
  rw [List.length_map] at hi
  obtain ⟨g, c2, he⟩ := row_form hr (by omega)
  cases he
  refine ⟨g, 0, slC (P[i]'hi).1.2, rfl, by rw [Nat.zero_add]; exact row_cell hr (by rw [List.getElem?_map, List.getElem?_eq_getElem hi]; rfl), ?_⟩
  rw [List.getElem_map]
  exact hN _ (List.getElem_mem hi)
set_option maxRecDepth 100000 in
set_option maxHeartbeats 1000000 in
theorem items_walk (v : Value) (l : List Nd) (w : World) (h : NodesAt w v l) (hl : Lt l) :
    Calls Tryz.prog 13 #[v] w fun e w' => ∃ v2, e = .returned v2 ∧ Ext [] w w' ∧ TreesAt w' v2 (itemsN l) := by
  obtain ⟨i0, hif, hz0, hz1, hz2⟩ := info_parts infoNodes
  have HI := Lib.hid (is_walk v l 7 w h hl)
  cases his : isN l 7 with
  | false =>
    have hR : itemsN l = [] := by rw [itemsN, his]; rfl
    rw [hR]
    rw [his] at HI
    obtain ⟨base, cap, rfl, -, -⟩ := h
    clear hR his
    go_enter Tryz.func13, Tryz.ntmps13
    go_wp2_with fail
    refine HI.out.mono ?_
    rintro e w1 ⟨rfl, hx⟩
    have HX := Lib.hid hx
    clear hx HI
    go_wp2_with fail
    go_ret
    exact ⟨_, rfl, HX.out, none, 0, rfl, by simp, fun k hk => by cases hk⟩
  | true =>
  rw [his] at HI
  obtain ⟨hc, -⟩ := is_facts his
  obtain ⟨h0, hn, E, D, hsh, -⟩ := check_zero hc
  have hrk := root_kids hc
  have hrl := root_len hc
  have HSub := Lib.hid (fun (k : Nat) (hk : k < l.length) W (hx : Ext [] w W) => sub_own v l W (h.ext hx) k hk hn (by rw [hsh]; simp))
  obtain ⟨R, hR⟩ : ∃ R, itemsN l = R := ⟨_, rfl⟩
  rw [hR]
  rw [itemsN, his, if_pos rfl] at hR
  obtain ⟨base, cap, rfl, -, hN⟩ := h
  obtain ⟨b, o, rfl, hnd⟩ := node_in hN 0 h0
  rw [Nat.zero_mul, Nat.add_zero, show ((0 : Nat) : Int) = 0 from rfl] at hnd
  obtain ⟨-, -, -, -, -, rb, rc, r5, r6⟩ := hnd
  obtain ⟨x, hx0⟩ : ∃ x, ndAt l 0 = x := ⟨_, rfl⟩
  rw [hx0] at hrk hrl hR r5 r6
  obtain ⟨K, hK⟩ : ∃ K, x.kids.length = K := ⟨_, rfl⟩
  rw [hK] at r5 hrl
  obtain ⟨n, hln⟩ : ∃ n, l.length = n := ⟨_, rfl⟩
  have HH := Lib.hid (⟨hrk, hR, r5, r6, hK, hln⟩ : _ ∧ _ ∧ _ ∧ _ ∧ _ ∧ _)
  rw [hln] at HI HSub h0 ⊢
  have h0z : (0 : Int) < (n : Int) := by omega
  clear hN hrk hR r5 r6 hK hln hx0 his hc h0 hsh hn
  go_enter Tryz.func13, Tryz.ntmps13
  go_wp2_with fail
  refine HI.out.mono ?_
  rintro e w1 ⟨rfl, hx1⟩
  have r5 := hx1.cell HH.out.2.2.1
  have S := ((Sep.start w).quiet hx1).new (Ext.refl _ _) (oNs [] []) ⟨by simp, fun _ _ p hp => by cases hp⟩ (fun k hk => by cases hk)
  have S := S.new (Ext.refl _ _) (oSl 22 1 (.slice none 0 0) 0 []) (World.ownsRow_nil _ _ _ _) (fun q hq => by simp [oSl, Value.ownBlock] at hq)
  have HS := Lib.hid S
  clear S hx1 HI
  go_wp2_with fail
  clear r5
  go_loopg [3, 5, 14] K (fun g ov v5 iv wr => ∃ (j : Nat) (P : List (Et × List Nd)) (F : List Nat), g + j = K ∧ iv = .int .i64 j ∧ P.length = j ∧ P.map (·.2) ++ (x.kids.drop j).map (fun k => subN l k.toNat) = R ∧ Sep w wr [oSl 22 1 ov P.length (P.map fun p => slC p.1.2), oNs F P])
  case atStart => exact ⟨0, [], [], by omega, rfl, rfl, by simp; exact HH.out.2.1, HS.out⟩
  case round =>
    clear HS
    obtain ⟨j, P, F, hgj, rfl, hm, hR, S⟩ := hrel
    have hr0 : wr.ownsRow 0 22 1 u3 P.length (P.map fun p => slC p.1.2) := S.get 0 rfl
    obtain ⟨ao3, c3, rfl⟩ := row_slice hr0
    by_cases hjK : j < K
    case neg =>
      obtain rfl : gk = 0 := by omega
      have hRA : P.map (·.2) = R := by rw [← hR, List.drop_eq_nil_of_le (by rw [HH.out.2.2.2.2.1]; omega)]; simp
      have hTr := trees_own hr0 ((S.get 1 rfl).2 wr (fun _ _ => rfl))
      rw [hRA] at hTr
      have HX := Lib.hid (⟨S.ext, hTr⟩ : _ ∧ _)
      clear hR S hr0 hRA hTr hm
      go_wp2_with fail
      go_ret
      exact ⟨_, rfl, HX.out.1, HX.out.2⟩
    case pos =>
    obtain ⟨g, rfl⟩ : ∃ g, gk = g + 1 := ⟨gk - 1, by omega⟩
    have hjz : (j : Int) < (K : Int) := by omega
    have hj1 : j < x.kids.length := by rw [HH.out.2.2.2.2.1]; omega
    rw [drop_at _ j hj1, List.map_cons] at hR
    obtain ⟨b5, o5, rfl, c5⟩ := HH.out.2.2.2.1 j hj1
    have hb := HH.out.1 j _ (List.getElem?_eq_getElem hj1)
    have c5 := S.ext.cell c5
    generalize x.kids[j]'hj1 = c at hR c5 hb
    obtain ⟨k2, rfl⟩ : ∃ k : Nat, c = (k : Int) := ⟨c.toNat, by omega⟩
    have hk2 : k2 < n := by have := HH.out.2.2.2.2.2; omega
    rw [Int.toNat_natCast] at hR
    have HX := Lib.hid (⟨S, hR, hm, hr0⟩ : _ ∧ _ ∧ _ ∧ _)
    clear S hR hr0 hb
    have HM := Lib.hid hm
    rw [hm] at HX ⊢
    clear hm
    go_wp2_with fail
    refine (HSub.out k2 hk2 wr HX.out.1.ext).mono ?_
    rintro e W ⟨v9, q9, Z9, rfl, S9, hZ9⟩
    have hB : BdP W q9 v9 Z9 := S9.get 0 rfl
    obtain ⟨a9, c9, rfl⟩ := row_slice hB.row
    obtain ⟨X9, hX9⟩ : ∃ X9, Z9.length = X9 := ⟨_, rfl⟩
    rw [hX9] at hB ⊢
    have hS9 : Sep wr W [oBd q9 (.slice a9 X9 c9) Z9] := by rw [← hX9]; exact S9
    have SW := (HX.out.1).upd 1 (oNs (F ++ bdF q9 (.slice a9 X9 c9) Z9) (P ++ [((⟨#[]⟩, a9, X9, c9), subN l k2)])) rfl (S9.ext.weak) (fun q hq => by
      have hq : q ∈ F ++ bdF q9 (.slice a9 X9 c9) Z9 := hq
      rcases List.mem_append.1 hq with hq | hq
      · exact .inl hq
      · exact .inr (hS9.base _ (List.mem_cons_self ..) q hq)) ⟨fun q hq => by
      rcases List.mem_append.1 hq with hq | hq
      · exact Nat.lt_of_lt_of_le (((HX.out.1).get 1 rfl).1 q hq) S9.ext.size
      · exact (oBd q9 (.slice a9 X9 c9) Z9).lt hB q hq, fun w2 h2 p hp => by
      rcases List.mem_append.1 hp with hp | hp
      · refine ((HX.out.1).get 1 rfl).2 w2 (fun q hq => ?_) p hp
        rw [h2 q (List.mem_append_left _ hq)]
        exact S9.ext.block q (((HX.out.1).get 1 rfl).1 q hq) (by simp)
      · obtain rfl : p = ((⟨#[]⟩, a9, X9, c9), subN l k2) := by simpa using hp
        have h3 := (hB.same (w' := w2) (fun q hq => h2 q (List.mem_append_right _ hq))).nodes
        rw [hZ9] at h3
        exact h3⟩
    have hrw := ownsRow_ext HX.out.2.2.2 S9.ext (by simp)
    have HR := Lib.hid (⟨SW, hrw⟩ : _ ∧ _)
    clear SW hrw hX9 hS9 S9 hB hZ9 c5
    go_wp2_with (first | (at_builtin; refine wpList_append_lies _ rfl _ _ 35 rfl 0 22 i0 _ 1 24 Tryz.underlying35 hif hz0 hz1 hz2 rfl (by decide) (.slice ao3 j c3) j _ rfl (World.ownsRow.alloc HR.out.2 _) ⟨W.heap.size, 0, none⟩ 1 1 [.slice a9 X9 c9] rfl rfl (cell_one_new _ _ _) (by simp [Value.oneCell']) (by decide) (by unfold maxLen; omega) (by omega) (by omega) (W.heap.size + 1) (by simp) ?_; intro g6 cap2 w6 hown1 hgrow hat6 hlt6))
    have Pl := push_local (cap := cap2) (n := j + 1) hgrow hat6
    have hl1 : (P ++ [(((⟨#[]⟩, a9, X9, c9) : Et), subN l k2)]).length = j + 1 := by rw [List.length_append, HM.out]; rfl
    have S2 := HR.out.1.upd 0 (oSl 22 1 (.slice (some ⟨g6, 0, none⟩) (j + 1) cap2) (P ++ [(((⟨#[]⟩, a9, X9, c9) : Et), subN l k2)]).length ((P ++ [(((⟨#[]⟩, a9, X9, c9) : Et), subN l k2)]).map fun p => slC p.1.2)) rfl Pl.1 Pl.2 (by
      show World.ownsRow _ 0 22 1 _ _ _
      rw [hl1, List.map_append]
      exact hown1)
    go_roundg g
    case measure => omega
    case rel =>
      refine ⟨j + 1, _, _, by omega, by go_num, hl1, ?_, S2⟩
      rw [List.map_append, List.append_assoc]
      exact HX.out.2.1
end Go.Proofs.YtkjcjklnclahdaaGreatDoor.Tr

/-! TsM: tree: Same walked. -/
namespace Go.Proofs.YtkjcjklnclahdaaGreatDoor.Tr
open Go.RowKit

set_option maxRecDepth 100000 in
set_option maxHeartbeats 1000000 in
theorem equal_walk (xb yb : Option Addr) (xc yc : Nat) (xs ys : List Int) (w : World) (hx : IntsAt w xb xs) (hy : IntsAt w yb ys) (hl : xs.length ≤ 9223372036854775807) (hl2 : ys.length ≤ 9223372036854775807) :
    Calls Tryz.prog 56 #[.slice xb xs.length xc, .slice yb ys.length yc] w fun e w' => e = .returned (.bool (decide (xs = ys))) ∧ Ext [] w w' := by
  obtain ⟨n, hn⟩ : ∃ n, xs.length = n := ⟨_, rfl⟩
  obtain ⟨m, hm⟩ : ∃ m, ys.length = m := ⟨_, rfl⟩
  obtain ⟨R, hR⟩ : ∃ R, decide (xs = ys) = R := ⟨_, rfl⟩
  rw [hR]
  by_cases hnm : n = m
  case neg =>
    have hRf : R = false := by rw [← hR, decide_eq_false]; rintro rfl; exact hnm (hn.symm.trans hm)
    subst hRf
    rw [hn] at hl ⊢
    rw [hm] at hl2 ⊢
    have hbb : ((n : Int) != (m : Int)) = true := bne_iff_ne.2 (by omega)
    clear hx hy hn hm hR
    go_enter Tryz.func56, Tryz.ntmps56
    go_wp2_with fail
    go_ret
    exact ⟨rfl, Ext.refl _ _⟩
  case pos =>
  subst hnm
  have HH := Lib.hid (⟨hx, hy, hn, hm, (sameK_is (hn.trans hm.symm)).trans hR⟩ : _ ∧ _ ∧ _ ∧ _ ∧ _)
  have hbb : ((n : Int) != (n : Int)) = false := bne_self_eq_false _
  rw [hn] at hl ⊢
  rw [hm] at hl2 ⊢
  clear hx hy hn hm hR hl2
  go_enter Tryz.func56, Tryz.ntmps56
  go_wp2_with fail
  clear hbb
  go_loopg [4, 5, 13] n (fun g v4 v5 iv wr => ∃ i : Nat, g + i = n ∧ iv = .int .i64 i ∧ sameK (xs.drop i) (ys.drop i) = R ∧ Ext [] w wr)
  case atStart => exact ⟨0, by omega, rfl, HH.out.2.2.2.2, Ext.refl _ _⟩
  case round =>
    obtain ⟨i, hgi, rfl, hR, hx⟩ := hrel
    by_cases hlt : i < n
    case neg =>
      obtain rfl : gk = 0 := by omega
      have hR0 : R = true := by rw [← hR, List.drop_eq_nil_of_le (by rw [HH.out.2.2.1]; omega), List.drop_eq_nil_of_le (by rw [HH.out.2.2.2.1]; omega)]; rfl
      subst hR0
      have HX := Lib.hid hx
      clear hx hR
      go_wp2_with fail
      go_ret
      exact ⟨rfl, HX.out⟩
    case pos =>
    obtain ⟨g, rfl⟩ : ∃ g, gk = g + 1 := ⟨gk - 1, by omega⟩
    have hltz : (i : Int) < (n : Int) := by omega
    have hia : i < xs.length := by rw [HH.out.2.2.1]; exact hlt
    have hib : i < ys.length := by rw [HH.out.2.2.2.1]; exact hlt
    rw [drop_at xs i hia, drop_at ys i hib, sameK] at hR
    obtain ⟨b1, o1, rfl, x1⟩ := HH.out.1 i hia
    obtain ⟨b2, o2, rfl, y1⟩ := HH.out.2.1 i hib
    have x1 := hx.cell x1
    have y1 := hx.cell y1
    generalize xs[i]'hia = p at *
    generalize ys[i]'hib = q at *
    have HX := Lib.hid (⟨hx, hR⟩ : _ ∧ _)
    clear hx hR
    by_cases hpq : p = q
    · subst hpq
      have hb : (p != p) = false := bne_self_eq_false _
      go_upto_region 6 with (fail)
      go_quiet (fail)
      go_wp2_with fail
      go_roundg g
      case measure => omega
      case rel => exact ⟨i + 1, by omega, by go_num, by simpa using HX.out.2, HX.out.1.drewN _⟩
    · have hb : (p != q) = true := bne_iff_ne.2 hpq
      have hR : R = false := by rw [← HX.out.2, decide_eq_false hpq]; rfl
      subst hR
      go_upto_region 6 with (fail)
      go_quiet (fail)
      go_wp2_with fail
      go_ret
      exact ⟨rfl, HX.out.1.drewN _⟩
set_option maxRecDepth 100000 in
set_option maxHeartbeats 1000000 in
theorem same1_walk (x y : Nd) (xb yb : Option Addr) (xc yc : Nat) (w : World) (hx : IntsAt w xb x.kids) (hy : IntsAt w yb y.kids) (hl : x.kids.length ≤ 9223372036854775807) (hl2 : y.kids.length ≤ 9223372036854775807) :
    Calls Tryz.prog 55 #[.agg #[.int .i64 x.kind, .int .i64 x.n, .int .i64 x.gen, .string x.s, .slice xb x.kids.length xc], .agg #[.int .i64 y.kind, .int .i64 y.n, .int .i64 y.gen, .string y.s, .slice yb y.kids.length yc]] w fun e w' => e = .returned (.bool (sameNd x y)) ∧ Ext [] w w' := by
  have HE := Lib.hid (fun W (hxw : Ext [] w W) => equal_walk xb yb xc yc x.kids y.kids W (hx.ext hxw) (hy.ext hxw) hl hl2)
  obtain ⟨R, hR⟩ : ∃ R, sameNd x y = R := ⟨_, rfl⟩
  rw [hR]
  obtain ⟨K, hK⟩ : ∃ K, decide (x.kids = y.kids) = K := ⟨_, rfl⟩
  simp only [hK] at HE
  rw [sameNd, hK] at hR
  clear hx hy hK
  by_cases q1 : x.kind = y.kind
  case neg =>
    have q1b : (x.kind == y.kind) = false := beq_eq_false_iff_ne.2 q1
    have hRf : R = false := by rw [← hR]; simp [q1]
    subst hRf
    clear hR q1
    go_enter Tryz.func55, Tryz.ntmps55
    go_wp2_with fail
    go_ret
    exact ⟨rfl, ((Ext.refl [] w).alloc _).alloc _⟩
  case pos =>
  have q1b : (x.kind == y.kind) = true := by rw [q1]; exact beq_self_eq_true _
  rw [decide_eq_true q1, Bool.true_and] at hR
  clear q1
  by_cases q2 : x.n = y.n
  case neg =>
    have q2b : (x.n == y.n) = false := beq_eq_false_iff_ne.2 q2
    have hRf : R = false := by rw [← hR]; simp [q2]
    subst hRf
    clear hR q2
    go_enter Tryz.func55, Tryz.ntmps55
    go_wp2_with fail
    go_ret
    exact ⟨rfl, ((Ext.refl [] w).alloc _).alloc _⟩
  case pos =>
  have q2b : (x.n == y.n) = true := by rw [q2]; exact beq_self_eq_true _
  rw [decide_eq_true q2, Bool.true_and] at hR
  clear q2
  by_cases q3 : x.gen = y.gen
  case neg =>
    have q3b : (x.gen == y.gen) = false := beq_eq_false_iff_ne.2 q3
    have hRf : R = false := by rw [← hR]; simp [q3]
    subst hRf
    clear hR q3
    go_enter Tryz.func55, Tryz.ntmps55
    go_wp2_with fail
    go_ret
    exact ⟨rfl, ((Ext.refl [] w).alloc _).alloc _⟩
  case pos =>
  have q3b : (x.gen == y.gen) = true := by rw [q3]; exact beq_self_eq_true _
  rw [decide_eq_true q3, Bool.true_and] at hR
  clear q3
  cases q4 : (x.s.toList == y.s.toList) with
  | false =>
    have hRf : R = false := by rw [← hR, q4]; rfl
    subst hRf
    clear hR
    go_enter Tryz.func55, Tryz.ntmps55
    go_wp2_with fail
    go_ret
    exact ⟨rfl, ((Ext.refl [] w).alloc _).alloc _⟩
  | true =>
    rw [q4, Bool.true_and] at hR
    subst hR
    go_enter Tryz.func55, Tryz.ntmps55
    go_wp2_with fail
    refine (HE.out _ (((Ext.refl [] w).alloc _).alloc _)).mono ?_
    rintro e w1 ⟨rfl, hx⟩
    have HX := Lib.hid ((((Ext.refl [] w).alloc _).alloc _).trans hx)
    clear hx HE
    go_wp2_with fail
    go_ret
    exact ⟨rfl, HX.out⟩
end Go.Proofs.YtkjcjklnclahdaaGreatDoor.Tr

/-! TsN: tree: Same walked, to its end. -/
namespace Go.Proofs.YtkjcjklnclahdaaGreatDoor.Tr
open Go.RowKit

set_option maxRecDepth 100000 in
set_option maxHeartbeats 1000000 in
theorem eqf_walk (u v : Value) (a b : List Nd) (w : World) (hu : NodesAt w u a) (hv : NodesAt w v b) (ha : a.length ≤ 9223372036854775807) (hb : b.length ≤ 9223372036854775807) :
    Calls Tryz.prog 54 #[u, v, .func (.func 55) #[] #[]] w fun e w' => e = .returned (.bool (sameL a b)) ∧ Ext [] w w' := by
  obtain ⟨ub, uc, rfl, -, hU⟩ := hu
  obtain ⟨vb, vc, rfl, -, hV⟩ := hv
  obtain ⟨n, hn⟩ : ∃ n, a.length = n := ⟨_, rfl⟩
  obtain ⟨m, hm⟩ : ∃ m, b.length = m := ⟨_, rfl⟩
  obtain ⟨R, hR⟩ : ∃ R, sameL a b = R := ⟨_, rfl⟩
  rw [hR]
  have HH := Lib.hid (⟨hU, hV, hn, hm, hR⟩ : _ ∧ _ ∧ _ ∧ _ ∧ _)
  rw [hn] at ha ⊢
  rw [hm] at hb ⊢
  clear hU hV hR
  by_cases hnm : n = m
  case neg =>
    have hR : R = false := by rw [← HH.out.2.2.2.2]; exact sameL_len (by rw [hn, hm]; exact hnm)
    subst hR
    have hbb : ((n : Int) != (m : Int)) = true := bne_iff_ne.2 (by omega)
    clear hn hm
    go_enter Tryz.func54, Tryz.ntmps54
    go_wp2_with fail
    go_ret
    exact ⟨rfl, Ext.refl _ _⟩
  case pos =>
  subst hnm
  have hbb : ((n : Int) != (n : Int)) = false := bne_self_eq_false _
  clear hn hm hb
  go_enter Tryz.func54, Tryz.ntmps54
  go_wp2_with fail
  clear hbb
  go_loopg [6, 7, 8, 9, 17] n (fun g v6 v7 v8 v9 iv wr => ∃ i : Nat, g + i = n ∧ iv = .int .i64 i ∧ sameL (a.drop i) (b.drop i) = R ∧ Ext [] w wr)
  case atStart => exact ⟨0, by omega, rfl, HH.out.2.2.2.2, Ext.refl _ _⟩
  case round =>
    obtain ⟨i, hgi, rfl, hR, hx⟩ := hrel
    by_cases hlt : i < n
    case neg =>
      obtain rfl : gk = 0 := by omega
      have hR0 : R = true := by rw [← hR, List.drop_eq_nil_of_le (by rw [HH.out.2.2.1]; omega), List.drop_eq_nil_of_le (by rw [HH.out.2.2.2.1]; omega)]; rfl
      subst hR0
      have HX := Lib.hid hx
      clear hx hR
      go_wp2_with fail
      go_ret
      exact ⟨rfl, HX.out⟩
    case pos =>
    obtain ⟨g, rfl⟩ : ∃ g, gk = g + 1 := ⟨gk - 1, by omega⟩
    have hltz : (i : Int) < (n : Int) := by omega
    have hia : i < a.length := by rw [HH.out.2.2.1]; exact hlt
    have hib : i < b.length := by rw [HH.out.2.2.2.1]; exact hlt
    rw [drop_at a i hia, drop_at b i hib, sameL] at hR
    obtain ⟨b1, o1, rfl, x1, x2, x3, x4, xw, xk, xc, x5, x6⟩ := HH.out.1.ext hx i hia
    obtain ⟨b2, o2, rfl, nd⟩ := HH.out.2.1.ext hx i hib
    generalize a[i]'hia = x at *
    generalize b[i]'hib = y at *
    have HY := Lib.hid nd
    have HX := Lib.hid (⟨hx, hR, x6⟩ : _ ∧ _ ∧ _)
    have hwx := Lib.hid xw
    clear hx hR x6 nd xw
    go_upto_region 6 with (fail)
    obtain ⟨W, hW⟩ : ∃ W, wr.alloc (.cells #[.int .i64 x.kind, .int .i64 x.n, .int .i64 x.gen, .string x.s, .slice xk x.kids.length xc] 25) = W := ⟨_, rfl⟩
    have hx4 : Ext [] wr W := by rw [← hW]; exact (Ext.refl [] wr).alloc _
    have hb4 : W.heap[wr.heap.size]? = some (.cells #[.int .i64 x.kind, .int .i64 x.n, .int .i64 x.gen, .string x.s, .slice xk x.kids.length xc] 25 (0, 0)) := by rw [← hW]; exact heap_alloc_at _
    obtain ⟨q, hq⟩ : ∃ q, wr.heap.size = q := ⟨_, rfl⟩
    rw [hq] at hb4 ⊢
    rw [hW]
    obtain ⟨y1, y2, y3, y4, yw, yk, yc, y5, y6⟩ := HY.out.ext hx4
    have HY2 := Lib.hid (⟨hx4, hb4, yw, y6⟩ : _ ∧ _ ∧ _ ∧ _)
    clear hx4 hb4 hW hq x1 x2 x3 x4 x5 yw y6
    go_upto_region 7 with (fail)
    obtain ⟨W2, hW2⟩ : ∃ W2, W.alloc (.cells #[.int .i64 y.kind, .int .i64 y.n, .int .i64 y.gen, .string y.s, .slice yk y.kids.length yc] 25) = W2 := ⟨_, rfl⟩
    have hx5 : Ext [] W W2 := by rw [← hW2]; exact (Ext.refl [] W).alloc _
    have hb5 : W2.heap[W.heap.size]? = some (.cells #[.int .i64 y.kind, .int .i64 y.n, .int .i64 y.gen, .string y.s, .slice yk y.kids.length yc] 25 (0, 0)) := by rw [← hW2]; exact heap_alloc_at _
    have hb4 := hx5.keep HY2.out.2.1 (by simp)
    obtain ⟨q2, hq2⟩ : ∃ q2, W.heap.size = q2 := ⟨_, rfl⟩
    rw [hq2] at hb5 ⊢
    rw [hW2]
    have c0 : W2.cell? ⟨q, 0, none⟩ = some (.int .i64 x.kind) := cellOf hb4 0
    have c1 : W2.cell? ⟨q, 1, none⟩ = some (.int .i64 x.n) := cellOf hb4 1
    have c2 : W2.cell? ⟨q, 2, none⟩ = some (.int .i64 x.gen) := cellOf hb4 2
    have c3 : W2.cell? ⟨q, 3, none⟩ = some (.string x.s) := cellOf hb4 3
    have c4 : W2.cell? ⟨q, 4, none⟩ = some (.slice xk x.kids.length xc) := cellOf hb4 4
    have d0 : W2.cell? ⟨q2, 0, none⟩ = some (.int .i64 y.kind) := cellOf hb5 0
    have d1 : W2.cell? ⟨q2, 1, none⟩ = some (.int .i64 y.n) := cellOf hb5 1
    have d2 : W2.cell? ⟨q2, 2, none⟩ = some (.int .i64 y.gen) := cellOf hb5 2
    have d3 : W2.cell? ⟨q2, 3, none⟩ = some (.string y.s) := cellOf hb5 3
    have d4 : W2.cell? ⟨q2, 4, none⟩ = some (.slice yk y.kids.length yc) := cellOf hb5 4
    have H := Lib.hid (same1_walk x y xk yk xc yc W2 ((HX.out.2.2.ext HY2.out.1).ext hx5) (HY2.out.2.2.2.ext hx5) hwx.out.len HY2.out.2.2.1.len)
    have HXX := Lib.hid ((HX.out.1.trans HY2.out.1).trans hx5)
    obtain ⟨z, hz⟩ : ∃ z, sameNd x y = z := ⟨_, rfl⟩
    rw [hz] at H HX
    clear hb4 hb5 hq2 hW2 hx5 y1 y2 y3 y4 y5 hz
    go_wp2_with fail
    refine H.out.mono ?_
    rintro e w9 ⟨rfl, hx9⟩
    have HX9 := Lib.hid (HXX.out.trans hx9)
    clear hx9 H HXX c0 c1 c2 c3 c4 d0 d1 d2 d3 d4
    cases z with
    | false =>
      have hR : R = false := by rw [← HX.out.2.1]; rfl
      subst hR
      go_wp2_with fail
      go_ret
      exact ⟨rfl, HX9.out⟩
    | true =>
      go_wp2_with fail
      go_roundg g
      case measure => omega
      case rel => exact ⟨i + 1, by omega, by go_num, by simpa using HX.out.2.1, HX9.out⟩
set_option maxRecDepth 100000 in
set_option maxHeartbeats 1000000 in
theorem tsame_walk (u v : Value) (a b : List Nd) (w : World) (hu : NodesAt w u a) (hv : NodesAt w v b) (ha : a.length ≤ 9223372036854775807) (hb : b.length ≤ 9223372036854775807) :
    Calls Tryz.prog 32 #[u, v] w fun e w' => e = .returned (.bool (sameL a b)) ∧ Ext [] w w' := by
  have H := Lib.hid (eqf_walk u v a b w hu hv ha hb)
  obtain ⟨ub, uc, rfl, -, -⟩ := hu
  obtain ⟨vb, vc, rfl, -, -⟩ := hv
  go_enter Tryz.func32, Tryz.ntmps32
  go_wp2_with fail
  refine H.out.mono ?_
  rintro e w1 ⟨rfl, hx⟩
  have HX := Lib.hid hx
  clear hx H
  go_wp2_with fail
  go_ret
  exact ⟨rfl, HX.out⟩
end Go.Proofs.YtkjcjklnclahdaaGreatDoor.Tr
