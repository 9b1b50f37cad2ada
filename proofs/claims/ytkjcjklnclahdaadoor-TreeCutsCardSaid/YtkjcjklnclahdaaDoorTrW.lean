/-
  tree: Names, Refs walked; kit.Same of strings.
-/
import Derived.Test.YtkjcjklnclahdaaDoorTrU
import Derived.Test.YtkjcjklnclahdaaDoorTrR
namespace Go.Proofs.YtkjcjklnclahdaaDoor.Tr
open Go.RowKit

def evensN : List Int → List Int
  | k :: _ :: r => k :: evensN r
  | [k] => [k]
  | [] => []
theorem evens_step (L : List Int) (j : Nat) (hj : j + 1 < L.length) : evensN (L.drop j) = L[j]'(by omega) :: evensN (L.drop (j + 2)) := by
  rw [drop_at L j (by omega), drop_at L (j + 1) hj, evensN]
theorem ndAt_nat (l : List Nd) (k : Nat) (hk : k < l.length) : ndAt l (k : Int) = l[k]'hk := by
  rw [ndAt, Int.toNat_natCast, List.getD_eq_getElem?_getD, List.getElem?_eq_getElem hk]; rfl
/-- a dict's names -/
def namesN (l : List Nd) : List ByteArray := if isN l 8 then (evensN (ndAt l 0).kids).map (fun k => (ndAt l k).s) else []
theorem is_facts {l : List Nd} {kind : Int} (h : isN l kind = true) : checkN l = 0 ∧ (ndAt l 0).kind = kind := by simpa [isN] using h
/-- what is known of the root's kids -/
theorem root_kids {l : List Nd} (hc : checkN l = 0) : ∀ (j : Nat) (c : Int), (ndAt l 0).kids[j]? = some c → 0 < c ∧ c < l.length := by
  obtain ⟨h0, hn, E, D, hsh, -⟩ := check_zero hc
  obtain ⟨-, -, -, hK, -⟩ := shape_some hsh
  intro j c hj
  have e : kidsAt l 0 = (ndAt l 0).kids := by
    have := ndAt_nat l 0 h0
    rw [show ((0 : Nat) : Int) = 0 from rfl] at this
    rw [this, kidsAt, List.getElem?_eq_getElem h0]
  have := hK 0 h0 j c (by rw [e]; exact hj)
  omega
theorem root_even {l : List Nd} (h : isN l 8 = true) : (ndAt l 0).kids.length % 2 = 0 := by
  obtain ⟨hc, hk⟩ := is_facts h
  obtain ⟨h0, hn, E, D, hsh, hm, hall⟩ := check_zero hc
  have e := ndAt_nat l 0 h0
  rw [show ((0 : Nat) : Int) = 0 from rfl] at e
  have := List.all_eq_true.1 hall _ (List.getElem_mem h0)
  rw [← e, nodeOk, hk] at this
  simp at this
  exact this.2.1
theorem infoString17 : (Tryd.prog.info? 9).map (fun i => (i.zero, i.size, i.bytes)) = some (some (.string ⟨#[]⟩), 1, 16) := by kernel_rfl
def stC (l : List ByteArray) : List Value := l.map Value.string
theorem strs_own {w : World} {v : Value} {l : List ByteArray} (h : w.ownsRow 0 9 1 v l.length (stC l)) : StrsAt w v l := by
  obtain ⟨ao, cap, rfl⟩ := row_slice h
  refine ⟨ao, cap, rfl, row_le h, fun i hi => ?_⟩
  obtain ⟨g, c2, he⟩ := row_form h (by omega)
  cases he
  exact ⟨g, 0, rfl, by rw [Nat.zero_add]; exact row_cell h (by rw [stC, List.getElem?_map, List.getElem?_eq_getElem hi]; rfl)⟩
set_option maxRecDepth 100000 in
set_option maxHeartbeats 2000000 in
theorem names_walk (v : Value) (l : List Nd) (w : World) (h : NodesAt w v l) (hl : Lt l) :
    Calls Tryd.prog 26 #[v] w fun e w' => ∃ v2, e = .returned v2 ∧ Ext [] w w' ∧ StrsAt w' v2 (namesN l) := by
  obtain ⟨i0, hif, hz0, hz1, hz2⟩ := info_parts infoString17
  have HI := Lib.hid (is_walk v l 8 w h hl)
  cases his : isN l 8 with
  | false =>
    have hR : namesN l = [] := by rw [namesN, his]; rfl
    rw [hR]
    rw [his] at HI
    obtain ⟨base, cap, rfl, -, -⟩ := h
    clear hR his
    go_enter Tryd.func26, Tryd.ntmps26
    go_wp2_with fail
    refine HI.out.mono ?_
    rintro e w1 ⟨rfl, hx⟩
    have HX := Lib.hid hx
    clear hx HI
    go_wp2_with fail
    go_ret
    exact ⟨_, rfl, HX.out, none, 0, rfl, by simp, fun k hk => by cases hk⟩
  | true =>
  rw [his] at HI
  obtain ⟨hc, hk8⟩ := is_facts his
  obtain ⟨h0, hn, -⟩ := check_zero hc
  have hrk := root_kids hc
  have hev := root_even his
  obtain ⟨R, hR⟩ : ∃ R, namesN l = R := ⟨_, rfl⟩
  rw [hR]
  rw [namesN, his, if_pos rfl] at hR
  obtain ⟨base, cap, rfl, -, hN⟩ := h
  obtain ⟨b, o, rfl, hnd⟩ := node_in hN 0 h0
  rw [Nat.zero_mul, Nat.add_zero] at hnd
  rw [show ((0 : Nat) : Int) = 0 from rfl] at hnd
  obtain ⟨r1, r2, r3, r4, rw_, rb, rc, r5, r6⟩ := hnd
  obtain ⟨x, hx0⟩ : ∃ x, ndAt l 0 = x := ⟨_, rfl⟩
  rw [hx0] at hrk hev hR r5 r6 rw_
  obtain ⟨K, hK⟩ : ∃ K, x.kids.length = K := ⟨_, rfl⟩
  have hkl := rw_.len
  rw [hK] at r5 hkl hev
  obtain ⟨n, hln⟩ : ∃ n, l.length = n := ⟨_, rfl⟩
  have HH := Lib.hid (⟨hN, hrk, hR, r5, r6, hK, hln⟩ : _ ∧ _ ∧ _ ∧ _ ∧ _ ∧ _ ∧ _)
  have hK9 : K ≤ 65536 := by
    obtain ⟨-, -, E, D, hsh, -⟩ := check_zero hc
    obtain ⟨-, -, -, -, hE⟩ := shape_some hsh
    have h9 := (hE 0 h0).2
    have e : kidsAt l 0 = x.kids := by
      have := ndAt_nat l 0 h0
      rw [show ((0 : Nat) : Int) = 0 from rfl, hx0] at this
      rw [this, kidsAt, List.getElem?_eq_getElem h0]
    rw [e, hK] at h9
    omega
  rw [hln] at HI h0 hn ⊢
  have h0z : (0 : Int) < (n : Int) := by omega
  clear hN hrk hR r1 r2 r3 r4 r5 r6 rw_ hK hln hx0 his hc hk8 h0
  go_enter Tryd.func26, Tryd.ntmps26
  go_wp2_with fail
  refine HI.out.mono ?_
  rintro e w1 ⟨rfl, hx⟩
  have S := ((Sep.start w).quiet hx).new (Ext.refl _ _) (oSl 9 1 (.slice none 0 0) 0 []) (World.ownsRow_nil _ _ _ _) (fun q hq => by simp [oSl, Value.ownBlock] at hq)
  have HS := Lib.hid S
  clear hx HI S
  go_wp2_with fail
  go_loopg [3, 4] K (fun g ov iv wr => ∃ (j : Nat) (A : List ByteArray), g + j = K ∧ j % 2 = 0 ∧ iv = .int .i64 j ∧ A.length ≤ j ∧ A ++ (evensN (x.kids.drop j)).map (fun k => (ndAt l k).s) = R ∧ Sep w wr [oSl 9 1 ov A.length (stC A)])
  case atStart => exact ⟨0, [], by omega, rfl, rfl, by simp, HH.out.2.2.1, HS.out⟩
  case round =>
    clear HS
    obtain ⟨j, A, hgj, hj2, rfl, hA, hR, S⟩ := hrel
    have hr0 : wr.ownsRow 0 9 1 u3 A.length (stC A) := S.get 0 rfl
    obtain ⟨ao3, c3, rfl⟩ := row_slice hr0
    obtain ⟨m, hm⟩ : ∃ m, A.length = m := ⟨_, rfl⟩
    have r5 := S.ext.cell HH.out.2.2.2.1
    by_cases hjK : j < K
    · obtain ⟨g, rfl⟩ : ∃ g, gk = g + 2 := ⟨gk - 2, by omega⟩
      have hjz : (j : Int) < (K : Int) := by omega
      have hj1 : j + 1 < x.kids.length := by rw [HH.out.2.2.2.2.2.1]; omega
      rw [evens_step _ j hj1] at hR
      obtain ⟨b5, o5, rfl, c5⟩ := HH.out.2.2.2.2.1 j (by omega)
      have hb := HH.out.2.1 j _ (List.getElem?_eq_getElem (by omega))
      have c5 := S.ext.cell c5
      generalize x.kids[j]'(by omega) = c at hR c5 hb
      obtain ⟨k, rfl⟩ : ∃ k : Nat, c = (k : Int) := ⟨c.toNat, by omega⟩
      have hk : k < l.length := by omega
      obtain ⟨b6, o6, e6, d1, d2, d3, d4, -⟩ := node_in (HH.out.1.ext S.ext) k hk
      cases e6
      have hkz : (k : Int) < (n : Int) := by have := HH.out.2.2.2.2.2.2; omega
      rw [List.map_cons] at hR
      obtain ⟨s, hs⟩ : ∃ s, (ndAt l (k : Int)).s = s := ⟨_, rfl⟩
      rw [hs] at d4 hR
      rw [hm] at hr0 hA ⊢
      have HX := Lib.hid (⟨S, hR, hr0, hm⟩ : _ ∧ _ ∧ _ ∧ _)
      clear S hR hr0 hm hb hs d1 d2 d3
      go_wp2_with (first | (at_builtin; refine wpList_append_lies _ rfl _ _ 22 rfl 0 9 i0 _ 1 16 Tryd.underlying22 hif hz0 hz1 hz2 rfl (by decide) (.slice ao3 m c3) m _ rfl (World.ownsRow.alloc HX.out.2.2.1 _) ⟨wr.heap.size, 0, none⟩ 1 1 [.string s] rfl rfl (cell_one_new _ _ _) (by simp [Value.oneCell']) (by decide) (by unfold maxLen; omega) (by omega) (by omega) (wr.heap.size + 1) (by simp) ?_; intro g6 cap2 w6 hown1 hgrow hat6 hlt6))
      have Pl := push_local (cap := cap2) (n := m + 1) hgrow hat6
      go_roundg g
      case measure => omega
      case rel =>
        have hl1 : (A ++ [s]).length = m + 1 := by rw [List.length_append, HX.out.2.2.2]; rfl
        refine ⟨j + 2, A ++ [s], by omega, by omega, by go_num, by omega, by rw [List.append_assoc]; exact HX.out.2.1, HX.out.1.upd 0 (oSl 9 1 (.slice (some ⟨g6, 0, none⟩) (m + 1) cap2) (A ++ [s]).length (stC (A ++ [s]))) rfl (by rw [HX.out.2.2.2]; exact Pl.1) (by rw [HX.out.2.2.2]; exact Pl.2) ?_⟩
        show World.ownsRow _ 0 9 1 _ _ _
        rw [hl1, stC, List.map_append]
        exact hown1
    · obtain rfl : gk = 0 := by omega
      have hRA : A = R := by rw [← hR, List.drop_eq_nil_of_le (by rw [HH.out.2.2.2.2.2.1]; omega), evensN, List.map_nil, List.append_nil]
      subst hRA
      have HX := Lib.hid (⟨S.ext, strs_own hr0⟩ : _ ∧ _)
      clear hR S hr0 hA hm
      go_wp2_with fail
      go_ret
      exact ⟨_, rfl, HX.out.1, HX.out.2⟩
end Go.Proofs.YtkjcjklnclahdaaDoor.Tr
