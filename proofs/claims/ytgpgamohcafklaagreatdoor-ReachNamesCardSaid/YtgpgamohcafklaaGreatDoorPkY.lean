/-
  TsI, TsJ, TsK, TsL, TsM, TsN, in one text.
-/
import Derived.Test.YtgpgamohcafklaaGreatDoorPkW
import Derived.Test.YtgpgamohcafklaaGreatDoorPkV
import Derived.Test.YtgpgamohcafklaaGreatDoorPkX
/-! TsI: tree: entries walked. -/
namespace Go.Proofs.YtgpgamohcafklaaGreatDoor.Tr
open Go.RowKit

theorem row_same {w w' : World} {e : TypeId} {k n : Nat} {v : Value} {xs : List Value} (h : w.ownsRow 0 e k v n xs) (hs : ∀ g, v.ownBlock = some g → w'.heap[g]? = w.heap[g]?) : w'.ownsRow 0 e k v n xs := by
  refine ⟨h.1, ?_⟩
  rcases h.2 with hn | ⟨g, cap, cur, rfl, hb, hgg, rest⟩
  · exact .inl hn
  · exact .inr ⟨g, cap, cur, rfl, hb, (hs g rfl).trans hgg, rest⟩
/-- trees that lie in blocks of the call's own -/
def oNs (F : List Nat) (L : List (Et × List Nd)) : Ob where
  F := F
  P := fun w => (∀ k ∈ F, k < w.heap.size) ∧ ∀ w' : World, (∀ k ∈ F, w'.heap[k]? = w.heap[k]?) → ∀ p ∈ L, NodesAt w' (slC p.1.2) p.2
  ok := fun h hx hS => ⟨fun k hk => Nat.lt_of_lt_of_le (h.1 k hk) hx.size, fun w2 h2 => h.2 w2 (fun k hk => (h2 k hk).trans (hx.block k (h.1 k hk) (hS k hk)))⟩
  lt := fun h => h.1
/-- a dict's names and values -/
def pairsN (l : List Nd) : List Int → List Ent
  | k :: m :: r => ((ndAt l k).s, subN l m.toNat) :: pairsN l r
  | _ => []
def entsN (l : List Nd) (but : ByteArray) : List Ent := (pairsN l (ndAt l 0).kids).filter fun p => !(p.1.toList == but.toList)
theorem pairs_step (l : List Nd) (L : List Int) (j : Nat) (hj : j + 1 < L.length) : pairsN l (L.drop j) = ((ndAt l (L[j]'(by omega))).s, subN l (L[j + 1]'hj).toNat) :: pairsN l (L.drop (j + 2)) := by
  rw [drop_at L j (by omega), drop_at L (j + 1) hj, pairsN]
end Go.Proofs.YtgpgamohcafklaaGreatDoor.Tr

/-! TsJ: tree: Set, Drop walked. -/
namespace Go.Proofs.YtgpgamohcafklaaGreatDoor.Tr
open Go.RowKit

theorem pairs_ok {l : List Nd} (hb : ∀ x ∈ l, bareN x = true) : ∀ (pr : Option ByteArray) (L : List Int), risesN l pr L = true → (∀ k ∈ L, 0 ≤ k ∧ k < (l.length : Int)) → ∀ p ∈ pairsN l L, nameN p.1 = 0 ∧ (∃ x ∈ l, p.1 = x.s) ∧ ∃ m : Nat, m < l.length ∧ p.2 = subN l m
  | _, [], _, _, p, hp => by cases hp
  | _, [_], _, _, p, hp => by cases hp
  | pr, k :: m :: r, h, hk, p, hp => by
    rw [risesN, Bool.and_eq_true, Bool.and_eq_true, decide_eq_true_eq] at h
    obtain ⟨⟨h6, -⟩, h3⟩ := h
    rw [pairsN] at hp
    rcases List.mem_cons.1 hp with rfl | hp
    · obtain ⟨k1, k2⟩ := hk k (by simp)
      obtain ⟨m1, m2⟩ := hk m (by simp)
      obtain ⟨kk, rfl⟩ : ∃ kk : Nat, k = (kk : Int) := ⟨k.toNat, by omega⟩
      have hkl : kk < l.length := by omega
      have hnd := ndAt_nat l kk hkl
      have hmem : ndAt l (kk : Int) ∈ l := by rw [hnd]; exact List.getElem_mem hkl
      refine ⟨?_, ⟨_, hmem, rfl⟩, m.toNat, by omega, rfl⟩
      have := hb _ hmem
      unfold bareN at this
      rw [h6] at this
      split at this
      · cases this
      · simpa using this
    · exact pairs_ok hb _ r h3 (fun q hq => hk q (by simp [hq])) p hp
theorem ents_ok {l : List Nd} {but : ByteArray} (his : isN l 8 = true) (hl : Lt l) : ∀ p ∈ entsN l but, p.1.size ≤ 1000000 ∧ nameN p.1 = 0 ∧ checkN p.2 = 0 ∧ ∀ x ∈ p.2, x.s.size ≤ 1000000 := fun p hp => by
  obtain ⟨hc, hk8⟩ := is_facts his
  obtain ⟨h0, hn, E, D, hsh, -, hall⟩ := check_zero hc
  have hb : ∀ x ∈ l, bareN x = true := fun x hx => by
    have := List.all_eq_true.1 hall x hx
    rw [nodeOk, Bool.and_eq_true] at this
    exact this.1
  have e := ndAt_nat l 0 h0
  rw [show ((0 : Nat) : Int) = 0 from rfl] at e
  have hr : risesN l none (ndAt l 0).kids = true := by
    have := List.all_eq_true.1 hall _ (List.getElem_mem h0)
    rw [← e, nodeOk, hk8] at this
    simp at this
    exact this.2.2
  have hp2 := (List.mem_filter.1 hp).1
  obtain ⟨h1, ⟨x, hx, h2⟩, m, hm, h3⟩ := pairs_ok hb none _ hr (fun k hk => by
    obtain ⟨j, hj⟩ := List.getElem?_of_mem hk
    have := root_kids hc j k hj
    omega) p hp2
  refine ⟨by rw [h2]; exact hl.s x hx, h1, by rw [h3]; exact (cuts_ok hc hm).sub, fun y hy => ?_⟩
  rw [h3] at hy
  unfold subN at hy
  split at hy
  · obtain ⟨z, hz, rfl⟩ := List.mem_map.1 hy
    exact hl.s z (List.mem_of_mem_take (List.mem_of_mem_drop hz))
  · cases hy
def dropN (l : List Nd) (s : ByteArray) : List Nd := if checkN l ≠ 0 then [] else if (ndAt l 0).kind ≠ 8 then subN l 0 else (dictN (entsN l s)).1
theorem ents_P {l : List Nd} {but : ByteArray} {P : List (Et × List Nd)} (hP : P.map (fun p => (p.1.1, p.2)) = entsN l but) (his : isN l 8 = true) (hl : Lt l) : ∀ p ∈ P, p.1.1.size ≤ 1000000 ∧ nameN p.1.1 = 0 ∧ checkN p.2 = 0 ∧ ∀ x ∈ p.2, x.s.size ≤ 1000000 := fun p hp =>
  ents_ok (but := but) his hl (p.1.1, p.2) (by rw [← hP]; exact List.mem_map_of_mem (f := fun p : Et × List Nd => (p.1.1, p.2)) hp)
end Go.Proofs.YtgpgamohcafklaaGreatDoor.Tr

/-! TsK: tree: Set walked. -/
namespace Go.Proofs.YtgpgamohcafklaaGreatDoor.Tr
open Go.RowKit

def setN (l : List Nd) (key : ByteArray) (v : List Nd) : List Nd × Int :=
  if firstN [l, v] ≠ 0 then ([], firstN [l, v]) else if (ndAt l 0).kind ≠ 8 ∨ nameN key ≠ 0 then ([], 2) else dictN (entsN l key ++ [(key, v)])
theorem trees2g {w : World} {g : Nat} {u v : Value} {a b : List Nd} {t : TypeId} {f : Nat × Nat} (h : w.heap[g]? = some (.cells #[u, v] t f)) (hu : NodesAt w u a) (hv : NodesAt w v b) : TreesAt w (.slice (some ⟨g, 0, none⟩) 2 2) [a, b] :=
  ⟨_, 2, rfl, Nat.le_refl _, fun i hi => by
    match i, hi with
    | 0, _ => exact ⟨g, 0, u, rfl, cellOf h 0, hu⟩
    | 1, _ => exact ⟨g, 0, v, rfl, cellOf h 1, hv⟩⟩
end Go.Proofs.YtgpgamohcafklaaGreatDoor.Tr

/-! TsL: tree: One, Items walked. -/
namespace Go.Proofs.YtgpgamohcafklaaGreatDoor.Tr
open Go.RowKit

def oneN (x : Nd) : List Nd × Int := if 0 < x.kids.length ∨ bareN x = false then ([], 2) else ([x], 0)
def itemsN (l : List Nd) : List (List Nd) := if isN l 7 then (ndAt l 0).kids.map (fun k => subN l k.toNat) else []
theorem trees_own {w : World} {ov : Value} {P : List (Et × List Nd)} (hr : w.ownsRow 0 30 1 ov P.length (P.map fun p => slC p.1.2)) (hN : ∀ p ∈ P, NodesAt w (slC p.1.2) p.2) : TreesAt w ov (P.map (·.2)) := by
  obtain ⟨ao, cap, rfl⟩ := row_slice hr
  refine ⟨ao, cap, by rw [List.length_map], by rw [List.length_map]; exact row_le hr, fun i hi => ?_⟩
  rw [List.length_map] at hi
  obtain ⟨g, c2, he⟩ := row_form hr (by omega)
  cases he
  refine ⟨g, 0, slC (P[i]'hi).1.2, rfl, by rw [Nat.zero_add]; exact row_cell hr (by rw [List.getElem?_map, List.getElem?_eq_getElem hi]; rfl), ?_⟩
  rw [List.getElem_map]
  exact hN _ (List.getElem_mem hi)
end Go.Proofs.YtgpgamohcafklaaGreatDoor.Tr

/-! TsM: tree: Same walked. -/
namespace Go.Proofs.YtgpgamohcafklaaGreatDoor.Tr
open Go.RowKit

end Go.Proofs.YtgpgamohcafklaaGreatDoor.Tr

/-! TsN: tree: Same walked, to its end. -/
namespace Go.Proofs.YtgpgamohcafklaaGreatDoor.Tr
open Go.RowKit

end Go.Proofs.YtgpgamohcafklaaGreatDoor.Tr
