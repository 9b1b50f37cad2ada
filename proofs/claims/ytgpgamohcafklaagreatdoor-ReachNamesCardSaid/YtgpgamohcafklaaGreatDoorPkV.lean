/-
  TrN, TrO, TrP, TrQ, TrR, TrS, TrU, in one text.
-/
import Derived.Test.YtgpgamohcafklaaGreatDoorPkU
import Derived.Test.YtgpgamohcafklaaGreatDoorShA
/-! TrN: tree: entries sorted by their names (at most 20 of them). -/
namespace Go.Proofs.YtgpgamohcafklaaGreatDoor.Tr
open Go.RowKit

/-- an entry: its name, its value as a slice -/
abbrev Et := ByteArray × Option Addr × Nat × Nat
def etC (l : List Et) : List Value := l.flatMap fun p => [.string p.1, .slice p.2.1 p.2.2.1 p.2.2.2]
theorem etC_len (T : List Et) : (etC T).length = T.length * 2 := by
  induction T with
  | nil => rfl
  | cons a l ih => rw [etC, List.flatMap_cons, List.length_append, ← etC, ih]; simp; omega
theorem etC_append (T U : List Et) : etC (T ++ U) = etC T ++ etC U := by unfold etC; rw [List.flatMap_append]
theorem etC_cons (p : Et) (U : List Et) : etC (p :: U) = .string p.1 :: .slice p.2.1 p.2.2.1 p.2.2.2 :: etC U := by simp [etC]
def cmpN (a b : ByteArray) : Int := Lib.compareBytes a.data.toList b.data.toList
/-- an entry is put among those that are sorted, the last one first -/
def insR (x : Et) : List Et → List Et
  | [] => [x]
  | y :: R => if cmpN x.1 y.1 < 0 then y :: insR x R else x :: y :: R
def sortR : List Et → List Et → List Et
  | acc, [] => acc
  | acc, x :: r => sortR (insR x acc) r
def sortN (l : List Et) : List Et := (sortR [] l).reverse
theorem insR_len (x : Et) : ∀ R, (insR x R).length = R.length + 1
  | [] => rfl
  | y :: R => by unfold insR; split <;> simp [insR_len x R]
theorem sortR_len : ∀ (r acc : List Et), (sortR acc r).length = acc.length + r.length
  | [], acc => rfl
  | x :: r, acc => by rw [sortR, sortR_len r, insR_len, List.length_cons]; omega
theorem sortN_len (l : List Et) : (sortN l).length = l.length := by rw [sortN, List.length_reverse, sortR_len]; simp
theorem set4 : ∀ (A T : List Value) (a b c d a' b' c' d' : Value), ((((A ++ a :: b :: c :: d :: T).set (A.length + 2) c').set (A.length + 3) d').set A.length a').set (A.length + 1) b' = A ++ a' :: b' :: c' :: d' :: T
  | [], _, _, _, _, _, _, _, _, _ => rfl
  | z :: A, T, a, b, c, d, a', b', c', d' => by
    have := set4 A T a b c d a' b' c' d'
    rw [List.cons_append, List.length_cons, show A.length + 1 + 2 = A.length + 2 + 1 by omega, show A.length + 1 + 3 = A.length + 3 + 1 by omega, List.set_cons_succ, List.set_cons_succ, List.set_cons_succ, List.set_cons_succ, this]
    rfl
end Go.Proofs.YtgpgamohcafklaaGreatDoor.Tr

/-! TrO: tree: insertionSortCmpFunc of entries walked, stableCmpFunc of at most 20 of them. -/
namespace Go.Proofs.YtgpgamohcafklaaGreatDoor.Tr
open Go.RowKit

end Go.Proofs.YtgpgamohcafklaaGreatDoor.Tr

/-! TrP: tree: dict walked. -/
namespace Go.Proofs.YtgpgamohcafklaaGreatDoor.Tr
open Go.RowKit

/-! ### plain: whatever is sorted by names -/
def insG {α : Type} (key : α → ByteArray) (x : α) : List α → List α
  | [] => [x]
  | y :: R => if cmpN (key x) (key y) < 0 then y :: insG key x R else x :: y :: R
def sortRG {α : Type} (key : α → ByteArray) : List α → List α → List α
  | acc, [] => acc
  | acc, x :: r => sortRG key (insG key x acc) r
def sortG {α : Type} (key : α → ByteArray) (l : List α) : List α := (sortRG key [] l).reverse
theorem insG_map {α β : Type} (key : β → ByteArray) (f : α → β) (x : α) : ∀ R : List α, insG key (f x) (R.map f) = (insG (fun a => key (f a)) x R).map f
  | [] => rfl
  | y :: R => by
    rw [List.map_cons, insG, insG, insG_map key f x R]
    split <;> simp
theorem sortRG_map {α β : Type} (key : β → ByteArray) (f : α → β) : ∀ (r acc : List α), sortRG key (acc.map f) (r.map f) = (sortRG (fun a => key (f a)) acc r).map f
  | [], acc => rfl
  | x :: r, acc => by rw [List.map_cons, sortRG, insG_map, sortRG_map key f r, sortRG]
theorem sortG_map {α β : Type} (key : β → ByteArray) (f : α → β) (l : List α) : sortG key (l.map f) = (sortG (fun a => key (f a)) l).map f := by
  have := sortRG_map key f l []
  rw [List.map_nil] at this
  rw [sortG, sortG, this, List.map_reverse]
theorem insR_G (x : Et) : ∀ R, insR x R = insG (fun p : Et => p.1) x R
  | [] => rfl
  | y :: R => by rw [insR, insG, insR_G x R]
theorem sortR_G : ∀ (r acc : List Et), sortR acc r = sortRG (fun p : Et => p.1) acc r
  | [], acc => rfl
  | x :: r, acc => by rw [sortR, sortRG, insR_G, sortR_G r]
theorem sortN_G (l : List Et) : sortN l = sortG (fun p : Et => p.1) l := by rw [sortN, sortG, sortR_G]
theorem insG_mem {α : Type} (key : α → ByteArray) (x : α) : ∀ (R : List α) (y : α), y ∈ insG key x R ↔ y = x ∨ y ∈ R
  | [], y => by simp [insG]
  | z :: R, y => by
    rw [insG]
    split
    · rw [List.mem_cons, insG_mem key x R y, List.mem_cons]
      constructor
      · rintro (h | h | h)
        · exact .inr (.inl h)
        · exact .inl h
        · exact .inr (.inr h)
      · rintro (h | h | h)
        · exact .inr (.inl h)
        · exact .inl h
        · exact .inr (.inr h)
    · rw [List.mem_cons]
theorem sortRG_mem {α : Type} (key : α → ByteArray) : ∀ (r acc : List α) (y : α), y ∈ sortRG key acc r ↔ y ∈ acc ∨ y ∈ r
  | [], acc, y => by simp [sortRG]
  | x :: r, acc, y => by
    rw [sortRG, sortRG_mem key r, insG_mem, List.mem_cons]
    constructor
    · rintro ((h | h) | h)
      · exact .inr (.inl h)
      · exact .inl h
      · exact .inr (.inr h)
    · rintro (h | h | h)
      · exact .inl (.inr h)
      · exact .inl (.inl h)
      · exact .inr h
theorem sortG_mem {α : Type} (key : α → ByteArray) (l : List α) (y : α) : y ∈ sortG key l ↔ y ∈ l := by rw [sortG, List.mem_reverse, sortRG_mem]; simp
theorem insG_len {α : Type} (key : α → ByteArray) (x : α) : ∀ R : List α, (insG key x R).length = R.length + 1
  | [] => rfl
  | y :: R => by unfold insG; split <;> simp [insG_len key x R]
theorem sortRG_len {α : Type} (key : α → ByteArray) : ∀ (r acc : List α), (sortRG key acc r).length = acc.length + r.length
  | [], acc => rfl
  | x :: r, acc => by rw [sortRG, sortRG_len key r, insG_len, List.length_cons]; omega
theorem sortG_len {α : Type} (key : α → ByteArray) (l : List α) : (sortG key l).length = l.length := by rw [sortG, List.length_reverse, sortRG_len]; simp
/-! ### the dict of entries -/
def nameNd (s : ByteArray) : Nd := ⟨6, 0, 0, s, []⟩
abbrev Ent := ByteArray × List Nd
/-- does a name stand twice, one next to the other? -/
def likeN : Option ByteArray → ByteArray → Bool
  | none, _ => false
  | some s, t => s.toList == t.toList
def twiceF : Option ByteArray → List Ent → Bool
  | _, [] => false
  | p, x :: r => likeN p x.1 || twiceF (some x.1) r
def allN (S : List Ent) : List (List Nd) := S.flatMap fun p => [[nameNd p.1], p.2]
def dictN (P : List Ent) : List Nd × Int := if twiceF none (sortG (·.1) P) then ([], 6) else underN 8 (allN (sortG (·.1) P))
theorem name_ok {s : ByteArray} (h : nameN s = 0) : checkN [nameNd s] = 0 := by
  have e : shapeN [nameNd s] = some ([1], [1]) := rfl
  have hb : bareN (nameNd s) = true := by simp [bareN, nameNd, h]
  unfold checkN
  rw [e]
  simp [nodeOk, nameNd, Lib.maxOf]
  exact hb
/-- names' nodes, each in a block of its own -/
def nmObj (s : ByteArray) : Obj := .cells #[.int .i64 6, .int .i64 0, .int .i64 0, .string s, .slice none 0 0] 47
def oNm (G : List (Nat × ByteArray)) : Ob where
  F := G.map (·.1)
  P := fun w => ∀ p ∈ G, w.heap[p.1]? = some (nmObj p.2)
  ok := fun h hx hS p hp => hx.keep (h p hp) (hS p.1 (List.mem_map_of_mem hp))
  lt := fun h k hk => by
    obtain ⟨p, hp, rfl⟩ := List.mem_map.1 hk
    exact lt_of_block (h p hp)
theorem nm_nodes {w : World} {g : Nat} {s : ByteArray} (h : w.heap[g]? = some (nmObj s)) (hs : s.size ≤ 9223372036854775807) : NodesAt w (.slice (some ⟨g, 0, none⟩) 1 1) [nameNd s] :=
  ⟨_, 1, rfl, Nat.le_refl _, fun i hi => by
    obtain rfl : i = 0 := by simpa using hi
    exact ⟨g, 0, rfl, cellOf h 0, cellOf h 1, cellOf h 2, cellOf h 3, ⟨⟨by show (-9223372036854775808 : Int) ≤ 0; omega, by show (0 : Int) ≤ 9223372036854775807; omega⟩, hs, by show (0 : Nat) ≤ _; omega, fun k hk => by cases hk⟩, none, 0, cellOf h 4, fun i hi => by cases hi⟩⟩
/-- the cells of the row of trees: each name's node, each value -/
def slC (t : Option Addr × Nat × Nat) : Value := .slice t.1 t.2.1 t.2.2
def allC : List (Nat × ByteArray) → List Et → List Value
  | g :: G, e :: E => .slice (some ⟨g.1, 0, none⟩) 1 1 :: slC e.2 :: allC G E
  | _, _ => []
theorem infoNodes : (Tryz.prog.info? 30).map (fun i => (i.zero, i.size, i.bytes)) = some (some (.slice none 0 0), 1, 24) := by kernel_rfl
theorem allC_len : ∀ (G : List (Nat × ByteArray)) (E : List Et), G.length = E.length → (allC G E).length = 2 * E.length
  | [], [], _ => rfl
  | g :: G, e :: E, h => by rw [allC, List.length_cons, List.length_cons, allC_len G E (by simpa using h), List.length_cons]; omega
theorem allC_push (g : Nat × ByteArray) (e : Et) : ∀ (G : List (Nat × ByteArray)) (E : List Et), G.length = E.length → allC (G ++ [g]) (E ++ [e]) = allC G E ++ [.slice (some ⟨g.1, 0, none⟩) 1 1, slC e.2]
  | [], [], _ => rfl
  | a :: G, b :: E, h => by rw [List.cons_append, List.cons_append, allC, allC_push g e G E (by simpa using h), allC]; rfl
theorem allN_cons (p : Ent) (r : List Ent) : allN (p :: r) = [nameNd p.1] :: p.2 :: allN r := rfl
theorem allN_len : ∀ S : List Ent, (allN S).length = 2 * S.length
  | [] => rfl
  | p :: r => by rw [allN_cons, List.length_cons, List.length_cons, allN_len r, List.length_cons]; omega
theorem trees_rel {W : World} : ∀ (G : List (Nat × ByteArray)) (SP : List (Et × List Nd)), G.map (·.2) = SP.map (·.1.1) → (∀ p ∈ G, W.heap[p.1]? = some (nmObj p.2)) → (∀ p ∈ SP, NodesAt W (slC p.1.2) p.2 ∧ p.1.1.size ≤ 9223372036854775807) →
    ∀ (i : Nat) (t : List Nd), (allN (SP.map fun p => (p.1.1, p.2)))[i]? = some t → ∃ vk, (allC G (SP.map (·.1)))[i]? = some vk ∧ NodesAt W vk t
  | [], [], _, _, _, i, t, h => by simp [allN] at h
  | [], p :: SP, h, _, _, _, _, _ => by simp at h
  | g :: G, [], h, _, _, _, _, _ => by simp at h
  | g :: G, p :: SP, hm, hg, hp, i, t, h => by
    rw [List.map_cons, List.map_cons] at hm
    injection hm with hm1 hm2
    rw [List.map_cons, allN_cons] at h
    rw [List.map_cons, allC]
    match i, h with
    | 0, h =>
      simp only [List.getElem?_cons_zero, Option.some.injEq] at h ⊢
      subst h
      refine ⟨_, rfl, ?_⟩
      have h1 := hg g (by simp)
      rw [hm1] at h1
      exact nm_nodes h1 (hp p (by simp)).2
    | 1, h =>
      simp only [List.getElem?_cons_succ, List.getElem?_cons_zero, Option.some.injEq] at h ⊢
      subst h
      exact ⟨_, rfl, (hp p (by simp)).1⟩
    | i + 2, h =>
      simp only [List.getElem?_cons_succ] at h ⊢
      exact trees_rel G SP hm2 (fun q hq => hg q (by simp [hq])) (fun q hq => hp q (by simp [hq])) i t h
theorem trees_of {W : World} {ov : Value} {G : List (Nat × ByteArray)} {SP : List (Et × List Nd)} (hr : W.ownsRow 0 30 1 ov (2 * SP.length) (allC G (SP.map (·.1)))) (hm : G.map (·.2) = SP.map (·.1.1)) (hg : ∀ p ∈ G, W.heap[p.1]? = some (nmObj p.2))
    (hp : ∀ p ∈ SP, NodesAt W (slC p.1.2) p.2 ∧ p.1.1.size ≤ 9223372036854775807) : TreesAt W ov (allN (SP.map fun p => (p.1.1, p.2))) := by
  obtain ⟨ao, cap, rfl⟩ := row_slice hr
  have hl : (allN (SP.map fun p => (p.1.1, p.2))).length = 2 * SP.length := by rw [allN_len, List.length_map]
  refine ⟨ao, cap, by rw [hl], by rw [hl]; exact row_le hr, fun i hi => ?_⟩
  have hi2 := hi
  rw [hl] at hi2
  obtain ⟨g, c2, he⟩ := row_form hr (by omega)
  cases he
  obtain ⟨vk, h1, h2⟩ := trees_rel G SP hm hg hp i _ (List.getElem?_eq_getElem hi)
  exact ⟨g, 0, vk, rfl, by rw [Nat.zero_add]; exact row_cell hr h1, h2⟩
theorem cells_two (w : World) (x y : Value) (t : TypeId) (f : Nat × Nat := (0, 0)) : ∀ j u, [x, y][j]? = some u → (w.alloc (.cells #[x, y] t f)).cell? ((⟨w.heap.size, 0, none⟩ : Addr).add j) = some u := by
  intro j u h
  have e : (⟨w.heap.size, 0, none⟩ : Addr).add j = ⟨w.heap.size, j, none⟩ := by unfold Addr.add; split <;> simp_all
  rw [e, cellOf (heap_alloc_at _), ← h]
  simp
end Go.Proofs.YtgpgamohcafklaaGreatDoor.Tr

/-! TrQ: tree: dict walked. -/
namespace Go.Proofs.YtgpgamohcafklaaGreatDoor.Tr
open Go.RowKit

theorem cells_two2 (w : World) (O : Obj) (x y : Value) (t : TypeId) (f : Nat × Nat := (0, 0)) : ∀ j u, [x, y][j]? = some u → ((w.alloc O).alloc (.cells #[x, y] t f)).cell? ((⟨w.heap.size + 1, 0, none⟩ : Addr).add j) = some u := by
  have h := cells_two (w.alloc O) x y t f
  rw [show (w.alloc O).heap.size = w.heap.size + 1 by simp] at h
  exact h
end Go.Proofs.YtgpgamohcafklaaGreatDoor.Tr

/-! TrR: tree: Dict walked. -/
namespace Go.Proofs.YtgpgamohcafklaaGreatDoor.Tr
open Go.RowKit

def StrsAt (w : World) (v : Value) (l : List ByteArray) : Prop := ∃ base cap, v = .slice base l.length cap ∧ l.length ≤ cap ∧ ∀ i (h : i < l.length), ∃ b o, base = some ⟨b, o, none⟩ ∧ w.cell? ⟨b, o + i, none⟩ = some (.string (l[i]'h))
theorem StrsAt.ext {w w' : World} {v : Value} {l : List ByteArray} (h : StrsAt w v l) (hx : Ext [] w w') : StrsAt w' v l := by
  obtain ⟨base, cap, h1, h0, h2⟩ := h
  refine ⟨base, cap, h1, h0, fun i hi => ?_⟩
  obtain ⟨b, o, h3, h4⟩ := h2 i hi
  exact ⟨b, o, h3, hx.cell h4⟩
def badF : List ByteArray → Nat → Int
  | [], _ => -1
  | s :: r, k => if nameN s = 0 then badF r (k + 1) else k
theorem badF_any : ∀ (l : List ByteArray) (k : Nat), (badF l k ≥ 0) ↔ l.any (fun s => decide (nameN s ≠ 0)) = true
  | [], k => by simp [badF]
  | s :: r, k => by
    rw [badF, List.any_cons]
    by_cases h : nameN s = 0
    · rw [if_pos h, badF_any r]; simp [h]
    · rw [if_neg h]; simp [h]
def dictionN (names : List ByteArray) (ls : List (List Nd)) : List Nd × Int :=
  if names.length ≠ ls.length ∨ names.any (fun s => decide (nameN s ≠ 0)) = true then ([], 2) else if firstN ls ≠ 0 then ([], firstN ls) else dictN (names.zip ls)
end Go.Proofs.YtgpgamohcafklaaGreatDoor.Tr

/-! TrS: tree: Dict walked, to its end. -/
namespace Go.Proofs.YtgpgamohcafklaaGreatDoor.Tr
open Go.RowKit

end Go.Proofs.YtgpgamohcafklaaGreatDoor.Tr

/-! TrU: tree: is, End, Sub, Depth walked. -/
namespace Go.Proofs.YtgpgamohcafklaaGreatDoor.Tr
open Go.RowKit

def endsN (l : List Nd) : List Int := match shapeN l with | some (E, _) => E | none => []
def depsN (l : List Nd) : List Int := match shapeN l with | some (_, D) => D | none => []
def isN (l : List Nd) (kind : Int) : Bool := decide (checkN l = 0 ∧ (ndAt l 0).kind = kind)
def endN (l : List Nd) (i : Int) : Int := if checkN l = 0 ∧ 0 ≤ i ∧ i < l.length then (endsN l).getD i.toNat 0 else 0
def subXN (l : List Nd) (i : Int) : List Nd := if checkN l = 0 ∧ 0 ≤ i ∧ i < l.length then subN l i.toNat else []
def depthN (l : List Nd) : Int := if checkN l = 0 then Lib.maxOf (depsN l) else 0
/-- a tree that is light enough to be looked at -/
structure Lt (l : List Nd) : Prop where
  len : l.length ≤ 9223372036854775807
  s : ∀ x ∈ l, x.s.size ≤ 1000000
end Go.Proofs.YtgpgamohcafklaaGreatDoor.Tr
