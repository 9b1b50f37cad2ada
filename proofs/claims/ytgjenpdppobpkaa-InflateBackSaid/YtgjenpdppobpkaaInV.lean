/-
  inflate, plain: a shorter text, less budget.
-/
import Derived.Test.YtgjenpdppobpkaaInU
namespace Go.Proofs.Ytgjenpdppobpkaa.If
open Bt Hu

/-- the first answer is the second one; or it stopped for want of budget (c3) or of bytes (c8), with a first part of the bytes -/
def Lt9 {α : Type} (c3 c8 : Prop) (r' r : Rs α) : Prop := r' = r ∨ ∃ x o, (x = 3 ∧ c3 ∨ x = 8 ∧ c8) ∧ r' = .er x o ∧ o <+: outOf r
def LtG {α : Type} (B : Nat) (c3 c8 : Prop) (o : List Nat) (r' r : Rs α) : Prop := o.length ≤ B → Lt9 c3 c8 r' r
theorem LtG.same {α : Type} {B : Nat} {c3 c8 : Prop} {o : List Nat} (r : Rs α) : LtG B c3 c8 o r r := fun _ => .inl rfl
theorem LtG.bind {α β : Type} {B : Nat} {c3 c8 : Prop} {o : List Nat} {r' r : Rs α} {f' f : α → Nat → List Nat → Rs β} (h : LtG B c3 c8 o r' r) (g : Grows B o r) (hf : ∀ a p o', r' = .ok a p o' → r = .ok a p o' → LtG B c3 c8 o' (f' a p o') (f a p o'))
    (hg : ∀ a p o', Grows B o' (f a p o')) : LtG B c3 c8 o (r'.bind f') (r.bind f) := fun ho => by
  obtain ⟨_, g2, _⟩ := g ho
  rcases h ho with rfl | ⟨x, o1, hx, rfl, hp⟩
  · cases r' with
    | er e o' => exact .inl rfl
    | ok a p o' => exact hf a p o' rfl rfl g2
  · refine .inr ⟨x, o1, hx, rfl, ?_⟩
    cases r with
    | er e o' => exact hp
    | ok a p o' => exact hp.trans (hg a p o' g2).1
section
variable {s' s : ByteArray} {B' B : Nat}
structure Cut (s' s : ByteArray) (B' B : Nat) : Prop where
  size : s'.size ≤ s.size
  bits : ∀ p, p < 8 * s'.size → bit s' false p = bit s false p
  budget : B' ≤ B
theorem getv_cut (C : Cut s' s B' B) (p : Nat) : ∀ n, p + n ≤ 8 * s'.size → getv s' false p n = getv s false p n
  | 0, _ => rfl
  | n + 1, h => by
    rw [getv, getv, getv_cut C p n (by omega), C.bits _ (by omega)]
theorem getR_c (C : Cut s' s B' B) (n p : Nat) (o : List Nat) : LtG B (B' < B) (s'.size < s.size) o (getR s' n p o) (getR s n p o) := fun _ => by
  have := C.size
  unfold getR
  by_cases h : p + n ≤ 8 * s'.size
  · rw [if_pos h, if_pos (by omega), getv_cut C p n h]
    exact .inl rfl
  · rw [if_neg h]
    split
    · exact .inr ⟨8, o, .inr ⟨rfl, by omega⟩, rfl, List.prefix_refl _⟩
    · exact .inl rfl
theorem rdD_cut (C : Cut s' s B' B) (l : List Int) : ∀ g k code p, rdD l (bit s' false) (8 * s'.size) g k code p = rdD l (bit s false) (8 * s.size) g k code p ∨ (s'.size < s.size ∧ (rdD l (bit s' false) (8 * s'.size) g k code p).2.1 = 8)
  | 0, k, code, p => .inl rfl
  | g + 1, k, code, p => by
    have := C.size
    rw [rdD, rdD]
    by_cases h : p < 8 * s'.size
    · rw [if_pos h, if_pos (by omega), C.bits p h]
      cases fndD l k (2 * code + bit s false p) with
      | some x => exact .inl rfl
      | none => exact rdD_cut C l g (k + 1) _ (p + 1)
    · rw [if_neg h]
      split
      · exact .inr ⟨by omega, rfl⟩
      · exact .inl rfl
theorem symR_c (C : Cut s' s B' B) (D : List Int) (p : Nat) (o : List Nat) : LtG B (B' < B) (s'.size < s.size) o (symR s' D p o) (symR s D p o) := fun _ => by
  unfold symR
  rw [read_doc, read_doc]
  rcases rdD_cut C D 15 1 0 p with h | ⟨h1, h2⟩
  · rw [h]
    exact .inl rfl
  · refine .inr ⟨8, o, .inr ⟨rfl, h1⟩, ?_, ?_⟩
    · rw [if_neg (by rw [h2]; decide), h2]
    · split <;> exact List.prefix_refl _
theorem putR_c (C : Cut s' s B' B) (b p : Nat) (o : List Nat) : LtG B (B' < B) (s'.size < s.size) o (putR B' b p o) (putR B b p o) := fun _ => by
  have := C.budget
  unfold putR
  by_cases h : B ≤ o.length
  · rw [if_pos h, if_pos (by omega)]
    exact .inl rfl
  · rw [if_neg h]
    split
    · exact .inr ⟨3, o, .inl ⟨rfl, by omega⟩, rfl, List.prefix_append _ _⟩
    · exact .inl rfl
theorem storeL_c (C : Cut s' s B' B) : ∀ (n p : Nat) (o : List Nat), LtG B (B' < B) (s'.size < s.size) o (storeL s' B' n p o) (storeL s B n p o)
  | 0, p, o => LtG.same _
  | n + 1, p, o => by
    rw [storeL, storeL]
    exact (getR_c C 8 p o).bind (getR_g 8 p o) (fun b p o _ _ => (putR_c C b p o).bind (putR_g b p o) (fun _ p o _ _ => storeL_c C n p o) fun _ p o => storeL_g n p o) fun b p o => (putR_g b p o).bind fun _ p o _ => storeL_g n p o
theorem copyL_c (C : Cut s' s B' B) (back : Nat) : ∀ (n p : Nat) (o : List Nat), LtG B (B' < B) (s'.size < s.size) o (copyL B' back n p o) (copyL B back n p o)
  | 0, p, o => LtG.same _
  | n + 1, p, o => by
    rw [copyL, copyL]
    exact (putR_c C _ p o).bind (putR_g _ p o) (fun _ p o _ _ => copyL_c C back n p o) fun _ p o => copyL_g back n p o
theorem storedR_c (C : Cut s' s B' B) (p : Nat) (o : List Nat) : LtG B (B' < B) (s'.size < s.size) o (storedR s' B' p o) (storedR s B p o) := by
  have k : ∀ (n m p : Nat) (o : List Nat), Grows B o (if m = 65535 - n then storeL s B n p o else .er 4 o) := fun n m p o => by
    split
    · exact storeL_g _ _ _
    · exact Grows.fail _ _ (by decide)
  unfold storedR
  refine (getR_c C _ _ o).bind (getR_g _ _ o) (fun n p o _ _ => (getR_c C _ _ o).bind (getR_g _ _ o) (fun m p o _ _ => ?_) fun m p o => k n m p o) fun n p o => (getR_g _ _ o).bind fun m p o _ => k n m p o
  split
  · exact storeL_c C _ _ _
  · exact LtG.same _
theorem againR_c (C : Cut s' s B' B) (x : Nat) (D : List Int) (p : Nat) (o : List Nat) : LtG B (B' < B) (s'.size < s.size) o (againR s' B' x D p o) (againR s B x D p o) := by
  have k1 : ∀ (u d v p : Nat) (o : List Nat), Grows B o (if dstB d + v ≤ o.length then copyL B (dstB d + v) (lenB x + u) p o else .er 4 o) := fun u d v p o => by
    split
    · exact copyL_g _ _ _ _
    · exact Grows.fail _ _ (by decide)
  have k2 : ∀ (u d p : Nat) (o : List Nat), Grows B o (if d ≤ 29 then (getR s (dstX d) p o).bind fun v p out => if dstB d + v ≤ out.length then copyL B (dstB d + v) (lenB x + u) p out else .er 4 out else .er 4 o) := fun u d p o => by
    split
    · exact (getR_g _ _ o).bind fun v p o _ => k1 u d v p o
    · exact Grows.fail _ _ (by decide)
  unfold againR
  refine (getR_c C _ _ o).bind (getR_g _ _ o) (fun u p o _ _ => (symR_c C _ _ o).bind (symR_g _ _ o) (fun d p o _ _ => ?_) fun d p o => k2 u d p o) fun u p o => (symR_g _ _ o).bind fun d p o _ => k2 u d p o
  split
  · refine (getR_c C _ _ o).bind (getR_g _ _ o) (fun v p o _ _ => ?_) fun v p o => k1 u d v p o
    split
    · exact copyL_c C _ _ _ _
    · exact LtG.same _
  · exact LtG.same _
theorem codedF_c (C : Cut s' s B' B) (D1 D2 : List Int) : ∀ (g' g p : Nat) (o : List Nat), p ≤ 8 * s'.size → 8 * s'.size - p < g' → g' ≤ g → LtG B (B' < B) (s'.size < s.size) o (codedF s' B' D1 D2 g' p o) (codedF s B D1 D2 g p o)
  | 0, _, _, _, _, h, _ => absurd h (Nat.not_lt_zero _)
  | g' + 1, 0, _, _, _, _, h => absurd h (by omega)
  | g' + 1, g + 1, p, o, hp, hg, hgg => by
    have k : ∀ (x p : Nat) (o : List Nat), Grows B o (if x < 256 then (putR B x p o).bind fun _ p out => codedF s B D1 D2 g p out
        else if x = 256 then .ok () p o else if x ≤ 285 then (againR s B x D2 p o).bind fun _ p out => codedF s B D1 D2 g p out else .er 4 o) := fun x p o => by
      split
      · exact (putR_g _ _ o).bind fun _ p o _ => codedF_g D1 D2 g p o
      · split
        · exact Grows.pure _ _ _
        · split
          · exact (againR_g _ _ _ o).bind fun _ p o _ => codedF_g D1 D2 g p o
          · exact Grows.fail _ _ (by decide)
    rw [codedF, codedF]
    refine (symR_c C _ _ o).bind (symR_g _ _ o) (fun x p1 o1 h1 _ => ?_) k
    obtain ⟨hp1, hp2, _, _⟩ := symR_ok h1
    split
    · refine (putR_c C _ _ o1).bind (putR_g _ _ o1) (fun _ p2 o2 h2 _ => ?_) fun _ p o => codedF_g D1 D2 g p o
      obtain ⟨rfl, _, _⟩ := putR_ok h2
      exact codedF_c C D1 D2 g' g p2 o2 hp2 (by omega) (by omega)
    · split
      · exact LtG.same _
      · split
        · refine (againR_c C _ _ _ o1).bind (againR_g _ _ _ o1) (fun _ p2 o2 h2 _ => ?_) fun _ p o => codedF_g D1 D2 g p o
          have := againR_ok h2
          exact codedF_c C D1 D2 g' g p2 o2 this.2 (by omega) (by omega)
        · exact LtG.same _
theorem ownL_c (C : Cut s' s B' B) : ∀ (k i : Nat) (own : List Int) (p : Nat) (o : List Nat), LtG B (B' < B) (s'.size < s.size) o (ownL s' k i own p o) (ownL s k i own p o)
  | 0, i, own, p, o => LtG.same _
  | k + 1, i, own, p, o => by
    rw [ownL, ownL]
    exact (getR_c C _ _ o).bind (getR_g _ _ o) (fun v p o _ _ => ownL_c C k _ _ p o) fun v p o => ownL_g k _ _ p o
end
end Go.Proofs.Ytgjenpdppobpkaa.If
