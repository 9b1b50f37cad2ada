/-
  InU, InV, InW, InX, InZ, in one text.
-/
import Derived.Test.YtnapnaaejignaaaGreatPkP
/-! InU: inflate, plain: of a shorter text, or of less budget, the bytes are a first part. -/
namespace Go.Proofs.YtnapnaaejignaaaGreat.If
open Bt Hu

def outOf {α : Type} : Rs α → List Nat
  | .ok _ _ o => o
  | .er _ o => o
/-- all that is put comes behind what was there; the budget is kept; budget errors come when it is full -/
def Grows {α : Type} (B : Nat) (o : List Nat) (r : Rs α) : Prop := o.length ≤ B → o <+: outOf r ∧ (outOf r).length ≤ B ∧ ∀ o', r = .er 3 o' → o'.length = B
theorem Grows.bind {α β : Type} {B : Nat} {o : List Nat} {r : Rs α} {f : α → Nat → List Nat → Rs β} (h : Grows B o r) (hf : ∀ a p o', r = .ok a p o' → Grows B o' (f a p o')) : Grows B o (r.bind f) := fun ho => by
  obtain ⟨h1, h2, h3⟩ := h ho
  cases r with
  | er e o' => exact ⟨h1, h2, fun o2 he => by
      rw [Rs.bind_er] at he
      injection he with e1 e2
      subst e1 e2
      exact h3 _ rfl⟩
  | ok a p o' =>
    rw [Rs.bind_ok]
    obtain ⟨k1, k2, k3⟩ := hf a p o' rfl h2
    exact ⟨h1.trans k1, k2, k3⟩
theorem Grows.pure {α : Type} {B : Nat} (a : α) (p : Nat) (o : List Nat) : Grows B o (.ok a p o) := fun ho => ⟨List.prefix_refl _, ho, fun _ h => by cases h⟩
theorem Grows.fail {α : Type} {B : Nat} (e : Int) (o : List Nat) (he : e ≠ 3) : Grows B o (.er e o : Rs α) := fun ho => ⟨List.prefix_refl _, ho, fun _ h => by injection h with h1 _; exact absurd h1 he⟩
section
variable {s : ByteArray} {B : Nat}
theorem getR_g (n p : Nat) (o : List Nat) : Grows B o (getR s n p o) := by
  unfold getR
  split
  · exact Grows.pure _ _ _
  · exact Grows.fail _ _ (by decide)
theorem symR_g (D : List Int) (p : Nat) (o : List Nat) : Grows B o (symR s D p o) := by
  cases h : symR s D p o with
  | ok a q o' => obtain ⟨_, _, _, rfl⟩ := symR_ok h; exact Grows.pure _ _ _
  | er e o' => obtain ⟨he, rfl⟩ := symR_er h; exact Grows.fail _ _ (by omega)
theorem putR_g (b p : Nat) (o : List Nat) : Grows B o (putR B b p o) := fun ho => by
  unfold putR
  split
  · exact ⟨List.prefix_refl _, ho, fun o' h => by injection h with _ h2; rw [← h2]; omega⟩
  · refine ⟨List.prefix_append _ _, ?_, fun o' h => by cases h⟩
    show (o ++ [b]).length ≤ B
    rw [List.length_append, List.length_singleton]
    omega
theorem storeL_g : ∀ (n p : Nat) (o : List Nat), Grows B o (storeL s B n p o)
  | 0, p, o => Grows.pure _ _ _
  | n + 1, p, o => by
    rw [storeL]
    exact (getR_g 8 p o).bind fun b p o _ => (putR_g b p o).bind fun _ p o _ => storeL_g n p o
theorem copyL_g (back : Nat) : ∀ (n p : Nat) (o : List Nat), Grows B o (copyL B back n p o)
  | 0, p, o => Grows.pure _ _ _
  | n + 1, p, o => by
    rw [copyL]
    exact (putR_g _ p o).bind fun _ p o _ => copyL_g back n p o
theorem storedR_g (p : Nat) (o : List Nat) : Grows B o (storedR s B p o) := by
  unfold storedR
  refine (getR_g _ _ o).bind fun n p o _ => (getR_g _ _ o).bind fun m p o _ => ?_
  split
  · exact storeL_g _ _ _
  · exact Grows.fail _ _ (by decide)
theorem againR_g (x : Nat) (D : List Int) (p : Nat) (o : List Nat) : Grows B o (againR s B x D p o) := by
  unfold againR
  refine (getR_g _ _ o).bind fun u p o _ => (symR_g _ _ o).bind fun d p o _ => ?_
  split
  · refine (getR_g _ _ o).bind fun v p o _ => ?_
    split
    · exact copyL_g _ _ _ _
    · exact Grows.fail _ _ (by decide)
  · exact Grows.fail _ _ (by decide)
theorem codedF_g (D1 D2 : List Int) : ∀ (g p : Nat) (o : List Nat), Grows B o (codedF s B D1 D2 g p o)
  | 0, p, o => Grows.fail _ _ (by decide)
  | g + 1, p, o => by
    rw [codedF]
    refine (symR_g _ _ o).bind fun x p o _ => ?_
    split
    · exact (putR_g _ _ o).bind fun _ p o _ => codedF_g D1 D2 g p o
    · split
      · exact Grows.pure _ _ _
      · split
        · exact (againR_g _ _ _ o).bind fun _ p o _ => codedF_g D1 D2 g p o
        · exact Grows.fail _ _ (by decide)
theorem rowF_g (D : List Int) (n : Nat) : ∀ (g : Nat) (l : List Int) (p : Nat) (o : List Nat), Grows B o (rowF s D n g l p o)
  | 0, l, p, o => Grows.fail _ _ (by decide)
  | g + 1, l, p, o => by
    rw [rowF]
    split
    · refine (symR_g _ _ o).bind fun x p o _ => ?_
      split
      · split
        · exact Grows.fail _ _ (by decide)
        · exact (getR_g _ _ o).bind fun k p o _ => rowF_g D n g _ p o
      · split
        · exact (getR_g _ _ o).bind fun k p o _ => rowF_g D n g _ p o
        · split
          · exact (getR_g _ _ o).bind fun k p o _ => rowF_g D n g _ p o
          · exact rowF_g D n g _ p o
    · split
      · exact Grows.pure _ _ _
      · exact Grows.fail _ _ (by decide)
theorem ownL_g : ∀ (k i : Nat) (own : List Int) (p : Nat) (o : List Nat), Grows B o (ownL s k i own p o)
  | 0, i, own, p, o => Grows.pure _ _ _
  | k + 1, i, own, p, o => by
    rw [ownL]
    exact (getR_g _ _ o).bind fun v p o _ => ownL_g k _ _ p o
theorem dynR_g (p : Nat) (o : List Nat) : Grows B o (dynR s B p o) := by
  unfold dynR
  refine (getR_g _ _ o).bind fun a p o _ => (getR_g _ _ o).bind fun b p o _ => (getR_g _ _ o).bind fun c p o _ => ?_
  split
  · refine (ownL_g _ _ _ _ o).bind fun own p o _ => ?_
    unfold dynK
    split
    · refine (rowF_g _ _ _ _ _ o).bind fun l p o _ => ?_
      unfold dynT
      split
      · exact codedF_g _ _ _ _ _
      · exact Grows.fail _ _ (by decide)
    · exact Grows.fail _ _ (by decide)
  · exact Grows.fail _ _ (by decide)
theorem blockR_g (k p : Nat) (o : List Nat) : Grows B o (blockR s B k p o) := by
  unfold blockR
  split
  · exact storedR_g _ _
  · split
    · exact codedF_g _ _ _ _ _
    · split
      · rw [dyn_eq]; exact dynR_g _ _
      · exact Grows.fail _ _ (by decide)
theorem allF_g : ∀ (g p : Nat) (o : List Nat), Grows B o (allF s B g p o)
  | 0, p, o => Grows.fail _ _ (by decide)
  | g + 1, p, o => by
    rw [allF]
    refine (getR_g _ _ o).bind fun n p o _ => (getR_g _ _ o).bind fun k p o _ => (blockR_g _ _ o).bind fun _ p o _ => ?_
    split
    · exact allF_g g p o
    · exact Grows.pure _ _ _
theorem runR_g : (outOf (runR s B)).length ≤ B ∧ ∀ o', runR s B = .er 3 o' → o'.length = B :=
  let h := allF_g (s := s) (B := B) (8 * s.size + 1) 0 [] (Nat.zero_le _)
  ⟨h.2.1, h.2.2⟩
end
end Go.Proofs.YtnapnaaejignaaaGreat.If

/-! InV: inflate, plain: a shorter text, less budget. -/
namespace Go.Proofs.YtnapnaaejignaaaGreat.If
open Bt Hu

/-- the first answer is the second one; or it stopped for want of budget (c3) or of bytes (c8), with a first part of the bytes -/
def Lt9 {α : Type} (c3 c8 : Prop) (r' r : Rs α) : Prop := r' = r ∨ ∃ x o, (x = 3 ∧ c3 ∨ x = 8 ∧ c8) ∧ r' = .er x o ∧ o <+: outOf r
def LtG {α : Type} (B : Nat) (c3 c8 : Prop) (o : List Nat) (r' r : Rs α) : Prop := o.length ≤ B → Lt9 c3 c8 r' r
theorem LtG.same {α : Type} {B : Nat} {c3 c8 : Prop} {o : List Nat} (r : Rs α) : LtG B c3 c8 o r r := fun _ => .inl rfl
theorem LtG.bind {α β : Type} {B : Nat} {c3 c8 : Prop} {o : List Nat} {r' r : Rs α} {f' f : α → Nat → List Nat → Rs β} (h : LtG B c3 c8 o r' r) (g : Grows B o r) (hf : ∀ a p o', r' = .ok a p o' → r = .ok a p o' → LtG B c3 c8 o' (f' a p o') (f a p o'))
    (hg : ∀ a p o', Grows B o' (f a p o')) : LtG B c3 c8 o (r'.bind f') (r.bind f) := fun ho => by
  obtain ⟨_, g2, _⟩ := g ho
  rcases h ho with rfl | ⟨x, o1, hx, rfl, hp⟩
  · cases r' with
    | er e o' => exact .inl rfl
    | ok a p o' => exact hf a p o' rfl rfl g2
  · refine .inr ⟨x, o1, hx, rfl, ?_⟩
    cases r with
    | er e o' => exact hp
    | ok a p o' => exact hp.trans (hg a p o' g2).1
section
variable {s' s : ByteArray} {B' B : Nat}
structure Cut (s' s : ByteArray) (B' B : Nat) : Prop where
  size : s'.size ≤ s.size
  bits : ∀ p, p < 8 * s'.size → bit s' false p = bit s false p
  budget : B' ≤ B
theorem getv_cut (C : Cut s' s B' B) (p : Nat) : ∀ n, p + n ≤ 8 * s'.size → getv s' false p n = getv s false p n
  | 0, _ => rfl
  | n + 1, h => by
    rw [getv, getv, getv_cut C p n (by omega), C.bits _ (by omega)]
theorem getR_c (C : Cut s' s B' B) (n p : Nat) (o : List Nat) : LtG B (B' < B) (s'.size < s.size) o (getR s' n p o) (getR s n p o) := fun _ => by
  have := C.size
  unfold getR
  by_cases h : p + n ≤ 8 * s'.size
  · rw [if_pos h, if_pos (by omega), getv_cut C p n h]
    exact .inl rfl
  · rw [if_neg h]
    split
    · exact .inr ⟨8, o, .inr ⟨rfl, by omega⟩, rfl, List.prefix_refl _⟩
    · exact .inl rfl
theorem rdD_cut (C : Cut s' s B' B) (l : List Int) : ∀ g k code p, rdD l (bit s' false) (8 * s'.size) g k code p = rdD l (bit s false) (8 * s.size) g k code p ∨ (s'.size < s.size ∧ (rdD l (bit s' false) (8 * s'.size) g k code p).2.1 = 8)
  | 0, k, code, p => .inl rfl
  | g + 1, k, code, p => by
    have := C.size
    rw [rdD, rdD]
    by_cases h : p < 8 * s'.size
    · rw [if_pos h, if_pos (by omega), C.bits p h]
      cases fndD l k (2 * code + bit s false p) with
      | some x => exact .inl rfl
      | none => exact rdD_cut C l g (k + 1) _ (p + 1)
    · rw [if_neg h]
      split
      · exact .inr ⟨by omega, rfl⟩
      · exact .inl rfl
theorem symR_c (C : Cut s' s B' B) (D : List Int) (p : Nat) (o : List Nat) : LtG B (B' < B) (s'.size < s.size) o (symR s' D p o) (symR s D p o) := fun _ => by
  unfold symR
  rw [read_doc, read_doc]
  rcases rdD_cut C D 15 1 0 p with h | ⟨h1, h2⟩
  · rw [h]
    exact .inl rfl
  · refine .inr ⟨8, o, .inr ⟨rfl, h1⟩, ?_, ?_⟩
    · rw [if_neg (by rw [h2]; decide), h2]
    · split <;> exact List.prefix_refl _
theorem putR_c (C : Cut s' s B' B) (b p : Nat) (o : List Nat) : LtG B (B' < B) (s'.size < s.size) o (putR B' b p o) (putR B b p o) := fun _ => by
  have := C.budget
  unfold putR
  by_cases h : B ≤ o.length
  · rw [if_pos h, if_pos (by omega)]
    exact .inl rfl
  · rw [if_neg h]
    split
    · exact .inr ⟨3, o, .inl ⟨rfl, by omega⟩, rfl, List.prefix_append _ _⟩
    · exact .inl rfl
theorem storeL_c (C : Cut s' s B' B) : ∀ (n p : Nat) (o : List Nat), LtG B (B' < B) (s'.size < s.size) o (storeL s' B' n p o) (storeL s B n p o)
  | 0, p, o => LtG.same _
  | n + 1, p, o => by
    rw [storeL, storeL]
    exact (getR_c C 8 p o).bind (getR_g 8 p o) (fun b p o _ _ => (putR_c C b p o).bind (putR_g b p o) (fun _ p o _ _ => storeL_c C n p o) fun _ p o => storeL_g n p o) fun b p o => (putR_g b p o).bind fun _ p o _ => storeL_g n p o
theorem copyL_c (C : Cut s' s B' B) (back : Nat) : ∀ (n p : Nat) (o : List Nat), LtG B (B' < B) (s'.size < s.size) o (copyL B' back n p o) (copyL B back n p o)
  | 0, p, o => LtG.same _
  | n + 1, p, o => by
    rw [copyL, copyL]
    exact (putR_c C _ p o).bind (putR_g _ p o) (fun _ p o _ _ => copyL_c C back n p o) fun _ p o => copyL_g back n p o
theorem storedR_c (C : Cut s' s B' B) (p : Nat) (o : List Nat) : LtG B (B' < B) (s'.size < s.size) o (storedR s' B' p o) (storedR s B p o) := by
  have k : ∀ (n m p : Nat) (o : List Nat), Grows B o (if m = 65535 - n then storeL s B n p o else .er 4 o) := fun n m p o => by
    split
    · exact storeL_g _ _ _
    · exact Grows.fail _ _ (by decide)
  unfold storedR
  refine (getR_c C _ _ o).bind (getR_g _ _ o) (fun n p o _ _ => (getR_c C _ _ o).bind (getR_g _ _ o) (fun m p o _ _ => ?_) fun m p o => k n m p o) fun n p o => (getR_g _ _ o).bind fun m p o _ => k n m p o
  split
  · exact storeL_c C _ _ _
  · exact LtG.same _
theorem againR_c (C : Cut s' s B' B) (x : Nat) (D : List Int) (p : Nat) (o : List Nat) : LtG B (B' < B) (s'.size < s.size) o (againR s' B' x D p o) (againR s B x D p o) := by
  have k1 : ∀ (u d v p : Nat) (o : List Nat), Grows B o (if dstB d + v ≤ o.length then copyL B (dstB d + v) (lenB x + u) p o else .er 4 o) := fun u d v p o => by
    split
    · exact copyL_g _ _ _ _
    · exact Grows.fail _ _ (by decide)
  have k2 : ∀ (u d p : Nat) (o : List Nat), Grows B o (if d ≤ 29 then (getR s (dstX d) p o).bind fun v p out => if dstB d + v ≤ out.length then copyL B (dstB d + v) (lenB x + u) p out else .er 4 out else .er 4 o) := fun u d p o => by
    split
    · exact (getR_g _ _ o).bind fun v p o _ => k1 u d v p o
    · exact Grows.fail _ _ (by decide)
  unfold againR
  refine (getR_c C _ _ o).bind (getR_g _ _ o) (fun u p o _ _ => (symR_c C _ _ o).bind (symR_g _ _ o) (fun d p o _ _ => ?_) fun d p o => k2 u d p o) fun u p o => (symR_g _ _ o).bind fun d p o _ => k2 u d p o
  split
  · refine (getR_c C _ _ o).bind (getR_g _ _ o) (fun v p o _ _ => ?_) fun v p o => k1 u d v p o
    split
    · exact copyL_c C _ _ _ _
    · exact LtG.same _
  · exact LtG.same _
theorem codedF_c (C : Cut s' s B' B) (D1 D2 : List Int) : ∀ (g' g p : Nat) (o : List Nat), p ≤ 8 * s'.size → 8 * s'.size - p < g' → g' ≤ g → LtG B (B' < B) (s'.size < s.size) o (codedF s' B' D1 D2 g' p o) (codedF s B D1 D2 g p o)
  | 0, _, _, _, _, h, _ => absurd h (Nat.not_lt_zero _)
  | g' + 1, 0, _, _, _, _, h => absurd h (by omega)
  | g' + 1, g + 1, p, o, hp, hg, hgg => by
    have k : ∀ (x p : Nat) (o : List Nat), Grows B o (if x < 256 then (putR B x p o).bind fun _ p out => codedF s B D1 D2 g p out
        else if x = 256 then .ok () p o else if x ≤ 285 then (againR s B x D2 p o).bind fun _ p out => codedF s B D1 D2 g p out else .er 4 o) := fun x p o => by
      split
      · exact (putR_g _ _ o).bind fun _ p o _ => codedF_g D1 D2 g p o
      · split
        · exact Grows.pure _ _ _
        · split
          · exact (againR_g _ _ _ o).bind fun _ p o _ => codedF_g D1 D2 g p o
          · exact Grows.fail _ _ (by decide)
    rw [codedF, codedF]
    refine (symR_c C _ _ o).bind (symR_g _ _ o) (fun x p1 o1 h1 _ => ?_) k
    obtain ⟨hp1, hp2, _, _⟩ := symR_ok h1
    split
    · refine (putR_c C _ _ o1).bind (putR_g _ _ o1) (fun _ p2 o2 h2 _ => ?_) fun _ p o => codedF_g D1 D2 g p o
      obtain ⟨rfl, _, _⟩ := putR_ok h2
      exact codedF_c C D1 D2 g' g p2 o2 hp2 (by omega) (by omega)
    · split
      · exact LtG.same _
      · split
        · refine (againR_c C _ _ _ o1).bind (againR_g _ _ _ o1) (fun _ p2 o2 h2 _ => ?_) fun _ p o => codedF_g D1 D2 g p o
          have := againR_ok h2
          exact codedF_c C D1 D2 g' g p2 o2 this.2 (by omega) (by omega)
        · exact LtG.same _
theorem ownL_c (C : Cut s' s B' B) : ∀ (k i : Nat) (own : List Int) (p : Nat) (o : List Nat), LtG B (B' < B) (s'.size < s.size) o (ownL s' k i own p o) (ownL s k i own p o)
  | 0, i, own, p, o => LtG.same _
  | k + 1, i, own, p, o => by
    rw [ownL, ownL]
    exact (getR_c C _ _ o).bind (getR_g _ _ o) (fun v p o _ _ => ownL_c C k _ _ p o) fun v p o => ownL_g k _ _ p o
end
end Go.Proofs.YtnapnaaejignaaaGreat.If

/-! InW: inflate, plain: a shorter text, less budget: rows, blocks, all. -/
namespace Go.Proofs.YtnapnaaejignaaaGreat.If
open Bt Hu

section
variable {s' s : ByteArray} {B' B : Nat}
theorem rowF_c (C : Cut s' s B' B) (D : List Int) (n : Nat) : ∀ (g' g : Nat) (l : List Int) (p : Nat) (o : List Nat), p ≤ 8 * s'.size → 8 * s'.size - p < g' → g' ≤ g → LtG B (B' < B) (s'.size < s.size) o (rowF s' D n g' l p o) (rowF s D n g l p o)
  | 0, _, _, _, _, _, h, _ => absurd h (Nat.not_lt_zero _)
  | g' + 1, 0, _, _, _, _, _, h => absurd h (by omega)
  | g' + 1, g + 1, l, p, o, hp, hg, hgg => by
    have k0 : ∀ (m p : Nat) (o : List Nat) (f : Nat → List Int), Grows B o ((getR s m p o).bind fun k p out => rowF s D n g (f k) p out) := fun m p o f => (getR_g _ _ o).bind fun k p o _ => rowF_g D n g _ p o
    have k : ∀ (x p : Nat) (o : List Nat), Grows B o (if x = 16 then (if l.length = 0 then .er 4 o else (getR s 2 p o).bind fun k p out => rowF s D n g (l ++ List.replicate (k + 3) (l.getD (l.length - 1) 0)) p out)
      else if x = 17 then (getR s 3 p o).bind fun k p out => rowF s D n g (l ++ List.replicate (k + 3) 0) p out
      else if x = 18 then (getR s 7 p o).bind fun k p out => rowF s D n g (l ++ List.replicate (k + 11) 0) p out
      else rowF s D n g (l ++ [(x : Int)]) p o) := fun x p o => by
      split
      · split
        · exact Grows.fail _ _ (by decide)
        · exact k0 2 p o _
      · split
        · exact k0 3 p o _
        · split
          · exact k0 7 p o _
          · exact rowF_g D n g _ p o
    have step : ∀ (m p1 : Nat) (o1 : List Nat) (f : Nat → List Int), p < p1 → LtG B (B' < B) (s'.size < s.size) o1 ((getR s' m p1 o1).bind fun k p out => rowF s' D n g' (f k) p out) ((getR s m p1 o1).bind fun k p out => rowF s D n g (f k) p out) := fun m p1 o1 f h0 => by
      refine (getR_c C _ _ o1).bind (getR_g _ _ o1) (fun k p2 o2 h2 _ => ?_) fun k p o => rowF_g D n g _ p o
      obtain ⟨_, rfl, rfl, hp2⟩ := getR_ok h2
      exact rowF_c C D n g' g _ _ _ hp2 (by omega) (by omega)
    rw [rowF, rowF]
    split
    · refine (symR_c C _ _ o).bind (symR_g _ _ o) (fun x p1 o1 h1 _ => ?_) k
      obtain ⟨hp1, hp2, _, _⟩ := symR_ok h1
      split
      · split
        · exact LtG.same _
        · exact step 2 p1 o1 _ hp1
      · split
        · exact step 3 p1 o1 _ hp1
        · split
          · exact step 7 p1 o1 _ hp1
          · exact rowF_c C D n g' g _ _ _ hp2 (by omega) (by omega)
    · split <;> exact LtG.same _
theorem dynT_g (a : Nat) (l : List Int) (p : Nat) (o : List Nat) : Grows B o (dynT s B a l p o) := by
  unfold dynT
  split
  · exact codedF_g _ _ _ _ _
  · exact Grows.fail _ _ (by decide)
theorem dynK_g (a b : Nat) (own : List Int) (p : Nat) (o : List Nat) : Grows B o (dynK s B a b own p o) := by
  unfold dynK
  split
  · exact (rowF_g _ _ _ _ _ o).bind fun l p o _ => dynT_g _ _ _ _
  · exact Grows.fail _ _ (by decide)
theorem own_ok' : ∀ (k i : Nat) (own : List Int) (p : Nat) (out : List Nat) {a : List Int} {q : Nat} {o : List Nat}, p ≤ 8 * s.size → ownL s k i own p out = .ok a q o → q ≤ 8 * s.size ∧ a.length = own.length
  | 0, i, own, p, out, a, q, o, hp, h => by rw [ownL] at h; injection h with h1 h2 _; rw [← h1, ← h2]; exact ⟨hp, rfl⟩
  | k + 1, i, own, p, out, a, q, o, hp, h => by
    rw [ownL] at h
    cases h1 : getR s 3 p out with
    | er e o1 => rw [h1, Rs.bind_er] at h; cases h
    | ok b p1 o1 =>
      obtain ⟨_, rfl, rfl, hp1⟩ := getR_ok h1
      rw [h1, Rs.bind_ok] at h
      have := own_ok' k _ _ _ _ hp1 h
      rw [List.length_set] at this
      exact this
theorem dynR_c (C : Cut s' s B' B) (p : Nat) (o : List Nat) : LtG B (B' < B) (s'.size < s.size) o (dynR s' B' p o) (dynR s B p o) := by
  have hsz := C.size
  have k4 : ∀ (a b c p : Nat) (o : List Nat), Grows B o (if a + 257 ≤ 286 ∧ b + 1 ≤ 30 then (ownL s (c + 4) 0 (zers 19) p o).bind (dynK s B a b) else .er 4 o) := fun a b c p o => by
    split
    · exact (ownL_g _ _ _ _ o).bind fun own p o _ => dynK_g _ _ _ _ _
    · exact Grows.fail _ _ (by decide)
  have k3 : ∀ (a b p : Nat) (o : List Nat), Grows B o ((getR s 4 p o).bind fun c p out => if a + 257 ≤ 286 ∧ b + 1 ≤ 30 then (ownL s (c + 4) 0 (zers 19) p out).bind (dynK s B a b) else .er 4 out) := fun a b p o => (getR_g _ _ o).bind fun c p o _ => k4 a b c p o
  unfold dynR
  refine (getR_c C _ _ o).bind (getR_g _ _ o) (fun a p o _ _ => (getR_c C _ _ o).bind (getR_g _ _ o) (fun b p o _ _ => (getR_c C _ _ o).bind (getR_g _ _ o) (fun c p o h3 _ => ?_) fun c p o => k4 a b c p o) fun b p o => k3 a b p o) fun a p o => (getR_g _ _ o).bind fun b p o _ => k3 a b p o
  obtain ⟨_, rfl, rfl, hp3⟩ := getR_ok h3
  split
  · refine (ownL_c C _ _ _ _ _).bind (ownL_g _ _ _ _ _) (fun own p1 o1 h4 _ => ?_) fun own p o => dynK_g _ _ _ _ _
    obtain ⟨hp4, hlen⟩ := own_ok' _ _ _ _ _ hp3 h4
    unfold dynK
    split
    · refine (rowF_c C _ _ _ _ _ _ _ hp4 (by omega) (by omega)).bind (rowF_g _ _ _ _ _ _) (fun l p2 o2 h5 _ => ?_) fun l p o => dynT_g _ _ _ _
      have hl19 : own.length ≤ 288 := by rw [hlen]; unfold zers; simp
      obtain ⟨_, _, hp5, _⟩ := rowF_ok _ _ _ _ hp4 hl19 (by simp) h5
      unfold dynT
      split
      · unfold codedR
        exact codedF_c C _ _ _ _ _ _ hp5 (by omega) (by omega)
      · exact LtG.same _
    · exact LtG.same _
  · exact LtG.same _
theorem blockR_c (C : Cut s' s B' B) (k p : Nat) (o : List Nat) (hp : p ≤ 8 * s'.size) : LtG B (B' < B) (s'.size < s.size) o (blockR s' B' k p o) (blockR s B k p o) := by
  have hsz := C.size
  unfold blockR
  split
  · exact storedR_c C _ _
  · split
    · unfold codedR
      exact codedF_c C _ _ _ _ _ _ hp (by omega) (by omega)
    · split
      · rw [dyn_eq, dyn_eq]; exact dynR_c C _ _
      · exact LtG.same _
theorem allF_c (C : Cut s' s B' B) : ∀ (g' g p : Nat) (o : List Nat), p ≤ 8 * s'.size → 8 * s'.size - p < g' → g' ≤ g → LtG B (B' < B) (s'.size < s.size) o (allF s' B' g' p o) (allF s B g p o)
  | 0, _, _, _, _, h, _ => absurd h (Nat.not_lt_zero _)
  | g' + 1, 0, _, _, _, _, h => absurd h (by omega)
  | g' + 1, g + 1, p, o, hp, hg, hgg => by
    have k3 : ∀ (n p : Nat) (o : List Nat), Grows B o (if n = 0 then allF s B g p o else .ok () p o) := fun n p o => by
      split
      · exact allF_g g p o
      · exact Grows.pure _ _ _
    have k2 : ∀ (n k p : Nat) (o : List Nat), Grows B o ((blockR s B k p o).bind fun _ p out => if n = 0 then allF s B g p out else .ok () p out) := fun n k p o => (blockR_g _ _ o).bind fun _ p o _ => k3 n p o
    rw [allF, allF]
    refine (getR_c C _ _ o).bind (getR_g _ _ o) (fun n p1 o1 h1 _ => (getR_c C _ _ o1).bind (getR_g _ _ o1) (fun k p2 o2 h2 _ => ?_) fun k p o => k2 n k p o) fun n p o => (getR_g _ _ o).bind fun k p o _ => k2 n k p o
    obtain ⟨_, rfl, rfl, hp1⟩ := getR_ok h1
    obtain ⟨_, rfl, rfl, hp2⟩ := getR_ok h2
    refine (blockR_c C _ _ _ hp2).bind (blockR_g _ _ _) (fun u p3 o3 h3 _ => ?_) fun _ p o => k3 n p o
    have h3 := blockR_ok h3
    split
    · exact allF_c C g' g _ _ h3.2 (by omega) (by omega)
    · exact LtG.same _
theorem runR_c (C : Cut s' s B' B) : Lt9 (B' < B) (s'.size < s.size) (runR s' B') (runR s B) :=
  allF_c C (8 * s'.size + 1) (8 * s.size + 1) 0 [] (Nat.zero_le _) (by omega) (by have := C.size; omega) (Nat.zero_le _)
end
end Go.Proofs.YtnapnaaejignaaaGreat.If

/-! InX: inflate, plain: what InflateCuts asks. -/
namespace Go.Proofs.YtnapnaaejignaaaGreat.If
open Go.RowKit Bt Hu

def eOf : Rs Unit → Int
  | .ok _ _ _ => 0
  | .er e _ => e
def nOf : Rs Unit → Nat
  | .ok _ p _ => (p + 7) / 8
  | .er _ _ => 0
theorem runV_parts (s : ByteArray) (B : Nat) : runV s B = .tuple #[.string (txt (outOf (runR s B))), .int .i64 (nOf (runR s B) : Nat), .int .i64 (eOf (runR s B))] := by
  unfold runV
  cases runR s B <;> rfl
theorem low_same {s : ByteArray} {low high : Nat} (h : low ≤ high) : (runR s low = runR s high) ∨ (eOf (runR s low) = 3 ∧ outOf (runR s low) <+: outOf (runR s high) ∧ nOf (runR s low) = 0) := by
  rcases runR_c (s' := s) (s := s) (B' := low) (B := high) ⟨Nat.le_refl _, fun _ _ => rfl, h⟩ with h1 | ⟨x, o, hx, h1, h2⟩
  · exact .inl h1
  · rcases hx with ⟨rfl, _⟩ | ⟨_, hx⟩
    · rw [h1]; exact .inr ⟨rfl, h2, rfl⟩
    · exact absurd hx (Nat.lt_irrefl _)
theorem low_full {s : ByteArray} {B : Nat} (h : eOf (runR s B) = 3) : (outOf (runR s B)).length = B := by
  have hg := (runR_g (s := s) (B := B)).2
  cases hr : runR s B with
  | ok u p o => rw [hr] at h; cases h
  | er e o =>
    rw [hr] at h hg
    have h : e = 3 := h
    subst h
    exact hg o rfl
theorem e_or_n (s : ByteArray) (B : Nat) : eOf (runR s B) = 0 ∨ nOf (runR s B) = 0 := by
  cases runR s B
  · exact .inl rfl
  · exact .inr rfl
theorem cut_same {s' s : ByteArray} {B : Nat} (C : Cut s' s B B) : (runR s' B = runR s B) ∨ (eOf (runR s' B) ≠ 0 ∧ outOf (runR s' B) <+: outOf (runR s B) ∧ nOf (runR s' B) = 0) := by
  rcases runR_c C with h1 | ⟨x, o, hx, h1, h2⟩
  · exact .inl h1
  · rw [h1]
    refine .inr ⟨?_, h2, rfl⟩
    show x ≠ 0
    omega
end Go.Proofs.YtnapnaaejignaaaGreat.If

/-! InZ: inflate, plain: a stored block is read. -/
namespace Go.Proofs.YtnapnaaejignaaaGreat.If
open Bt Hu

theorem getv_split (s : ByteArray) (p n : Nat) : ∀ m, getv s false p (n + m) = getv s false p n + getv s false (p + n) m * 2 ^ n
  | 0 => by simp [getv]
  | m + 1 => by
    rw [← Nat.add_assoc, getv, getv, getv_split s p n m, if_neg (by decide), if_neg (by decide), Nat.add_mul, Nat.pow_add, Nat.add_assoc p n m, Nat.add_assoc, Nat.mul_assoc, Nat.mul_comm (2 ^ m) (2 ^ n)]
theorem getv_two (s : ByteArray) (k : Nat) : getv s false (8 * k) 16 = byteAt s k + byteAt s (k + 1) * 256 := by
  have h := getv_split s (8 * k) 8 8
  rw [getv_byte, show 8 * k + 8 = 8 * (k + 1) by omega, getv_byte] at h
  exact h
theorem byteAt_lt (s : ByteArray) (k : Nat) : byteAt s k < 256 := by
  rw [← getv_byte s false k]
  exact getv_lt s false (8 * k) 8
theorem head_bits (s : ByteArray) (k : Nat) (h : byteAt s k ≤ 1) : getv s false (8 * k) 1 = byteAt s k ∧ getv s false (8 * k + 1) 2 = 0 := by
  have h1 := getv_split s (8 * k) 1 7
  have h2 : getv s false (8 * k + 1) 7 = getv s false (8 * k + 1) 2 + getv s false (8 * k + 1 + 2) 5 * 2 ^ 2 := getv_split s (8 * k + 1) 2 5
  rw [getv_byte] at h1
  have h3 := getv_lt s false (8 * k) 1
  omega
/-- so many bytes of a stored block are put -/
theorem storeL_bytes (s : ByteArray) (B : Nat) : ∀ (n k : Nat) (out : List Nat), k + n ≤ s.size → out.length + n ≤ B → storeL s B n (8 * k) out = .ok () (8 * (k + n)) (out ++ (List.range n).map fun i => byteAt s (k + i))
  | 0, k, out, _, _ => by simp [storeL]
  | n + 1, k, out, h1, h2 => by
    rw [storeL]
    unfold getR putR
    rw [if_pos (by omega), Rs.bind_ok, if_neg (by omega), Rs.bind_ok, getv_byte, show 8 * k + 8 = 8 * (k + 1) by omega, storeL_bytes s B n (k + 1) _ (by omega) (by rw [List.length_append, List.length_singleton]; omega)]
    congr 1
    · omega
    · rw [List.range_succ_eq_map, List.map_cons, List.map_map, List.append_assoc]
      congr 2
      simp only [List.singleton_append, Nat.add_zero]
      congr 1
      apply List.map_congr_left
      intro i _
      simp only [Function.comp_apply, Nat.succ_eq_add_one]
      congr 1
      omega
def bytesAt (s : ByteArray) (k n : Nat) : List Nat := (List.range n).map fun i => byteAt s (k + i)
/-- a stored block stands at byte k -/
structure BlkAt (s : ByteArray) (k last n : Nat) : Prop where
  h0 : byteAt s k = last
  h1 : byteAt s (k + 1) = n
  h2 : byteAt s (k + 2) = 0
  h3 : byteAt s (k + 3) = 255 - n
  h4 : byteAt s (k + 4) = 255
  fit : k + 5 + n ≤ s.size
  small : last ≤ 1 ∧ n ≤ 100
theorem one_block {s : ByteArray} {B k last n : Nat} (h : BlkAt s k last n) (g : Nat) (out : List Nat) (hB : out.length + n ≤ B) :
    allF s B (g + 1) (8 * k) out = if last = 0 then allF s B g (8 * (k + 5 + n)) (out ++ bytesAt s (k + 5) n) else .ok () (8 * (k + 5 + n)) (out ++ bytesAt s (k + 5) n) := by
  obtain ⟨h0, h1, h2, h3, h4, hf, hs⟩ := h
  obtain ⟨b1, b2⟩ := head_bits s k (by omega)
  have g1 : getR s 1 (8 * k) out = .ok last (8 * k + 1) out := by unfold getR; rw [if_pos (by omega), b1, h0]
  have g2 : getR s 2 (8 * k + 1) out = .ok 0 (8 * k + 1 + 2) out := by unfold getR; rw [if_pos (by omega), b2]
  have hgap : 8 * k + 1 + 2 + gap (8 * k + 1 + 2) = 8 * (k + 1) := by unfold gap; omega
  have g3 : getR s 16 (8 * k + 1 + 2 + gap (8 * k + 1 + 2)) out = .ok n (8 * (k + 3)) out := by
    unfold getR
    rw [hgap, if_pos (by omega), getv_two, h1, show k + 1 + 1 = k + 2 by omega, h2]
    congr 1
  have g4 : getR s 16 (8 * (k + 3)) out = .ok (65535 - n) (8 * (k + 5)) out := by
    unfold getR
    rw [if_pos (by omega), getv_two, h3, show k + 3 + 1 = k + 4 by omega, h4]
    congr 1
    omega
  have g5 : blockR s B 0 (8 * k + 1 + 2) out = .ok () (8 * (k + 5 + n)) (out ++ bytesAt s (k + 5) n) := by
    show storedR s B (8 * k + 1 + 2) out = _
    unfold storedR
    rw [g3, Rs.bind_ok, g4, Rs.bind_ok, if_pos rfl, storeL_bytes s B n (k + 5) out (by omega) hB]
    rfl
  rw [allF, g1, Rs.bind_ok, g2, Rs.bind_ok, g5, Rs.bind_ok]
end Go.Proofs.YtnapnaaejignaaaGreat.If
