/-
  inflate, plain: of a shorter text, or of less budget, the bytes are a first part.
-/
import Derived.Test.YtgjenpdppobpkaaInP
namespace Go.Proofs.Ytgjenpdppobpkaa.If
open Bt Hu

def outOf {α : Type} : Rs α → List Nat
  | .ok _ _ o => o
  | .er _ o => o
/-- all that is put comes behind what was there; the budget is kept; budget errors come when it is full -/
def Grows {α : Type} (B : Nat) (o : List Nat) (r : Rs α) : Prop := o.length ≤ B → o <+: outOf r ∧ (outOf r).length ≤ B ∧ ∀ o', r = .er 3 o' → o'.length = B
theorem Grows.bind {α β : Type} {B : Nat} {o : List Nat} {r : Rs α} {f : α → Nat → List Nat → Rs β} (h : Grows B o r) (hf : ∀ a p o', r = .ok a p o' → Grows B o' (f a p o')) : Grows B o (r.bind f) := fun ho => by
  obtain ⟨h1, h2, h3⟩ := h ho
  cases r with
  | er e o' => exact ⟨h1, h2, fun o2 he => by
      rw [Rs.bind_er] at he
      injection he with e1 e2
      subst e1 e2
      exact h3 _ rfl⟩
  | ok a p o' =>
    rw [Rs.bind_ok]
    obtain ⟨k1, k2, k3⟩ := hf a p o' rfl h2
    exact ⟨h1.trans k1, k2, k3⟩
theorem Grows.pure {α : Type} {B : Nat} (a : α) (p : Nat) (o : List Nat) : Grows B o (.ok a p o) := fun ho => ⟨List.prefix_refl _, ho, fun _ h => by cases h⟩
theorem Grows.fail {α : Type} {B : Nat} (e : Int) (o : List Nat) (he : e ≠ 3) : Grows B o (.er e o : Rs α) := fun ho => ⟨List.prefix_refl _, ho, fun _ h => by injection h with h1 _; exact absurd h1 he⟩
section
variable {s : ByteArray} {B : Nat}
theorem getR_g (n p : Nat) (o : List Nat) : Grows B o (getR s n p o) := by
  unfold getR
  split
  · exact Grows.pure _ _ _
  · exact Grows.fail _ _ (by decide)
theorem symR_g (D : List Int) (p : Nat) (o : List Nat) : Grows B o (symR s D p o) := by
  cases h : symR s D p o with
  | ok a q o' => obtain ⟨_, _, _, rfl⟩ := symR_ok h; exact Grows.pure _ _ _
  | er e o' => obtain ⟨he, rfl⟩ := symR_er h; exact Grows.fail _ _ (by omega)
theorem putR_g (b p : Nat) (o : List Nat) : Grows B o (putR B b p o) := fun ho => by
  unfold putR
  split
  · exact ⟨List.prefix_refl _, ho, fun o' h => by injection h with _ h2; rw [← h2]; omega⟩
  · refine ⟨List.prefix_append _ _, ?_, fun o' h => by cases h⟩
    show (o ++ [b]).length ≤ B
    rw [List.length_append, List.length_singleton]
    omega
theorem storeL_g : ∀ (n p : Nat) (o : List Nat), Grows B o (storeL s B n p o)
  | 0, p, o => Grows.pure _ _ _
  | n + 1, p, o => by
    rw [storeL]
    exact (getR_g 8 p o).bind fun b p o _ => (putR_g b p o).bind fun _ p o _ => storeL_g n p o
theorem copyL_g (back : Nat) : ∀ (n p : Nat) (o : List Nat), Grows B o (copyL B back n p o)
  | 0, p, o => Grows.pure _ _ _
  | n + 1, p, o => by
    rw [copyL]
    exact (putR_g _ p o).bind fun _ p o _ => copyL_g back n p o
theorem storedR_g (p : Nat) (o : List Nat) : Grows B o (storedR s B p o) := by
  unfold storedR
  refine (getR_g _ _ o).bind fun n p o _ => (getR_g _ _ o).bind fun m p o _ => ?_
  split
  · exact storeL_g _ _ _
  · exact Grows.fail _ _ (by decide)
theorem againR_g (x : Nat) (D : List Int) (p : Nat) (o : List Nat) : Grows B o (againR s B x D p o) := by
  unfold againR
  refine (getR_g _ _ o).bind fun u p o _ => (symR_g _ _ o).bind fun d p o _ => ?_
  split
  · refine (getR_g _ _ o).bind fun v p o _ => ?_
    split
    · exact copyL_g _ _ _ _
    · exact Grows.fail _ _ (by decide)
  · exact Grows.fail _ _ (by decide)
theorem codedF_g (D1 D2 : List Int) : ∀ (g p : Nat) (o : List Nat), Grows B o (codedF s B D1 D2 g p o)
  | 0, p, o => Grows.fail _ _ (by decide)
  | g + 1, p, o => by
    rw [codedF]
    refine (symR_g _ _ o).bind fun x p o _ => ?_
    split
    · exact (putR_g _ _ o).bind fun _ p o _ => codedF_g D1 D2 g p o
    · split
      · exact Grows.pure _ _ _
      · split
        · exact (againR_g _ _ _ o).bind fun _ p o _ => codedF_g D1 D2 g p o
        · exact Grows.fail _ _ (by decide)
theorem rowF_g (D : List Int) (n : Nat) : ∀ (g : Nat) (l : List Int) (p : Nat) (o : List Nat), Grows B o (rowF s D n g l p o)
  | 0, l, p, o => Grows.fail _ _ (by decide)
  | g + 1, l, p, o => by
    rw [rowF]
    split
    · refine (symR_g _ _ o).bind fun x p o _ => ?_
      split
      · split
        · exact Grows.fail _ _ (by decide)
        · exact (getR_g _ _ o).bind fun k p o _ => rowF_g D n g _ p o
      · split
        · exact (getR_g _ _ o).bind fun k p o _ => rowF_g D n g _ p o
        · split
          · exact (getR_g _ _ o).bind fun k p o _ => rowF_g D n g _ p o
          · exact rowF_g D n g _ p o
    · split
      · exact Grows.pure _ _ _
      · exact Grows.fail _ _ (by decide)
theorem ownL_g : ∀ (k i : Nat) (own : List Int) (p : Nat) (o : List Nat), Grows B o (ownL s k i own p o)
  | 0, i, own, p, o => Grows.pure _ _ _
  | k + 1, i, own, p, o => by
    rw [ownL]
    exact (getR_g _ _ o).bind fun v p o _ => ownL_g k _ _ p o
theorem dynR_g (p : Nat) (o : List Nat) : Grows B o (dynR s B p o) := by
  unfold dynR
  refine (getR_g _ _ o).bind fun a p o _ => (getR_g _ _ o).bind fun b p o _ => (getR_g _ _ o).bind fun c p o _ => ?_
  split
  · refine (ownL_g _ _ _ _ o).bind fun own p o _ => ?_
    unfold dynK
    split
    · refine (rowF_g _ _ _ _ _ o).bind fun l p o _ => ?_
      unfold dynT
      split
      · exact codedF_g _ _ _ _ _
      · exact Grows.fail _ _ (by decide)
    · exact Grows.fail _ _ (by decide)
  · exact Grows.fail _ _ (by decide)
theorem blockR_g (k p : Nat) (o : List Nat) : Grows B o (blockR s B k p o) := by
  unfold blockR
  split
  · exact storedR_g _ _
  · split
    · exact codedF_g _ _ _ _ _
    · split
      · rw [dyn_eq]; exact dynR_g _ _
      · exact Grows.fail _ _ (by decide)
theorem allF_g : ∀ (g p : Nat) (o : List Nat), Grows B o (allF s B g p o)
  | 0, p, o => Grows.fail _ _ (by decide)
  | g + 1, p, o => by
    rw [allF]
    refine (getR_g _ _ o).bind fun n p o _ => (getR_g _ _ o).bind fun k p o _ => (blockR_g _ _ o).bind fun _ p o _ => ?_
    split
    · exact allF_g g p o
    · exact Grows.pure _ _ _
theorem runR_g : (outOf (runR s B)).length ≤ B ∧ ∀ o', runR s B = .er 3 o' → o'.length = B :=
  let h := allF_g (s := s) (B := B) (8 * s.size + 1) 0 [] (Nat.zero_le _)
  ⟨h.2.1, h.2.2⟩
end
end Go.Proofs.Ytgjenpdppobpkaa.If
