/-
  inflate, plain: a shorter text, less budget: rows, blocks, all.
-/
import Derived.Test.YtgjenpdppobpkaaInV
namespace Go.Proofs.Ytgjenpdppobpkaa.If
open Bt Hu

section
variable {s' s : ByteArray} {B' B : Nat}
theorem rowF_c (C : Cut s' s B' B) (D : List Int) (n : Nat) : ∀ (g' g : Nat) (l : List Int) (p : Nat) (o : List Nat), p ≤ 8 * s'.size → 8 * s'.size - p < g' → g' ≤ g → LtG B (B' < B) (s'.size < s.size) o (rowF s' D n g' l p o) (rowF s D n g l p o)
  | 0, _, _, _, _, _, h, _ => absurd h (Nat.not_lt_zero _)
  | g' + 1, 0, _, _, _, _, _, h => absurd h (by omega)
  | g' + 1, g + 1, l, p, o, hp, hg, hgg => by
    have k0 : ∀ (m p : Nat) (o : List Nat) (f : Nat → List Int), Grows B o ((getR s m p o).bind fun k p out => rowF s D n g (f k) p out) := fun m p o f => (getR_g _ _ o).bind fun k p o _ => rowF_g D n g _ p o
    have k : ∀ (x p : Nat) (o : List Nat), Grows B o (if x = 16 then (if l.length = 0 then .er 4 o else (getR s 2 p o).bind fun k p out => rowF s D n g (l ++ List.replicate (k + 3) (l.getD (l.length - 1) 0)) p out)
      else if x = 17 then (getR s 3 p o).bind fun k p out => rowF s D n g (l ++ List.replicate (k + 3) 0) p out
      else if x = 18 then (getR s 7 p o).bind fun k p out => rowF s D n g (l ++ List.replicate (k + 11) 0) p out
      else rowF s D n g (l ++ [(x : Int)]) p o) := fun x p o => by
      split
      · split
        · exact Grows.fail _ _ (by decide)
        · exact k0 2 p o _
      · split
        · exact k0 3 p o _
        · split
          · exact k0 7 p o _
          · exact rowF_g D n g _ p o
    have step : ∀ (m p1 : Nat) (o1 : List Nat) (f : Nat → List Int), p < p1 → LtG B (B' < B) (s'.size < s.size) o1 ((getR s' m p1 o1).bind fun k p out => rowF s' D n g' (f k) p out) ((getR s m p1 o1).bind fun k p out => rowF s D n g (f k) p out) := fun m p1 o1 f h0 => by
      refine (getR_c C _ _ o1).bind (getR_g _ _ o1) (fun k p2 o2 h2 _ => ?_) fun k p o => rowF_g D n g _ p o
      obtain ⟨_, rfl, rfl, hp2⟩ := getR_ok h2
      exact rowF_c C D n g' g _ _ _ hp2 (by omega) (by omega)
    rw [rowF, rowF]
    split
    · refine (symR_c C _ _ o).bind (symR_g _ _ o) (fun x p1 o1 h1 _ => ?_) k
      obtain ⟨hp1, hp2, _, _⟩ := symR_ok h1
      split
      · split
        · exact LtG.same _
        · exact step 2 p1 o1 _ hp1
      · split
        · exact step 3 p1 o1 _ hp1
        · split
          · exact step 7 p1 o1 _ hp1
          · exact rowF_c C D n g' g _ _ _ hp2 (by omega) (by omega)
    · split <;> exact LtG.same _
theorem dynT_g (a : Nat) (l : List Int) (p : Nat) (o : List Nat) : Grows B o (dynT s B a l p o) := by
  unfold dynT
  split
  · exact codedF_g _ _ _ _ _
  · exact Grows.fail _ _ (by decide)
theorem dynK_g (a b : Nat) (own : List Int) (p : Nat) (o : List Nat) : Grows B o (dynK s B a b own p o) := by
  unfold dynK
  split
  · exact (rowF_g _ _ _ _ _ o).bind fun l p o _ => dynT_g _ _ _ _
  · exact Grows.fail _ _ (by decide)
theorem own_ok' : ∀ (k i : Nat) (own : List Int) (p : Nat) (out : List Nat) {a : List Int} {q : Nat} {o : List Nat}, p ≤ 8 * s.size → ownL s k i own p out = .ok a q o → q ≤ 8 * s.size ∧ a.length = own.length
  | 0, i, own, p, out, a, q, o, hp, h => by rw [ownL] at h; injection h with h1 h2 _; rw [← h1, ← h2]; exact ⟨hp, rfl⟩
  | k + 1, i, own, p, out, a, q, o, hp, h => by
    rw [ownL] at h
    cases h1 : getR s 3 p out with
    | er e o1 => rw [h1, Rs.bind_er] at h; cases h
    | ok b p1 o1 =>
      obtain ⟨_, rfl, rfl, hp1⟩ := getR_ok h1
      rw [h1, Rs.bind_ok] at h
      have := own_ok' k _ _ _ _ hp1 h
      rw [List.length_set] at this
      exact this
theorem dynR_c (C : Cut s' s B' B) (p : Nat) (o : List Nat) : LtG B (B' < B) (s'.size < s.size) o (dynR s' B' p o) (dynR s B p o) := by
  have hsz := C.size
  have k4 : ∀ (a b c p : Nat) (o : List Nat), Grows B o (if a + 257 ≤ 286 ∧ b + 1 ≤ 30 then (ownL s (c + 4) 0 (zers 19) p o).bind (dynK s B a b) else .er 4 o) := fun a b c p o => by
    split
    · exact (ownL_g _ _ _ _ o).bind fun own p o _ => dynK_g _ _ _ _ _
    · exact Grows.fail _ _ (by decide)
  have k3 : ∀ (a b p : Nat) (o : List Nat), Grows B o ((getR s 4 p o).bind fun c p out => if a + 257 ≤ 286 ∧ b + 1 ≤ 30 then (ownL s (c + 4) 0 (zers 19) p out).bind (dynK s B a b) else .er 4 out) := fun a b p o => (getR_g _ _ o).bind fun c p o _ => k4 a b c p o
  unfold dynR
  refine (getR_c C _ _ o).bind (getR_g _ _ o) (fun a p o _ _ => (getR_c C _ _ o).bind (getR_g _ _ o) (fun b p o _ _ => (getR_c C _ _ o).bind (getR_g _ _ o) (fun c p o h3 _ => ?_) fun c p o => k4 a b c p o) fun b p o => k3 a b p o) fun a p o => (getR_g _ _ o).bind fun b p o _ => k3 a b p o
  obtain ⟨_, rfl, rfl, hp3⟩ := getR_ok h3
  split
  · refine (ownL_c C _ _ _ _ _).bind (ownL_g _ _ _ _ _) (fun own p1 o1 h4 _ => ?_) fun own p o => dynK_g _ _ _ _ _
    obtain ⟨hp4, hlen⟩ := own_ok' _ _ _ _ _ hp3 h4
    unfold dynK
    split
    · refine (rowF_c C _ _ _ _ _ _ _ hp4 (by omega) (by omega)).bind (rowF_g _ _ _ _ _ _) (fun l p2 o2 h5 _ => ?_) fun l p o => dynT_g _ _ _ _
      have hl19 : own.length ≤ 288 := by rw [hlen]; unfold zers; simp
      obtain ⟨_, _, hp5, _⟩ := rowF_ok _ _ _ _ hp4 hl19 (by simp) h5
      unfold dynT
      split
      · unfold codedR
        exact codedF_c C _ _ _ _ _ _ hp5 (by omega) (by omega)
      · exact LtG.same _
    · exact LtG.same _
  · exact LtG.same _
theorem blockR_c (C : Cut s' s B' B) (k p : Nat) (o : List Nat) (hp : p ≤ 8 * s'.size) : LtG B (B' < B) (s'.size < s.size) o (blockR s' B' k p o) (blockR s B k p o) := by
  have hsz := C.size
  unfold blockR
  split
  · exact storedR_c C _ _
  · split
    · unfold codedR
      exact codedF_c C _ _ _ _ _ _ hp (by omega) (by omega)
    · split
      · rw [dyn_eq, dyn_eq]; exact dynR_c C _ _
      · exact LtG.same _
theorem allF_c (C : Cut s' s B' B) : ∀ (g' g p : Nat) (o : List Nat), p ≤ 8 * s'.size → 8 * s'.size - p < g' → g' ≤ g → LtG B (B' < B) (s'.size < s.size) o (allF s' B' g' p o) (allF s B g p o)
  | 0, _, _, _, _, h, _ => absurd h (Nat.not_lt_zero _)
  | g' + 1, 0, _, _, _, _, h => absurd h (by omega)
  | g' + 1, g + 1, p, o, hp, hg, hgg => by
    have k3 : ∀ (n p : Nat) (o : List Nat), Grows B o (if n = 0 then allF s B g p o else .ok () p o) := fun n p o => by
      split
      · exact allF_g g p o
      · exact Grows.pure _ _ _
    have k2 : ∀ (n k p : Nat) (o : List Nat), Grows B o ((blockR s B k p o).bind fun _ p out => if n = 0 then allF s B g p out else .ok () p out) := fun n k p o => (blockR_g _ _ o).bind fun _ p o _ => k3 n p o
    rw [allF, allF]
    refine (getR_c C _ _ o).bind (getR_g _ _ o) (fun n p1 o1 h1 _ => (getR_c C _ _ o1).bind (getR_g _ _ o1) (fun k p2 o2 h2 _ => ?_) fun k p o => k2 n k p o) fun n p o => (getR_g _ _ o).bind fun k p o _ => k2 n k p o
    obtain ⟨_, rfl, rfl, hp1⟩ := getR_ok h1
    obtain ⟨_, rfl, rfl, hp2⟩ := getR_ok h2
    refine (blockR_c C _ _ _ hp2).bind (blockR_g _ _ _) (fun u p3 o3 h3 _ => ?_) fun _ p o => k3 n p o
    have h3 := blockR_ok h3
    split
    · exact allF_c C g' g _ _ h3.2 (by omega) (by omega)
    · exact LtG.same _
theorem runR_c (C : Cut s' s B' B) : Lt9 (B' < B) (s'.size < s.size) (runR s' B') (runR s B) :=
  allF_c C (8 * s'.size + 1) (8 * s.size + 1) 0 [] (Nat.zero_le _) (by omega) (by have := C.size; omega) (Nat.zero_le _)
end
end Go.Proofs.Ytgjenpdppobpkaa.If
