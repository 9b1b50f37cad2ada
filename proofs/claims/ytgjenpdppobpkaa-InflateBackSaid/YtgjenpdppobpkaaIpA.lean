/-
  inflate: the document's run, plain: every step as a function of the place, the bytes, the first error; it tells what InA tells.
-/
import Derived.Test.YtgjenpdppobpkaaInX
namespace Go.Proofs.Ytgjenpdppobpkaa.If
open Bt Hu

/-- the place read to, the bytes so far, the first error -/
structure St where
  p : Nat
  out : List Nat
  e : Int
def dfail (x : Int) (t : St) : St := if t.e = 0 then ⟨t.p, t.out, x⟩ else t
section
variable (s : ByteArray) (B : Nat)
def dget (n : Nat) (t : St) : Nat × St := if t.e ≠ 0 then (0, t) else if t.p + n ≤ 8 * s.size then (getv s false t.p n, ⟨t.p + n, t.out, 0⟩) else (0, ⟨t.p, t.out, 8⟩)
def dput (b : Nat) (t : St) : St := if t.e ≠ 0 then t else if B ≤ t.out.length then ⟨t.p, t.out, 3⟩ else ⟨t.p, t.out ++ [b], 0⟩
def dsym (D : List Int) (t : St) : Nat × St :=
  if t.e ≠ 0 then (0, t) else ((readN D (bit s false) (8 * s.size) t.p).1, ⟨(readN D (bit s false) (8 * s.size) t.p).2.2, t.out, (readN D (bit s false) (8 * s.size) t.p).2.1⟩)
def dstoreL : Nat → St → St
  | 0, t => t
  | n + 1, t => if t.e ≠ 0 then t else dstoreL n (dput B (dget s 8 t).1 (dget s 8 t).2)
def dstB2 (n m : Nat) (t : St) : St := dstoreL s B n (if (m : Int) ≠ 65535 - (n : Int) then dfail 4 t else t)
def dstA (n : Nat) (t : St) : St := dstB2 s B n (dget s 16 t).1 (dget s 16 t).2
def dstored (t : St) : St := dstA s B (dget s 16 ⟨t.p + gap t.p, t.out, t.e⟩).1 (dget s 16 ⟨t.p + gap t.p, t.out, t.e⟩).2
def dcopyL (back : Nat) : Nat → St → St
  | 0, t => t
  | n + 1, t => if t.e ≠ 0 then t else dcopyL back n (dput B (t.out.getD (t.out.length - back) 0) t)
def dagC (n d v : Nat) (t : St) : St := if t.e = 0 ∧ t.out.length < dstB d + v then dfail 4 t else dcopyL B (dstB d + v) n t
def dagB (n d : Nat) (t : St) : St := if t.e = 0 ∧ 29 < d then dfail 4 t else dagC B n d (dget s (dstX d) t).1 (dget s (dstX d) t).2
def dagA (D : List Int) (n : Nat) (t : St) : St := dagB s B n (dsym s D t).1 (dsym s D t).2
def dag (x : Nat) (D : List Int) (t : St) : St := dagA s B D (lenB x + (dget s (lenX x) t).1) (dget s (lenX x) t).2
def dcodX (D2 : List Int) (k : St → St) (x : Nat) (t : St) : St := if t.e ≠ 0 ∨ x = 256 then t else if x < 256 then k (dput B x t) else if 285 < x then dfail 4 t else k (dag s B x D2 t)
def dcodedF (D1 D2 : List Int) : Nat → St → St
  | 0, t => t
  | g + 1, t => if t.e ≠ 0 then t else dcodX s B D2 (dcodedF D1 D2 g) (dsym s D1 t).1 (dsym s D1 t).2
def dlenX (k : List Int → St → List Int × St) (l : List Int) (x : Nat) (t : St) : List Int × St :=
  if x = 16 then (if l.length = 0 ∧ t.e = 0 then (l, dfail 4 t) else k (l ++ List.replicate ((dget s 2 t).1 + 3) (if 0 < l.length then l.getD (l.length - 1) 0 else 0)) (dget s 2 t).2)
  else if x = 17 then k (l ++ List.replicate ((dget s 3 t).1 + 3) 0) (dget s 3 t).2
  else if x = 18 then k (l ++ List.replicate ((dget s 7 t).1 + 11) 0) (dget s 7 t).2
  else k (l ++ [(x : Int)]) t
def dlenF (D : List Int) (n : Nat) : Nat → List Int → St → List Int × St
  | 0, l, t => (l, t)
  | g + 1, l, t => if l.length < n ∧ t.e = 0 then dlenX s (dlenF D n g) l (dsym s D t).1 (dsym s D t).2 else (l, t)
def dlenE (n : Nat) (R : List Int × St) : List Int × St := (R.1, if n < R.1.length then dfail 4 R.2 else R.2)
def dlengths (D : List Int) (n : Nat) (t : St) : List Int × St := dlenE n (dlenF s D n (8 * s.size - t.p + 2) [] t)
def down : Nat → Nat → List Int → St → List Int × St
  | 0, _, own, t => (own, t)
  | k + 1, i, own, t => down k (i + 1) (own.set (ordN.getD i 0) ((dget s 3 t).1 : Int)) (dget s 3 t).2
def someN9 (l : List Int) : Nat := l.countP fun x => decide (0 < x)
def oneN9 (l : List Int) : Nat := l.countP fun x => decide (x = 1)
def distB (l : List Int) : Bool := decide ((stateN l).1 = 0) || (decide (someN9 l = 0) || (decide (someN9 l = 1) && decide (oneN9 l = 1)))
def badT (l : List Int) (a : Nat) : Bool := decide ((stateN (l.take a)).1 ≠ 0) || (decide (l.getD 256 0 = 0) || !distB (l.drop a))
def dtabL (a : Nat) (l : List Int) (t : St) : Option (List Int × List Int) × St :=
  if t.e ≠ 0 then (none, t) else if badT l a = true then (none, dfail 4 t) else (some (l.take a, l.drop a), t)
def dtabO (a b : Nat) (own : List Int) (t : St) : Option (List Int × List Int) × St :=
  if t.e ≠ 0 then (none, t) else if (stateN own).1 ≠ 0 then (none, dfail 4 t) else dtabL (a + 257) (dlengths s own (a + 257 + (b + 1)) t).1 (dlengths s own (a + 257 + (b + 1)) t).2
def dtabC (a b c : Nat) (t : St) : Option (List Int × List Int) × St := dtabO s a b (down s (c + 4) 0 (zers 19) (if t.e = 0 ∧ (286 < a + 257 ∨ 30 < b + 1) then dfail 4 t else t)).1 (down s (c + 4) 0 (zers 19) (if t.e = 0 ∧ (286 < a + 257 ∨ 30 < b + 1) then dfail 4 t else t)).2
def dtabB (a b : Nat) (t : St) : Option (List Int × List Int) × St := dtabC s a b (dget s 4 t).1 (dget s 4 t).2
def dtabA (a : Nat) (t : St) : Option (List Int × List Int) × St := dtabB s a (dget s 5 t).1 (dget s 5 t).2
def dtabs (t : St) : Option (List Int × List Int) × St := dtabA s (dget s 5 t).1 (dget s 5 t).2
def dcoded (D1 D2 : List Int) (t : St) : St := dcodedF s B D1 D2 (8 * s.size - t.p + 1) t
def ddyn (T : Option (List Int × List Int) × St) : St := match T with
  | (none, t) => t
  | (some (a, b), t) => dcoded s B a b t
def dblock (kind : Nat) (t : St) : St :=
  if kind = 0 then dstored s B t else if kind = 1 then dcoded s B fixL fixD t else if kind = 2 then ddyn s B (dtabs s t) else dfail 4 t
def drunB (k : St → St) (last kind : Nat) (t : St) : St := if t.e ≠ 0 then t else if last = 0 ∧ (dblock s B kind t).e = 0 then k (dblock s B kind t) else dblock s B kind t
def drunA (k : St → St) (last : Nat) (t : St) : St := drunB s B k last (dget s 2 t).1 (dget s 2 t).2
def drunF : Nat → St → St
  | 0, t => t
  | g + 1, t => drunA s B (drunF g) (dget s 1 t).1 (dget s 1 t).2
def drun : St := drunF s B (8 * s.size + 1) ⟨0, [], 0⟩
end
/-! ### behind an error nothing more is done -/
section
variable {s : ByteArray} {B : Nat} {t : St} (h : t.e ≠ 0)
include h
theorem dfail_dead (x : Int) : dfail x t = t := if_neg h
theorem dget_dead (n : Nat) : dget s n t = (0, t) := if_pos h
theorem dput_dead (b : Nat) : dput B b t = t := if_pos h
theorem dsym_dead (D : List Int) : dsym s D t = (0, t) := if_pos h
theorem dstoreL_dead (n : Nat) : dstoreL s B n t = t := by cases n with | zero => rfl | succ n => exact if_pos h
theorem dcopyL_dead (b n : Nat) : dcopyL B b n t = t := by cases n with | zero => rfl | succ n => exact if_pos h
theorem dstB2_dead (n m : Nat) : dstB2 s B n m t = t := by unfold dstB2; rw [dfail_dead h, ite_self, dstoreL_dead h]
theorem dstA_dead (n : Nat) : dstA s B n t = t := by unfold dstA; rw [dget_dead h, dstB2_dead h]
theorem dagC_dead (n d v : Nat) : dagC B n d v t = t := by unfold dagC; rw [if_neg (fun x => h x.1), dcopyL_dead h]
theorem dagB_dead (n d : Nat) : dagB s B n d t = t := by unfold dagB; rw [if_neg (fun x => h x.1), dget_dead h, dagC_dead h]
theorem dagA_dead (D : List Int) (n : Nat) : dagA s B D n t = t := by unfold dagA; rw [dsym_dead h, dagB_dead h]
theorem dcodedF_dead (D1 D2 : List Int) (g : Nat) : dcodedF s B D1 D2 g t = t := by cases g with | zero => rfl | succ n => exact if_pos h
theorem dcodX_dead (D2 : List Int) (k : St → St) (x : Nat) : dcodX s B D2 k x t = t := if_pos (.inl h)
theorem dlenF_dead (D : List Int) (n g : Nat) (l : List Int) : dlenF s D n g l t = (l, t) := by cases g with | zero => rfl | succ n => exact if_neg (fun x => h x.2)
theorem dlenE_dead (n : Nat) (l : List Int) : (dlenE n (l, t)).2 = t := by unfold dlenE; rw [dfail_dead h, ite_self]
theorem down_dead : ∀ (k i : Nat) (own : List Int), (down s k i own t).2 = t
  | 0, _, _ => rfl
  | k + 1, i, own => by rw [down, dget_dead h, down_dead k]
theorem dtabL_dead (a : Nat) (l : List Int) : dtabL a l t = (none, t) := if_pos h
theorem dtabO_dead (a b : Nat) (own : List Int) : dtabO s a b own t = (none, t) := if_pos h
theorem dtabC_dead (a b c : Nat) : dtabC s a b c t = (none, t) := by unfold dtabC; rw [if_neg (fun x => h x.1), down_dead h, dtabO_dead h]
theorem dtabB_dead (a b : Nat) : dtabB s a b t = (none, t) := by unfold dtabB; rw [dget_dead h, dtabC_dead h]
theorem dtabA_dead (a : Nat) : dtabA s a t = (none, t) := by unfold dtabA; rw [dget_dead h, dtabB_dead h]
theorem drunB_dead (k : St → St) (a b : Nat) : drunB s B k a b t = t := if_pos h
theorem drunA_dead (k : St → St) (a : Nat) : drunA s B k a t = t := by unfold drunA; rw [dget_dead h, drunB_dead h]
end
/-! ### it tells what InA tells -/
theorem live9 {α : Type} {p : Nat} {out : List Nat} {x y : α} : (if (⟨p, out, 0⟩ : St).e ≠ 0 then x else y) = y := if_neg (fun h => h rfl)
def Rl {α : Type} (R : Rs α) (a : α) (t : St) : Prop :=
  match R with
  | .ok b p o => a = b ∧ t = ⟨p, o, 0⟩
  | .er e o => e ≠ 0 ∧ t.e = e ∧ t.out = o
section
variable {s : ByteArray} {B : Nat}
theorem rl_get (n p : Nat) (out : List Nat) : Rl (getR s n p out) (dget s n ⟨p, out, 0⟩).1 (dget s n ⟨p, out, 0⟩).2 := by
  unfold getR dget
  rw [live9]
  by_cases h : p + n ≤ 8 * s.size
  · rw [if_pos h, if_pos h]; exact ⟨rfl, rfl⟩
  · rw [if_neg h, if_neg h]; exact ⟨by decide, rfl, rfl⟩
theorem rl_put (b p : Nat) (out : List Nat) : Rl (putR B b p out) () (dput B b ⟨p, out, 0⟩) := by
  unfold putR dput
  rw [live9]
  by_cases h : B ≤ out.length
  · rw [if_pos h, if_pos h]; exact ⟨by decide, rfl, rfl⟩
  · rw [if_neg h, if_neg h]; exact ⟨rfl, rfl⟩
theorem rl_sym (D : List Int) (p : Nat) (out : List Nat) : Rl (symR s D p out) (dsym s D ⟨p, out, 0⟩).1 (dsym s D ⟨p, out, 0⟩).2 := by
  unfold symR dsym
  rw [live9]
  by_cases h : (readN D (bit s false) (8 * s.size) p).2.1 = 0
  · rw [if_pos h]; exact ⟨rfl, by simp only [h]⟩
  · rw [if_neg h]; exact ⟨h, rfl, rfl⟩
/-- one step, then the others -/
theorem Rl.bind {α β : Type} {R : Rs α} {f : α → Nat → List Nat → Rs β} {a : α} {t : St} {b : β} {u : St} (h : Rl R a t) (hk : ∀ p o, R = .ok a p o → t = ⟨p, o, 0⟩ → Rl (f a p o) b u) (hd : t.e ≠ 0 → u = t) : Rl (R.bind f) b u := by
  cases R with
  | ok a' p o =>
    obtain ⟨rfl, rfl⟩ := h
    exact hk p o rfl rfl
  | er e o =>
    obtain ⟨he, h1, h2⟩ := h
    rw [hd (by rw [h1]; exact he)]
    exact ⟨he, h1, h2⟩
theorem rl_fail {α : Type} (a : α) (p : Nat) (out : List Nat) : Rl (.er 4 out : Rs α) a (dfail 4 ⟨p, out, 0⟩) := by
  unfold dfail; rw [if_pos rfl]; exact ⟨by decide, rfl, rfl⟩
theorem rl_storeL : ∀ (n p : Nat) (out : List Nat), Rl (storeL s B n p out) () (dstoreL s B n ⟨p, out, 0⟩)
  | 0, p, out => ⟨rfl, rfl⟩
  | n + 1, p, out => by
    rw [storeL, dstoreL, live9]
    refine (rl_get 8 p out).bind (fun p1 o1 _ e1 => ?_) (fun h => by rw [dput_dead h, dstoreL_dead h])
    rw [e1]
    refine (rl_put _ p1 o1).bind (fun p2 o2 _ e2 => ?_) (fun h => dstoreL_dead h _)
    rw [e2]
    exact rl_storeL n p2 o2
theorem rl_stored (p : Nat) (out : List Nat) : Rl (storedR s B p out) () (dstored s B ⟨p, out, 0⟩) := by
  unfold storedR dstored
  refine (rl_get 16 (p + gap p) out).bind (fun p1 o1 h1 e1 => ?_) (fun h => dstA_dead h _)
  simp only at e1 ⊢
  rw [e1]
  obtain ⟨hn, _⟩ := getR_ok h1
  have hn2 := getv8 s (p + gap p) 16 (by omega)
  rw [← hn] at hn2
  unfold dstA
  refine (rl_get 16 p1 o1).bind (fun p2 o2 h2 e2 => ?_) (fun h => dstB2_dead h _ _)
  rw [e2]
  generalize (dget s 16 ⟨p1, o1, 0⟩).1 = m
  generalize (dget s 16 ⟨p + gap p, out, 0⟩).1 = n at hn2 ⊢
  unfold dstB2
  by_cases hm : m = 65535 - n
  · rw [if_pos hm, if_neg (by omega)]
    exact rl_storeL n p2 o2
  · rw [if_neg hm, if_pos (by omega)]
    have : (dfail 4 ⟨p2, o2, 0⟩).e ≠ 0 := by unfold dfail; simp
    rw [dstoreL_dead this]
    exact rl_fail _ _ _
theorem rl_copyL (back : Nat) : ∀ (n p : Nat) (out : List Nat), Rl (copyL B back n p out) () (dcopyL B back n ⟨p, out, 0⟩)
  | 0, p, out => ⟨rfl, rfl⟩
  | n + 1, p, out => by
    rw [copyL, dcopyL, live9]
    refine (rl_put _ p out).bind (fun p1 o1 _ e1 => ?_) (fun h => dcopyL_dead h _ _)
    rw [e1]
    exact rl_copyL back n p1 o1
theorem rl_again (x : Nat) (D : List Int) (p : Nat) (out : List Nat) : Rl (againR s B x D p out) () (dag s B x D ⟨p, out, 0⟩) := by
  unfold againR dag
  refine (rl_get (lenX x) p out).bind (fun p1 o1 _ e1 => ?_) (fun h => dagA_dead h _ _)
  rw [e1]
  generalize (dget s (lenX x) ⟨p, out, 0⟩).1 = u
  unfold dagA
  refine (rl_sym D p1 o1).bind (fun p2 o2 _ e2 => ?_) (fun h => dagB_dead h _ _)
  rw [e2]
  generalize (dsym s D ⟨p1, o1, 0⟩).1 = d
  unfold dagB
  by_cases hd : d ≤ 29
  · rw [if_pos hd, if_neg (by omega)]
    refine (rl_get (dstX d) p2 o2).bind (fun p3 o3 _ e3 => ?_) (fun h => dagC_dead h _ _ _)
    rw [e3]
    generalize (dget s (dstX d) ⟨p2, o2, 0⟩).1 = v
    unfold dagC
    by_cases hb : dstB d + v ≤ o3.length
    · rw [if_pos hb, if_neg (show ¬ ((0 : Int) = 0 ∧ o3.length < dstB d + v) by omega)]
      exact rl_copyL _ _ p3 o3
    · rw [if_neg hb, if_pos (show (0 : Int) = 0 ∧ o3.length < dstB d + v by omega)]
      exact rl_fail _ _ _
  · rw [if_neg hd, if_pos (show (0 : Int) = 0 ∧ 29 < d by omega)]
    exact rl_fail _ _ _
theorem rl_codedF (D1 D2 : List Int) : ∀ (g p : Nat) (out : List Nat), p ≤ 8 * s.size → 8 * s.size + 1 ≤ p + g → Rl (codedF s B D1 D2 g p out) () (dcodedF s B D1 D2 g ⟨p, out, 0⟩)
  | 0, p, out, hp, hg => by omega
  | g + 1, p, out, hp, hg => by
    rw [codedF, dcodedF, live9]
    refine (rl_sym D1 p out).bind (fun p1 o1 z1 e1 => ?_) (fun h => dcodX_dead h _ _ _)
    rw [e1]
    obtain ⟨z2, z3, _, _⟩ := symR_ok z1
    clear z1
    generalize (dsym s D1 ⟨p, out, 0⟩).1 = x
    unfold dcodX
    by_cases h1 : x < 256
    · rw [if_pos h1, if_neg (by simp; omega), if_pos h1]
      refine (rl_put x p1 o1).bind (fun p2 o2 z4 e2 => ?_) (fun h => dcodedF_dead h _ _ _)
      rw [e2]
      obtain ⟨rfl, _, _⟩ := putR_ok z4
      exact rl_codedF D1 D2 g _ o2 (by omega) (by omega)
    · by_cases h2 : x = 256
      · rw [if_neg h1, if_pos h2, if_pos (.inr h2)]
        exact ⟨rfl, rfl⟩
      · by_cases h3 : x ≤ 285
        · rw [if_neg h1, if_neg h2, if_pos h3, if_neg (by simp; omega), if_neg h1, if_neg (by omega)]
          refine (rl_again x D2 p1 o1).bind (fun p2 o2 z4 e2 => ?_) (fun h => dcodedF_dead h _ _ _)
          rw [e2]
          have z5 := againR_ok z4
          exact rl_codedF D1 D2 g p2 o2 (by omega) (by omega)
        · rw [if_neg h1, if_neg h2, if_neg h3, if_neg (by simp; omega), if_neg h1, if_pos (by omega)]
          exact rl_fail _ _ _
theorem rl_coded (D1 D2 : List Int) (p : Nat) (out : List Nat) (hp : p ≤ 8 * s.size) : Rl (codedR s B D1 D2 p out) () (dcoded s B D1 D2 ⟨p, out, 0⟩) := rl_codedF D1 D2 _ p out hp (by omega)
/-- what is told of a row read by the document's way -/
theorem rl_rowF (D : List Int) (n : Nat) : ∀ (g : Nat) (l : List Int) (p : Nat) (out : List Nat), p ≤ 8 * s.size → 8 * s.size + 1 ≤ p + g → Rl (rowF s D n g l p out) (dlenE n (dlenF s D n g l ⟨p, out, 0⟩)).1 (dlenE n (dlenF s D n g l ⟨p, out, 0⟩)).2
  | 0, l, p, out, hp, hg => by omega
  | g + 1, l, p, out, hp, hg => by
    rw [rowF, dlenF]
    by_cases hl : l.length < n
    · rw [if_pos hl, if_pos ⟨hl, rfl⟩]
      refine Rl.bind (a := (dsym s D ⟨p, out, 0⟩).1) (t := (dsym s D ⟨p, out, 0⟩).2) (rl_sym D p out) (fun p1 o1 z1 e1 => ?_) (fun h => ?_)
      · rw [e1]
        obtain ⟨z2, z3, _, _⟩ := symR_ok z1
        clear z1
        generalize (dsym s D ⟨p, out, 0⟩).1 = x
        unfold dlenX
        by_cases h16 : x = 16
        · rw [if_pos h16, if_pos h16]
          by_cases h0 : l.length = 0
          · rw [if_pos h0, if_pos ⟨h0, rfl⟩]
            unfold dlenE
            rw [if_neg (by simp only; omega)]
            exact rl_fail _ _ _
          · rw [if_neg h0, if_neg (show ¬ (l.length = 0 ∧ (0 : Int) = 0) from fun h => h0 h.1), if_pos (show 0 < l.length by omega)]
            refine Rl.bind (rl_get 2 p1 o1) (fun p2 o2 z4 e2 => ?_) (fun h => by rw [dlenF_dead h, dlenE_dead h])
            rw [e2]
            obtain ⟨_, rfl, rfl, _⟩ := getR_ok z4
            exact rl_rowF D n g _ _ _ (by omega) (by omega)
        · rw [if_neg h16, if_neg h16]
          by_cases h17 : x = 17
          · rw [if_pos h17, if_pos h17]
            refine Rl.bind (rl_get 3 p1 o1) (fun p2 o2 z4 e2 => ?_) (fun h => by rw [dlenF_dead h, dlenE_dead h])
            rw [e2]
            obtain ⟨_, rfl, rfl, _⟩ := getR_ok z4
            exact rl_rowF D n g _ _ _ (by omega) (by omega)
          · rw [if_neg h17, if_neg h17]
            by_cases h18 : x = 18
            · rw [if_pos h18, if_pos h18]
              refine Rl.bind (rl_get 7 p1 o1) (fun p2 o2 z4 e2 => ?_) (fun h => by rw [dlenF_dead h, dlenE_dead h])
              rw [e2]
              obtain ⟨_, rfl, rfl, _⟩ := getR_ok z4
              exact rl_rowF D n g _ _ _ (by omega) (by omega)
            · rw [if_neg h18, if_neg h18]
              exact rl_rowF D n g _ _ _ (by omega) (by omega)
      · have e1 : ∀ k : List Int → St → List Int × St, (∀ l', k l' (dsym s D ⟨p, out, 0⟩).2 = (l', (dsym s D ⟨p, out, 0⟩).2)) → ∃ l', dlenX s k l (dsym s D ⟨p, out, 0⟩).1 (dsym s D ⟨p, out, 0⟩).2 = (l', (dsym s D ⟨p, out, 0⟩).2) := fun k hk => by
          unfold dlenX
          rw [dget_dead h, dget_dead h, dget_dead h, dfail_dead h, if_neg (show ¬ (l.length = 0 ∧ (dsym s D ⟨p, out, 0⟩).2.e = 0) from fun x => h x.2), hk, hk, hk, hk]
          split
          · exact ⟨_, rfl⟩
          · split
            · exact ⟨_, rfl⟩
            · split <;> exact ⟨_, rfl⟩
        obtain ⟨l', hl'⟩ := e1 (dlenF s D n g) (fun l' => dlenF_dead h _ _ _ _)
        rw [hl', dlenE_dead h]
    · rw [if_neg hl, if_neg (show ¬ (l.length < n ∧ (0 : Int) = 0) from fun h => hl h.1)]
      by_cases h1 : l.length = n
      · rw [if_pos h1]
        unfold dlenE
        rw [if_neg (by simp only; omega)]
        exact ⟨rfl, rfl⟩
      · rw [if_neg h1]
        unfold dlenE
        rw [if_pos (by simp only; omega)]
        exact rl_fail _ _ _
theorem rl_own : ∀ (k i : Nat) (own : List Int) (p : Nat) (out : List Nat), Rl (ownL s k i own p out) (down s k i own ⟨p, out, 0⟩).1 (down s k i own ⟨p, out, 0⟩).2
  | 0, _, own, p, out => ⟨rfl, rfl⟩
  | k + 1, i, own, p, out => by
    rw [ownL, down]
    refine (rl_get 3 p out).bind (fun p1 o1 _ e1 => ?_) (fun h => down_dead h _ _ _)
    rw [e1]
    exact rl_own k (i + 1) _ p1 o1
end
end Go.Proofs.Ytgjenpdppobpkaa.If
