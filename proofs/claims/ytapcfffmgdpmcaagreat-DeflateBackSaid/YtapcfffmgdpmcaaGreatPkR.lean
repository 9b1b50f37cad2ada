/-
  IpA, IpB, IpC, IpD, IpE, IpF, IpG, IpH, IpI, in one text.
-/
import Derived.Test.YtapcfffmgdpmcaaGreatPkQ
import Derived.Deep.DeepCutAuto
/-! IpA: inflate: the document's run, plain: every step as a function of the place, the bytes, the first error; it tells what InA tells. -/
namespace Go.Proofs.YtapcfffmgdpmcaaGreat.If
open Bt Hu

/-- the place read to, the bytes so far, the first error -/
structure St where
  p : Nat
  out : List Nat
  e : Int
def dfail (x : Int) (t : St) : St := if t.e = 0 then ⟨t.p, t.out, x⟩ else t
section
variable (s : ByteArray) (B : Nat)
def dget (n : Nat) (t : St) : Nat × St := if t.e ≠ 0 then (0, t) else if t.p + n ≤ 8 * s.size then (getv s false t.p n, ⟨t.p + n, t.out, 0⟩) else (0, ⟨t.p, t.out, 8⟩)
def dput (b : Nat) (t : St) : St := if t.e ≠ 0 then t else if B ≤ t.out.length then ⟨t.p, t.out, 3⟩ else ⟨t.p, t.out ++ [b], 0⟩
def dsym (D : List Int) (t : St) : Nat × St :=
  if t.e ≠ 0 then (0, t) else ((readN D (bit s false) (8 * s.size) t.p).1, ⟨(readN D (bit s false) (8 * s.size) t.p).2.2, t.out, (readN D (bit s false) (8 * s.size) t.p).2.1⟩)
def dstoreL : Nat → St → St
  | 0, t => t
  | n + 1, t => if t.e ≠ 0 then t else dstoreL n (dput B (dget s 8 t).1 (dget s 8 t).2)
def dstB2 (n m : Nat) (t : St) : St := dstoreL s B n (if (m : Int) ≠ 65535 - (n : Int) then dfail 4 t else t)
def dstA (n : Nat) (t : St) : St := dstB2 s B n (dget s 16 t).1 (dget s 16 t).2
def dstored (t : St) : St := dstA s B (dget s 16 ⟨t.p + gap t.p, t.out, t.e⟩).1 (dget s 16 ⟨t.p + gap t.p, t.out, t.e⟩).2
def dcopyL (back : Nat) : Nat → St → St
  | 0, t => t
  | n + 1, t => if t.e ≠ 0 then t else dcopyL back n (dput B (t.out.getD (t.out.length - back) 0) t)
def dagC (n d v : Nat) (t : St) : St := if t.e = 0 ∧ t.out.length < dstB d + v then dfail 4 t else dcopyL B (dstB d + v) n t
def dagB (n d : Nat) (t : St) : St := if t.e = 0 ∧ 29 < d then dfail 4 t else dagC B n d (dget s (dstX d) t).1 (dget s (dstX d) t).2
def dagA (D : List Int) (n : Nat) (t : St) : St := dagB s B n (dsym s D t).1 (dsym s D t).2
def dag (x : Nat) (D : List Int) (t : St) : St := dagA s B D (lenB x + (dget s (lenX x) t).1) (dget s (lenX x) t).2
def dcodX (D2 : List Int) (k : St → St) (x : Nat) (t : St) : St := if t.e ≠ 0 ∨ x = 256 then t else if x < 256 then k (dput B x t) else if 285 < x then dfail 4 t else k (dag s B x D2 t)
def dcodedF (D1 D2 : List Int) : Nat → St → St
  | 0, t => t
  | g + 1, t => if t.e ≠ 0 then t else dcodX s B D2 (dcodedF D1 D2 g) (dsym s D1 t).1 (dsym s D1 t).2
def dlenX (k : List Int → St → List Int × St) (l : List Int) (x : Nat) (t : St) : List Int × St :=
  if x = 16 then (if l.length = 0 ∧ t.e = 0 then (l, dfail 4 t) else k (l ++ List.replicate ((dget s 2 t).1 + 3) (if 0 < l.length then l.getD (l.length - 1) 0 else 0)) (dget s 2 t).2)
  else if x = 17 then k (l ++ List.replicate ((dget s 3 t).1 + 3) 0) (dget s 3 t).2
  else if x = 18 then k (l ++ List.replicate ((dget s 7 t).1 + 11) 0) (dget s 7 t).2
  else k (l ++ [(x : Int)]) t
def dlenF (D : List Int) (n : Nat) : Nat → List Int → St → List Int × St
  | 0, l, t => (l, t)
  | g + 1, l, t => if l.length < n ∧ t.e = 0 then dlenX s (dlenF D n g) l (dsym s D t).1 (dsym s D t).2 else (l, t)
def dlenE (n : Nat) (R : List Int × St) : List Int × St := (R.1, if n < R.1.length then dfail 4 R.2 else R.2)
def dlengths (D : List Int) (n : Nat) (t : St) : List Int × St := dlenE n (dlenF s D n (8 * s.size - t.p + 2) [] t)
def down : Nat → Nat → List Int → St → List Int × St
  | 0, _, own, t => (own, t)
  | k + 1, i, own, t => down k (i + 1) (own.set (ordN.getD i 0) ((dget s 3 t).1 : Int)) (dget s 3 t).2
def someN9 (l : List Int) : Nat := l.countP fun x => decide (0 < x)
def oneN9 (l : List Int) : Nat := l.countP fun x => decide (x = 1)
def distB (l : List Int) : Bool := decide ((stateN l).1 = 0) || (decide (someN9 l = 0) || (decide (someN9 l = 1) && decide (oneN9 l = 1)))
def badT (l : List Int) (a : Nat) : Bool := decide ((stateN (l.take a)).1 ≠ 0) || (decide (l.getD 256 0 = 0) || !distB (l.drop a))
def dtabL (a : Nat) (l : List Int) (t : St) : Option (List Int × List Int) × St :=
  if t.e ≠ 0 then (none, t) else if badT l a = true then (none, dfail 4 t) else (some (l.take a, l.drop a), t)
def dtabO (a b : Nat) (own : List Int) (t : St) : Option (List Int × List Int) × St :=
  if t.e ≠ 0 then (none, t) else if (stateN own).1 ≠ 0 then (none, dfail 4 t) else dtabL (a + 257) (dlengths s own (a + 257 + (b + 1)) t).1 (dlengths s own (a + 257 + (b + 1)) t).2
def dtabC (a b c : Nat) (t : St) : Option (List Int × List Int) × St := dtabO s a b (down s (c + 4) 0 (zers 19) (if t.e = 0 ∧ (286 < a + 257 ∨ 30 < b + 1) then dfail 4 t else t)).1 (down s (c + 4) 0 (zers 19) (if t.e = 0 ∧ (286 < a + 257 ∨ 30 < b + 1) then dfail 4 t else t)).2
def dtabB (a b : Nat) (t : St) : Option (List Int × List Int) × St := dtabC s a b (dget s 4 t).1 (dget s 4 t).2
def dtabA (a : Nat) (t : St) : Option (List Int × List Int) × St := dtabB s a (dget s 5 t).1 (dget s 5 t).2
def dtabs (t : St) : Option (List Int × List Int) × St := dtabA s (dget s 5 t).1 (dget s 5 t).2
def dcoded (D1 D2 : List Int) (t : St) : St := dcodedF s B D1 D2 (8 * s.size - t.p + 1) t
def ddyn (T : Option (List Int × List Int) × St) : St := match T with
  | (none, t) => t
  | (some (a, b), t) => dcoded s B a b t
def dblock (kind : Nat) (t : St) : St :=
  if kind = 0 then dstored s B t else if kind = 1 then dcoded s B fixL fixD t else if kind = 2 then ddyn s B (dtabs s t) else dfail 4 t
def drunB (k : St → St) (last kind : Nat) (t : St) : St := if t.e ≠ 0 then t else if last = 0 ∧ (dblock s B kind t).e = 0 then k (dblock s B kind t) else dblock s B kind t
def drunA (k : St → St) (last : Nat) (t : St) : St := drunB s B k last (dget s 2 t).1 (dget s 2 t).2
def drunF : Nat → St → St
  | 0, t => t
  | g + 1, t => drunA s B (drunF g) (dget s 1 t).1 (dget s 1 t).2
def drun : St := drunF s B (8 * s.size + 1) ⟨0, [], 0⟩
end
/-! ### behind an error nothing more is done -/
section
variable {s : ByteArray} {B : Nat} {t : St} (h : t.e ≠ 0)
include h
theorem dfail_dead (x : Int) : dfail x t = t := if_neg h
theorem dget_dead (n : Nat) : dget s n t = (0, t) := if_pos h
theorem dput_dead (b : Nat) : dput B b t = t := if_pos h
theorem dsym_dead (D : List Int) : dsym s D t = (0, t) := if_pos h
theorem dstoreL_dead (n : Nat) : dstoreL s B n t = t := by cases n with | zero => rfl | succ n => exact if_pos h
theorem dcopyL_dead (b n : Nat) : dcopyL B b n t = t := by cases n with | zero => rfl | succ n => exact if_pos h
theorem dstB2_dead (n m : Nat) : dstB2 s B n m t = t := by unfold dstB2; rw [dfail_dead h, ite_self, dstoreL_dead h]
theorem dstA_dead (n : Nat) : dstA s B n t = t := by unfold dstA; rw [dget_dead h, dstB2_dead h]
theorem dagC_dead (n d v : Nat) : dagC B n d v t = t := by unfold dagC; rw [if_neg (fun x => h x.1), dcopyL_dead h]
theorem dagB_dead (n d : Nat) : dagB s B n d t = t := by unfold dagB; rw [if_neg (fun x => h x.1), dget_dead h, dagC_dead h]
theorem dagA_dead (D : List Int) (n : Nat) : dagA s B D n t = t := by unfold dagA; rw [dsym_dead h, dagB_dead h]
theorem dcodedF_dead (D1 D2 : List Int) (g : Nat) : dcodedF s B D1 D2 g t = t := by cases g with | zero => rfl | succ n => exact if_pos h
theorem dcodX_dead (D2 : List Int) (k : St → St) (x : Nat) : dcodX s B D2 k x t = t := if_pos (.inl h)
theorem dlenF_dead (D : List Int) (n g : Nat) (l : List Int) : dlenF s D n g l t = (l, t) := by cases g with | zero => rfl | succ n => exact if_neg (fun x => h x.2)
theorem dlenE_dead (n : Nat) (l : List Int) : (dlenE n (l, t)).2 = t := by unfold dlenE; rw [dfail_dead h, ite_self]
theorem down_dead : ∀ (k i : Nat) (own : List Int), (down s k i own t).2 = t
  | 0, _, _ => rfl
  | k + 1, i, own => by rw [down, dget_dead h, down_dead k]
theorem dtabL_dead (a : Nat) (l : List Int) : dtabL a l t = (none, t) := if_pos h
theorem dtabO_dead (a b : Nat) (own : List Int) : dtabO s a b own t = (none, t) := if_pos h
theorem dtabC_dead (a b c : Nat) : dtabC s a b c t = (none, t) := by unfold dtabC; rw [if_neg (fun x => h x.1), down_dead h, dtabO_dead h]
theorem dtabB_dead (a b : Nat) : dtabB s a b t = (none, t) := by unfold dtabB; rw [dget_dead h, dtabC_dead h]
theorem dtabA_dead (a : Nat) : dtabA s a t = (none, t) := by unfold dtabA; rw [dget_dead h, dtabB_dead h]
theorem drunB_dead (k : St → St) (a b : Nat) : drunB s B k a b t = t := if_pos h
theorem drunA_dead (k : St → St) (a : Nat) : drunA s B k a t = t := by unfold drunA; rw [dget_dead h, drunB_dead h]
end
/-! ### it tells what InA tells -/
theorem live9 {α : Type} {p : Nat} {out : List Nat} {x y : α} : (if (⟨p, out, 0⟩ : St).e ≠ 0 then x else y) = y := if_neg (fun h => h rfl)
def Rl {α : Type} (R : Rs α) (a : α) (t : St) : Prop :=
  match R with
  | .ok b p o => a = b ∧ t = ⟨p, o, 0⟩
  | .er e o => e ≠ 0 ∧ t.e = e ∧ t.out = o
section
variable {s : ByteArray} {B : Nat}
theorem rl_get (n p : Nat) (out : List Nat) : Rl (getR s n p out) (dget s n ⟨p, out, 0⟩).1 (dget s n ⟨p, out, 0⟩).2 := by
  unfold getR dget
  rw [live9]
  by_cases h : p + n ≤ 8 * s.size
  · rw [if_pos h, if_pos h]; exact ⟨rfl, rfl⟩
  · rw [if_neg h, if_neg h]; exact ⟨by decide, rfl, rfl⟩
theorem rl_put (b p : Nat) (out : List Nat) : Rl (putR B b p out) () (dput B b ⟨p, out, 0⟩) := by
  unfold putR dput
  rw [live9]
  by_cases h : B ≤ out.length
  · rw [if_pos h, if_pos h]; exact ⟨by decide, rfl, rfl⟩
  · rw [if_neg h, if_neg h]; exact ⟨rfl, rfl⟩
theorem rl_sym (D : List Int) (p : Nat) (out : List Nat) : Rl (symR s D p out) (dsym s D ⟨p, out, 0⟩).1 (dsym s D ⟨p, out, 0⟩).2 := by
  unfold symR dsym
  rw [live9]
  by_cases h : (readN D (bit s false) (8 * s.size) p).2.1 = 0
  · rw [if_pos h]; exact ⟨rfl, by simp only [h]⟩
  · rw [if_neg h]; exact ⟨h, rfl, rfl⟩
/-- one step, then the others -/
theorem Rl.bind {α β : Type} {R : Rs α} {f : α → Nat → List Nat → Rs β} {a : α} {t : St} {b : β} {u : St} (h : Rl R a t) (hk : ∀ p o, R = .ok a p o → t = ⟨p, o, 0⟩ → Rl (f a p o) b u) (hd : t.e ≠ 0 → u = t) : Rl (R.bind f) b u := by
  cases R with
  | ok a' p o =>
    obtain ⟨rfl, rfl⟩ := h
    exact hk p o rfl rfl
  | er e o =>
    obtain ⟨he, h1, h2⟩ := h
    rw [hd (by rw [h1]; exact he)]
    exact ⟨he, h1, h2⟩
theorem rl_fail {α : Type} (a : α) (p : Nat) (out : List Nat) : Rl (.er 4 out : Rs α) a (dfail 4 ⟨p, out, 0⟩) := by
  unfold dfail; rw [if_pos rfl]; exact ⟨by decide, rfl, rfl⟩
theorem rl_storeL : ∀ (n p : Nat) (out : List Nat), Rl (storeL s B n p out) () (dstoreL s B n ⟨p, out, 0⟩)
  | 0, p, out => ⟨rfl, rfl⟩
  | n + 1, p, out => by
    rw [storeL, dstoreL, live9]
    refine (rl_get 8 p out).bind (fun p1 o1 _ e1 => ?_) (fun h => by rw [dput_dead h, dstoreL_dead h])
    rw [e1]
    refine (rl_put _ p1 o1).bind (fun p2 o2 _ e2 => ?_) (fun h => dstoreL_dead h _)
    rw [e2]
    exact rl_storeL n p2 o2
theorem rl_stored (p : Nat) (out : List Nat) : Rl (storedR s B p out) () (dstored s B ⟨p, out, 0⟩) := by
  unfold storedR dstored
  refine (rl_get 16 (p + gap p) out).bind (fun p1 o1 h1 e1 => ?_) (fun h => dstA_dead h _)
  simp only at e1 ⊢
  rw [e1]
  obtain ⟨hn, _⟩ := getR_ok h1
  have hn2 := getv8 s (p + gap p) 16 (by omega)
  rw [← hn] at hn2
  unfold dstA
  refine (rl_get 16 p1 o1).bind (fun p2 o2 h2 e2 => ?_) (fun h => dstB2_dead h _ _)
  rw [e2]
  generalize (dget s 16 ⟨p1, o1, 0⟩).1 = m
  generalize (dget s 16 ⟨p + gap p, out, 0⟩).1 = n at hn2 ⊢
  unfold dstB2
  by_cases hm : m = 65535 - n
  · rw [if_pos hm, if_neg (by omega)]
    exact rl_storeL n p2 o2
  · rw [if_neg hm, if_pos (by omega)]
    have : (dfail 4 ⟨p2, o2, 0⟩).e ≠ 0 := by unfold dfail; simp
    rw [dstoreL_dead this]
    exact rl_fail _ _ _
theorem rl_copyL (back : Nat) : ∀ (n p : Nat) (out : List Nat), Rl (copyL B back n p out) () (dcopyL B back n ⟨p, out, 0⟩)
  | 0, p, out => ⟨rfl, rfl⟩
  | n + 1, p, out => by
    rw [copyL, dcopyL, live9]
    refine (rl_put _ p out).bind (fun p1 o1 _ e1 => ?_) (fun h => dcopyL_dead h _ _)
    rw [e1]
    exact rl_copyL back n p1 o1
theorem rl_again (x : Nat) (D : List Int) (p : Nat) (out : List Nat) : Rl (againR s B x D p out) () (dag s B x D ⟨p, out, 0⟩) := by
  unfold againR dag
  refine (rl_get (lenX x) p out).bind (fun p1 o1 _ e1 => ?_) (fun h => dagA_dead h _ _)
  rw [e1]
  generalize (dget s (lenX x) ⟨p, out, 0⟩).1 = u
  unfold dagA
  refine (rl_sym D p1 o1).bind (fun p2 o2 _ e2 => ?_) (fun h => dagB_dead h _ _)
  rw [e2]
  generalize (dsym s D ⟨p1, o1, 0⟩).1 = d
  unfold dagB
  by_cases hd : d ≤ 29
  · rw [if_pos hd, if_neg (by omega)]
    refine (rl_get (dstX d) p2 o2).bind (fun p3 o3 _ e3 => ?_) (fun h => dagC_dead h _ _ _)
    rw [e3]
    generalize (dget s (dstX d) ⟨p2, o2, 0⟩).1 = v
    unfold dagC
    by_cases hb : dstB d + v ≤ o3.length
    · rw [if_pos hb, if_neg (show ¬ ((0 : Int) = 0 ∧ o3.length < dstB d + v) by omega)]
      exact rl_copyL _ _ p3 o3
    · rw [if_neg hb, if_pos (show (0 : Int) = 0 ∧ o3.length < dstB d + v by omega)]
      exact rl_fail _ _ _
  · rw [if_neg hd, if_pos (show (0 : Int) = 0 ∧ 29 < d by omega)]
    exact rl_fail _ _ _
theorem rl_codedF (D1 D2 : List Int) : ∀ (g p : Nat) (out : List Nat), p ≤ 8 * s.size → 8 * s.size + 1 ≤ p + g → Rl (codedF s B D1 D2 g p out) () (dcodedF s B D1 D2 g ⟨p, out, 0⟩)
  | 0, p, out, hp, hg => by omega
  | g + 1, p, out, hp, hg => by
    rw [codedF, dcodedF, live9]
    refine (rl_sym D1 p out).bind (fun p1 o1 z1 e1 => ?_) (fun h => dcodX_dead h _ _ _)
    rw [e1]
    obtain ⟨z2, z3, _, _⟩ := symR_ok z1
    clear z1
    generalize (dsym s D1 ⟨p, out, 0⟩).1 = x
    unfold dcodX
    by_cases h1 : x < 256
    · rw [if_pos h1, if_neg (by simp; omega), if_pos h1]
      refine (rl_put x p1 o1).bind (fun p2 o2 z4 e2 => ?_) (fun h => dcodedF_dead h _ _ _)
      rw [e2]
      obtain ⟨rfl, _, _⟩ := putR_ok z4
      exact rl_codedF D1 D2 g _ o2 (by omega) (by omega)
    · by_cases h2 : x = 256
      · rw [if_neg h1, if_pos h2, if_pos (.inr h2)]
        exact ⟨rfl, rfl⟩
      · by_cases h3 : x ≤ 285
        · rw [if_neg h1, if_neg h2, if_pos h3, if_neg (by simp; omega), if_neg h1, if_neg (by omega)]
          refine (rl_again x D2 p1 o1).bind (fun p2 o2 z4 e2 => ?_) (fun h => dcodedF_dead h _ _ _)
          rw [e2]
          have z5 := againR_ok z4
          exact rl_codedF D1 D2 g p2 o2 (by omega) (by omega)
        · rw [if_neg h1, if_neg h2, if_neg h3, if_neg (by simp; omega), if_neg h1, if_pos (by omega)]
          exact rl_fail _ _ _
theorem rl_coded (D1 D2 : List Int) (p : Nat) (out : List Nat) (hp : p ≤ 8 * s.size) : Rl (codedR s B D1 D2 p out) () (dcoded s B D1 D2 ⟨p, out, 0⟩) := rl_codedF D1 D2 _ p out hp (by omega)
/-- what is told of a row read by the document's way -/
theorem rl_rowF (D : List Int) (n : Nat) : ∀ (g : Nat) (l : List Int) (p : Nat) (out : List Nat), p ≤ 8 * s.size → 8 * s.size + 1 ≤ p + g → Rl (rowF s D n g l p out) (dlenE n (dlenF s D n g l ⟨p, out, 0⟩)).1 (dlenE n (dlenF s D n g l ⟨p, out, 0⟩)).2
  | 0, l, p, out, hp, hg => by omega
  | g + 1, l, p, out, hp, hg => by
    rw [rowF, dlenF]
    by_cases hl : l.length < n
    · rw [if_pos hl, if_pos ⟨hl, rfl⟩]
      refine Rl.bind (a := (dsym s D ⟨p, out, 0⟩).1) (t := (dsym s D ⟨p, out, 0⟩).2) (rl_sym D p out) (fun p1 o1 z1 e1 => ?_) (fun h => ?_)
      · rw [e1]
        obtain ⟨z2, z3, _, _⟩ := symR_ok z1
        clear z1
        generalize (dsym s D ⟨p, out, 0⟩).1 = x
        unfold dlenX
        by_cases h16 : x = 16
        · rw [if_pos h16, if_pos h16]
          by_cases h0 : l.length = 0
          · rw [if_pos h0, if_pos ⟨h0, rfl⟩]
            unfold dlenE
            rw [if_neg (by simp only; omega)]
            exact rl_fail _ _ _
          · rw [if_neg h0, if_neg (show ¬ (l.length = 0 ∧ (0 : Int) = 0) from fun h => h0 h.1), if_pos (show 0 < l.length by omega)]
            refine Rl.bind (rl_get 2 p1 o1) (fun p2 o2 z4 e2 => ?_) (fun h => by rw [dlenF_dead h, dlenE_dead h])
            rw [e2]
            obtain ⟨_, rfl, rfl, _⟩ := getR_ok z4
            exact rl_rowF D n g _ _ _ (by omega) (by omega)
        · rw [if_neg h16, if_neg h16]
          by_cases h17 : x = 17
          · rw [if_pos h17, if_pos h17]
            refine Rl.bind (rl_get 3 p1 o1) (fun p2 o2 z4 e2 => ?_) (fun h => by rw [dlenF_dead h, dlenE_dead h])
            rw [e2]
            obtain ⟨_, rfl, rfl, _⟩ := getR_ok z4
            exact rl_rowF D n g _ _ _ (by omega) (by omega)
          · rw [if_neg h17, if_neg h17]
            by_cases h18 : x = 18
            · rw [if_pos h18, if_pos h18]
              refine Rl.bind (rl_get 7 p1 o1) (fun p2 o2 z4 e2 => ?_) (fun h => by rw [dlenF_dead h, dlenE_dead h])
              rw [e2]
              obtain ⟨_, rfl, rfl, _⟩ := getR_ok z4
              exact rl_rowF D n g _ _ _ (by omega) (by omega)
            · rw [if_neg h18, if_neg h18]
              exact rl_rowF D n g _ _ _ (by omega) (by omega)
      · have e1 : ∀ k : List Int → St → List Int × St, (∀ l', k l' (dsym s D ⟨p, out, 0⟩).2 = (l', (dsym s D ⟨p, out, 0⟩).2)) → ∃ l', dlenX s k l (dsym s D ⟨p, out, 0⟩).1 (dsym s D ⟨p, out, 0⟩).2 = (l', (dsym s D ⟨p, out, 0⟩).2) := fun k hk => by
          unfold dlenX
          rw [dget_dead h, dget_dead h, dget_dead h, dfail_dead h, if_neg (show ¬ (l.length = 0 ∧ (dsym s D ⟨p, out, 0⟩).2.e = 0) from fun x => h x.2), hk, hk, hk, hk]
          split
          · exact ⟨_, rfl⟩
          · split
            · exact ⟨_, rfl⟩
            · split <;> exact ⟨_, rfl⟩
        obtain ⟨l', hl'⟩ := e1 (dlenF s D n g) (fun l' => dlenF_dead h _ _ _ _)
        rw [hl', dlenE_dead h]
    · rw [if_neg hl, if_neg (show ¬ (l.length < n ∧ (0 : Int) = 0) from fun h => hl h.1)]
      by_cases h1 : l.length = n
      · rw [if_pos h1]
        unfold dlenE
        rw [if_neg (by simp only; omega)]
        exact ⟨rfl, rfl⟩
      · rw [if_neg h1]
        unfold dlenE
        rw [if_pos (by simp only; omega)]
        exact rl_fail _ _ _
theorem rl_own : ∀ (k i : Nat) (own : List Int) (p : Nat) (out : List Nat), Rl (ownL s k i own p out) (down s k i own ⟨p, out, 0⟩).1 (down s k i own ⟨p, out, 0⟩).2
  | 0, _, own, p, out => ⟨rfl, rfl⟩
  | k + 1, i, own, p, out => by
    rw [ownL, down]
    refine (rl_get 3 p out).bind (fun p1 o1 _ e1 => ?_) (fun h => down_dead h _ _ _)
    rw [e1]
    exact rl_own k (i + 1) _ p1 o1
end
end Go.Proofs.YtapcfffmgdpmcaaGreat.If

/-! IpB: inflate: the document's run, plain: tables, blocks, all. -/
namespace Go.Proofs.YtapcfffmgdpmcaaGreat.If
open Bt Hu

theorem sum_some : ∀ l : List Int, (∀ x ∈ l, 0 ≤ x) → (someN9 l : Int) ≤ l.sum ∧ oneN9 l ≤ someN9 l ∧ (someN9 l = 0 → l.sum = 0) ∧ (someN9 l = 1 → oneN9 l = 1 → l.sum = 1) ∧ (l.sum = 1 → oneN9 l = 1)
  | [], _ => by simp [someN9, oneN9]
  | x :: l, h => by
    obtain ⟨h1, h2, h3, h4, h5⟩ := sum_some l (fun y hy => h y (by simp [hy]))
    have hx := h x (by simp)
    have e1 : someN9 (x :: l) = someN9 l + if 0 < x then 1 else 0 := by unfold someN9; rw [List.countP_cons]; simp
    have e2 : oneN9 (x :: l) = oneN9 l + if x = 1 then 1 else 0 := by unfold oneN9; rw [List.countP_cons]; simp
    have e3 : (x :: l).sum = x + l.sum := by simp
    rw [e1, e2, e3]
    by_cases a : 0 < x
    · rw [if_pos a]
      by_cases b : x = 1
      · rw [if_pos b]
        refine ⟨by omega, by omega, by omega, fun u _ => ?_, fun u => ?_⟩
        · have := h3 (by omega); omega
        · have : someN9 l = 0 := by omega
          omega
      · rw [if_neg b]
        refine ⟨by omega, by omega, by omega, fun u v => ?_, fun u => by omega⟩
        omega
    · rw [if_neg a, if_neg (by omega)]
      obtain rfl : x = 0 := by omega
      simp only [Nat.add_zero, Int.zero_add]
      exact ⟨h1, h2, h3, h4, h5⟩
theorem few_dist (l : List Int) (h : ∀ x ∈ l, 0 ≤ x) : fewB l = (decide (someN9 l = 0) || (decide (someN9 l = 1) && decide (oneN9 l = 1))) := by
  obtain ⟨h1, h2, h3, h4, h5⟩ := sum_some l h
  unfold fewB
  rw [Bool.eq_iff_iff]
  simp only [decide_eq_true_eq, Bool.or_eq_true, Bool.and_eq_true]
  constructor
  · intro hs
    by_cases h0 : someN9 l = 0
    · exact .inl h0
    · have := h5 (by omega)
      exact .inr ⟨by omega, this⟩
  · rintro (h0 | ⟨ha, hb⟩)
    · rw [h3 h0]; decide
    · rw [h4 ha hb]; decide
def Small (l : List Int) : Prop := ∀ x ∈ l, 0 ≤ x ∧ x ≤ 15
theorem small_bad {l : List Int} (h : Small l) (hl : l.length ≤ 288) : badL l = false := by
  unfold badL
  rw [Bool.or_eq_false_iff, List.any_eq_false]
  refine ⟨decide_eq_false (by omega), fun x hx => ?_⟩
  have := h x hx
  simp
  omega
theorem small_full {l : List Int} (h : Small l) (hl : l.length ≤ 288) : fullB l = decide ((stateN l).1 = 0) := by
  have : (stateN l).2 = 0 := by unfold stateN; rw [small_bad h hl]; rfl
  unfold fullB
  rw [Bool.eq_iff_iff]
  simp only [decide_eq_true_eq]
  constructor
  · intro h; rw [h]
  · intro h; exact Prod.ext h this
theorem Small.take {l : List Int} (h : Small l) (n : Nat) : Small (l.take n) := fun x hx => h x (List.mem_of_mem_take hx)
theorem Small.drop {l : List Int} (h : Small l) (n : Nat) : Small (l.drop n) := fun x hx => h x (List.mem_of_mem_drop hx)
theorem Small.app {l m : List Int} (h : Small l) (h' : Small m) : Small (l ++ m) := fun x hx => (List.mem_append.1 hx).elim (h x) (h' x)
theorem Small.rep (k : Nat) {x : Int} (hx : 0 ≤ x ∧ x ≤ 15) : Small (List.replicate k x) := fun y hy => by rw [(List.mem_replicate.1 hy).2]; exact hx
theorem Small.get {l : List Int} (h : Small l) (k : Nat) : 0 ≤ l.getD k 0 ∧ l.getD k 0 ≤ 15 := by
  rw [List.getD_eq_getElem?_getD]
  cases hx : l[k]? with
  | none => simp
  | some x => exact h x (List.mem_of_getElem? hx)
theorem bad_dyn {l : List Int} {a : Nat} (h : Small l) (ha : a ≤ 286) (hl : l.length ≤ a + 30) : badT l a = !dynB l a := by
  have h1 : (l.take a).length ≤ 288 := by rw [List.length_take]; omega
  have h2 : (l.drop a).length ≤ 288 := by rw [List.length_drop]; omega
  have hg := h.get 256
  unfold badT dynB distB
  rw [small_full (h.take a) h1, small_full (h.drop a) h2, few_dist _ (fun x hx => (h.drop a x hx).1)]
  have e : decide (l.getD 256 0 = 0) = !decide (0 < l.getD 256 0) := by
    by_cases hz : l.getD 256 0 = 0
    · rw [hz]; rfl
    · rw [decide_eq_false hz, decide_eq_true (show 0 < l.getD 256 0 by omega)]; rfl
  rw [e]
  have e2 : decide ((stateN (l.take a)).1 ≠ 0) = !decide ((stateN (l.take a)).1 = 0) := by simp
  rw [e2]
  simp only [Bool.not_and, Bool.not_or, Bool.or_assoc]
section
variable {s : ByteArray} {B : Nat}
theorem own_small : ∀ (k i : Nat) (own : List Int) (p : Nat) (out : List Nat) {a : List Int} {q : Nat} {o : List Nat}, Small own → ownL s k i own p out = .ok a q o → Small a
  | 0, i, own, p, out, a, q, o, hs, h => by rw [ownL] at h; injection h with h1 _ _; rw [← h1]; exact hs
  | k + 1, i, own, p, out, a, q, o, hs, h => by
    rw [ownL] at h
    cases h1 : getR s 3 p out with
    | er e o1 => rw [h1, Rs.bind_er] at h; cases h
    | ok b p1 o1 =>
      obtain ⟨rfl, rfl, rfl, _⟩ := getR_ok h1
      rw [h1, Rs.bind_ok] at h
      refine own_small k _ _ _ _ (fun x hx => ?_) h
      rcases List.mem_or_eq_of_mem_set hx with hx | rfl
      · exact hs x hx
      · have := getv_lt s false p 3
        omega
theorem row_small {D : List Int} {n : Nat} (hD : D.length ≤ 19) : ∀ (g : Nat) (l : List Int) (p : Nat) (out : List Nat) {a : List Int} {q : Nat} {o : List Nat}, Small l → rowF s D n g l p out = .ok a q o → Small a
  | 0, l, p, out, a, q, o, _, h => by rw [rowF] at h; cases h
  | g + 1, l, p, out, a, q, o, hs, h => by
    have fwd : ∀ (k p1 : Nat) (o1 : List Nat) (f : Nat → List Int), (∀ k, Small (f k)) → ((getR s k p1 o1).bind fun k p out => rowF s D n g (f k) p out) = .ok a q o → Small a := fun k p1 o1 f hf h => by
      cases h2 : getR s k p1 o1 with
      | er e o => rw [h2, Rs.bind_er] at h; cases h
      | ok k p2 o2 =>
        rw [h2, Rs.bind_ok] at h
        exact row_small hD g _ _ _ (hf _) h
    rw [rowF] at h
    split at h
    · cases h1 : symR s D p out with
      | er e o => rw [h1, Rs.bind_er] at h; cases h
      | ok x p1 o1 =>
        obtain ⟨_, _, hx, rfl⟩ := symR_ok h1
        rw [h1, Rs.bind_ok] at h
        split at h
        · split at h
          · cases h
          · exact fwd 2 p1 o1 _ (fun k => hs.app (Small.rep _ (hs.get _))) h
        · split at h
          · exact fwd 3 p1 o1 _ (fun k => hs.app (Small.rep _ (by omega))) h
          · split at h
            · exact fwd 7 p1 o1 _ (fun k => hs.app (Small.rep _ (by omega))) h
            · refine row_small hD g _ _ _ (hs.app (fun y hy => ?_)) h
              rw [List.mem_singleton.1 hy]
              omega
    · split at h
      · injection h with h1 _ _
        rw [← h1]; exact hs
      · cases h
theorem rl_dyn (p : Nat) (out : List Nat) : Rl (dynR s B p out) () (ddyn s B (dtabs s ⟨p, out, 0⟩)) := by
  unfold dynR dtabs
  refine (rl_get 5 p out).bind (fun p1 o1 z1 e1 => ?_) (fun h => by rw [dtabA_dead h]; rfl)
  rw [e1]
  obtain ⟨_, _, _, _⟩ := getR_ok z1
  clear z1
  generalize (dget s 5 ⟨p, out, 0⟩).1 = a
  unfold dtabA
  refine (rl_get 5 p1 o1).bind (fun p2 o2 z1 e2 => ?_) (fun h => by rw [dtabB_dead h]; rfl)
  rw [e2]
  clear z1
  generalize (dget s 5 ⟨p1, o1, 0⟩).1 = b
  unfold dtabB
  refine (rl_get 4 p2 o2).bind (fun p3 o3 z1 e3 => ?_) (fun h => by rw [dtabC_dead h]; rfl)
  rw [e3]
  obtain ⟨_, _, _, hp3⟩ := getR_ok z1
  generalize (dget s 4 ⟨p2, o2, 0⟩).1 = c at z1 ⊢
  have hp3 : p3 ≤ 8 * s.size := by obtain ⟨_, h, _, h'⟩ := getR_ok z1; omega
  clear z1
  unfold dtabC
  by_cases hab : a + 257 ≤ 286 ∧ b + 1 ≤ 30
  · rw [if_pos hab, if_neg (by omega)]
    refine (rl_own (c + 4) 0 (zers 19) p3 o3).bind (fun p4 o4 z4 e4 => ?_) (fun h => by rw [dtabO_dead h]; rfl)
    rw [e4]
    obtain ⟨hp4, hol⟩ := own_ok' _ _ _ _ _ hp3 z4
    have hos := own_small _ _ _ _ _ (Small.rep 19 (by omega)) z4
    clear z4
    generalize (down s (c + 4) 0 (zers 19) ⟨p3, o3, 0⟩).1 = own at hol hos ⊢
    have hol : own.length = 19 := by rw [hol]; rfl
    unfold dtabO dynK
    rw [live9, small_full hos (by omega)]
    by_cases hf : (stateN own).1 = 0
    · rw [if_pos (decide_eq_true hf), if_neg (fun h => h hf)]
      refine (rl_rowF own _ _ [] p4 o4 hp4 (by omega)).bind (fun p5 o5 z5 e5 => ?_) (fun h => by unfold dlengths; rw [dtabL_dead h]; rfl)
      unfold dlengths
      simp only at e5 ⊢
      rw [e5]
      have hls := row_small (by omega) _ _ _ _ (fun x hx => by cases hx) z5
      have hll := rowF_ok _ _ _ _ hp4 (by omega) (fun x hx => by cases hx) z5
      generalize (dlenE (a + 257 + (b + 1)) (dlenF s own (a + 257 + (b + 1)) (8 * s.size - p4 + 2) [] ⟨p4, o4, 0⟩)).1 = l at hls hll ⊢
      unfold dtabL dynT
      rw [live9, bad_dyn hls (by omega) (by rw [hll.1]; omega)]
      cases hd : dynB l (a + 257) with
      | true =>
        rw [if_pos rfl, if_neg (show ¬ ((!true) = true) by decide)]
        exact rl_coded _ _ p5 o5 hll.2.2.1
      | false =>
        rw [if_neg (show ¬ (false = true) by decide), if_pos (show (!false) = true from rfl)]
        exact rl_fail _ _ _
    · rw [if_neg (by simpa using hf), if_pos hf]
      exact rl_fail _ _ _
  · rw [if_neg hab, if_pos ⟨rfl, by omega⟩]
    have : (dfail 4 ⟨p3, o3, 0⟩).e ≠ 0 := by unfold dfail; simp
    have hd : dtabO s a b (down s (c + 4) 0 (zers 19) (dfail 4 ⟨p3, o3, 0⟩)).1 (down s (c + 4) 0 (zers 19) (dfail 4 ⟨p3, o3, 0⟩)).2 = (none, dfail 4 ⟨p3, o3, 0⟩) := by
      rw [down_dead this, dtabO_dead this]
    rw [hd]
    exact rl_fail _ _ _
theorem rl_block (kind p : Nat) (out : List Nat) (hp : p ≤ 8 * s.size) : Rl (blockR s B kind p out) () (dblock s B kind ⟨p, out, 0⟩) := by
  unfold blockR dblock
  by_cases h0 : kind = 0
  · rw [if_pos h0, if_pos h0]; exact rl_stored p out
  · rw [if_neg h0, if_neg h0]
    by_cases h1 : kind = 1
    · rw [if_pos h1, if_pos h1]; exact rl_coded _ _ p out hp
    · rw [if_neg h1, if_neg h1]
      by_cases h2 : kind = 2
      · rw [if_pos h2, if_pos h2, dyn_eq]; exact rl_dyn p out
      · rw [if_neg h2, if_neg h2]; exact rl_fail _ _ _
theorem rl_all : ∀ (g p : Nat) (out : List Nat), p ≤ 8 * s.size → 8 * s.size + 1 ≤ p + g → Rl (allF s B g p out) () (drunF s B g ⟨p, out, 0⟩)
  | 0, p, out, hp, hg => by omega
  | g + 1, p, out, hp, hg => by
    rw [allF, drunF]
    refine (rl_get 1 p out).bind (fun p1 o1 z1 e1 => ?_) (fun h => drunA_dead h _ _)
    rw [e1]
    obtain ⟨_, hp1, _, hp1'⟩ := getR_ok z1
    clear z1
    generalize (dget s 1 ⟨p, out, 0⟩).1 = last
    unfold drunA
    refine (rl_get 2 p1 o1).bind (fun p2 o2 z2 e2 => ?_) (fun h => drunB_dead h _ _ _)
    rw [e2]
    obtain ⟨_, hp2, _, hp2'⟩ := getR_ok z2
    clear z2
    generalize (dget s 2 ⟨p1, o1, 0⟩).1 = kind
    unfold drunB
    rw [live9]
    have hb := rl_block (s := s) (B := B) kind p2 o2 (by omega)
    refine hb.bind (fun p3 o3 z3 e3 => ?_) (fun h => by rw [if_neg (fun x => h x.2)])
    rw [e3]
    have hp3 := blockR_ok z3
    by_cases hl : last = 0
    · rw [if_pos hl, if_pos ⟨hl, rfl⟩]
      exact rl_all g p3 o3 (by omega) (by omega)
    · rw [if_neg hl, if_neg (fun x => hl x.1)]
      exact ⟨rfl, rfl⟩
end
/-- what the document's run tells is what Run tells -/
theorem drun_runV (s : ByteArray) (B : Nat) : runV s B = if (drun s B).e ≠ 0 then .tuple #[.string (txt (drun s B).out), .int .i64 0, .int .i64 (drun s B).e] else .tuple #[.string (txt (drun s B).out), .int .i64 (((drun s B).p + 7) / 8 : Nat), .int .i64 0] := by
  have h := rl_all (s := s) (B := B) (8 * s.size + 1) 0 [] (by omega) (by omega)
  have h : Rl (runR s B) () (drun s B) := h
  unfold runV
  cases hr : runR s B with
  | ok a p o =>
    rw [hr] at h
    obtain ⟨_, h⟩ := h
    rw [h, if_neg (by simp)]
  | er e o =>
    rw [hr] at h
    obtain ⟨h0, h1, h2⟩ := h
    rw [h1, h2, if_pos h0]
end Go.Proofs.YtapcfffmgdpmcaaGreat.If

/-! IpC: inflate: the document's run in memory; fail, get, put, symbol walked. -/
namespace Go.Proofs.YtapcfffmgdpmcaaGreat.If
open Go.RowKit Bt Hu

def runD (rb : Nat) (v : Value) (B : Nat) (e : Int) : Obj := .cells #[.pointer (some ⟨rb, 0, none⟩), v, .int .i64 B, .int .i64 e] 66
/-- block ub is the document's run, but for its reader, which is block rb -/
def oDR (ub rb : Nat) (F : List Nat) (B : Nat) (out : List Nat) (e : Int) : Ob where
  F := F
  P := fun w => ∃ v, w.heap[ub]? = some (runD rb v B e) ∧ w.ownsRow 0 5 1 v out.length (out.map b8) ∧ F = ub :: v.ownBlock.toList ∧ v.ownBlock ≠ some ub
  ok := fun h hx hS => by
    obtain ⟨v, h1, h2, rfl, h4⟩ := h
    exact ⟨v, hx.keep h1 (hS ub (by simp)), ownsRow_ext h2 hx (fun g hg => hS g (by simp [hg])), rfl, h4⟩
  lt := fun h => by
    obtain ⟨v, h1, h2, rfl, _⟩ := h
    intro k hk
    rcases List.mem_cons.1 hk with rfl | hk
    · exact lt_of_block h1
    · exact (h2.lt k (by simpa using hk)).2
/-- the run and its reader, and other objects L -/
def DS (w0 w : World) (ub rb : Nat) (Fr' : List Nat) (s : ByteArray) (B : Nat) (t : St) (L : List Ob) : Prop :=
  t.p ≤ 8 * s.size ∧ ∃ F, Sep w0 w (oRf rb Fr' (allBits s false (8 * s.size)) t.p :: oDR ub rb F B t.out t.e :: L)
section
variable {w0 w : World} {ub rb : Nat} {Fr' : List Nat} {s : ByteArray} {B : Nat} {t : St} {L : List Ob}
theorem DS.cells (h : DS w0 w ub rb Fr' s B t L) :
    ∃ ao cap, w.cell? ⟨ub, 0, none⟩ = some (.pointer (some ⟨rb, 0, none⟩)) ∧ w.cell? ⟨ub, 1, none⟩ = some (.slice ao t.out.length cap) ∧ w.cell? ⟨ub, 2, none⟩ = some (.int .i64 B) ∧ w.cell? ⟨ub, 3, none⟩ = some (.int .i64 t.e) ∧ w.frozen? ⟨ub, 1, none⟩ = false ∧ w.frozen? ⟨ub, 3, none⟩ = false ∧ w.ownsRow 0 5 1 (.slice ao t.out.length cap) t.out.length (t.out.map b8) := by
  obtain ⟨_, F, S⟩ := h
  obtain ⟨v, h1, h2, _, _⟩ := S.get 1 rfl
  obtain ⟨ao, cap, rfl⟩ := own_slice h2
  exact ⟨ao, cap, cellOf h1 0, cellOf h1 1, cellOf h1 2, cellOf h1 3, freeOf h1 1, freeOf h1 3, h2⟩
theorem DS.quiet {w' : World} (h : DS w0 w ub rb Fr' s B t L) (hx : Ext [] w w') : DS w0 w' ub rb Fr' s B t L := by
  obtain ⟨hp, F, S⟩ := h
  exact ⟨hp, F, S.quiet hx⟩
theorem DS.ext (h : DS w0 w ub rb Fr' s B t L) : Ext [] w0 w := by
  obtain ⟨_, F, S⟩ := h
  exact S.ext
theorem DS.obj (h : DS w0 w ub rb Fr' s B t L) {i : Nat} {o : Ob} (hi : L[i]? = some o) : o.P w := by
  obtain ⟨_, F, S⟩ := h
  exact S.get (i + 2) (by simpa using hi)
theorem DS.e_eq {t' : St} (h : DS w0 w ub rb Fr' s B t L) (e : t = t') : DS w0 w ub rb Fr' s B t' L := e ▸ h
set_option maxRecDepth 100000 in
set_option maxHeartbeats 4000000 in
theorem d_fail (x : Int) (S : DS w0 w ub rb Fr' s B t L) :
    Calls Tryz.prog 31 #[.pointer (some ⟨ub, 0, none⟩), .int .i64 x] w fun e w' => e = .returned (.tuple #[]) ∧ DS w0 w' ub rb Fr' s B (dfail x t) L := by
  obtain ⟨ao, cap, _, _, _, c3, _, f3, _⟩ := S.cells
  by_cases h0 : t.e = 0
  · have hR : dfail x t = ⟨t.p, t.out, x⟩ := if_pos h0
    obtain ⟨hp, F, S⟩ := S
    obtain ⟨v, h1, h2, hF, h4⟩ := S.get 1 rfl
    have hfin : (oDR ub rb F B t.out x).P (w.setCell ⟨ub, 3, none⟩ (.int .i64 x)) := by
      refine ⟨v, ?_, ownsRow_setCell_other h2 (fun e => h4 (by simpa using e)) _, hF, h4⟩
      rw [heap_setCell_same h1]
      simp [runD]
    have hu : ub ∈ F := by rw [hF]; simp
    have HF := Lib.hid (S.upd 1 (oDR ub rb F B t.out x) rfl ((Ext.refl F w).setCell ⟨ub, 3, none⟩ (.int .i64 x) (.inl hu)) (Fr.refl _ _) hfin)
    have HR := Lib.hid (⟨hR, hp⟩ : _ ∧ _)
    rw [h0] at c3
    clear S h1 h2 hF h4 hfin hu hR h0
    go_enter Tryz.func31, Tryz.ntmps31
    go_wp2_with fail
    go_end0
    refine ⟨rfl, ?_⟩
    rw [HR.out.1]
    exact ⟨HR.out.2, F, HF.out⟩
  · have hb : (t.e == 0) = false := beq_eq_false_iff_ne.2 h0
    have HS := Lib.hid (show DS w0 w ub rb Fr' s B (dfail x t) L by rw [dfail_dead h0]; exact S)
    generalize t.e = te at *
    clear S h0
    go_enter Tryz.func31, Tryz.ntmps31
    go_wp2_with fail
    go_end0
    exact ⟨rfl, HS.out⟩
theorem dget_lt (n : Nat) (hn : n ≤ 16) (t : St) : (dget s n t).1 < 65536 := by
  unfold dget
  split
  · exact Nat.zero_lt_succ _
  · split
    · exact getv8 s _ n hn
    · exact Nat.zero_lt_succ _
theorem dget_lt2 (n : Nat) (t : St) : (dget s n t).1 < 2 ^ n := by
  have : 0 < 2 ^ n := Nat.two_pow_pos n
  unfold dget
  split
  · exact this
  · split
    · exact getv_lt s false _ n
    · exact this
set_option maxRecDepth 100000 in
set_option maxHeartbeats 4000000 in
theorem d_get (n : Nat) (hn : n ≤ 16) (hs : s.size ≤ 1048576) (S : DS w0 w ub rb Fr' s B t L) :
    Calls Tryz.prog 25 #[.pointer (some ⟨ub, 0, none⟩), .int .i64 n] w fun e w' => e = .returned (.int .i64 (dget s n t).1) ∧ DS w0 w' ub rb Fr' s B (dget s n t).2 L := by
  obtain ⟨ao, cap, c0, _, _, c3, _, _, _⟩ := S.cells
  have HS := Lib.hid S
  clear S
  by_cases h0 : t.e = 0
  · have hb : (t.e != 0) = false := by rw [h0]; rfl
    by_cases hm : t.p + n ≤ 8 * s.size
    · have hR : dget s n t = (getv s false t.p n, ⟨t.p + n, t.out, 0⟩) := by unfold dget; rw [if_neg (fun h => h h0), if_pos hm]
      rw [hR]
      have hv := getv8 s t.p n hn
      have HG := Lib.hid ((by
        obtain ⟨hp, F, S⟩ := HS.out
        refine (sRfGetL 0 (n := n) S rfl hs (by omega) hm).mono ?_
        rintro e w' ⟨rfl, S⟩
        refine ⟨rfl, hm, F, ?_⟩
        rw [h0] at S
        exact S) : Calls Tryz.prog 53 #[.pointer (some ⟨rb, 0, none⟩), .int .i64 n, .bool false] w fun e w' => e = .returned (.tuple #[.int .u32 (getv s false t.p n), .int .i64 0]) ∧ DS w0 w' ub rb Fr' s B ⟨t.p + n, t.out, 0⟩ L)
      generalize getv s false t.p n = v at *
      generalize t.e = te at *
      subst h0
      clear hR HS hb hm
      go_enter Tryz.func25, Tryz.ntmps25
      go_wp2_with fail
      refine HG.out.mono ?_
      rintro e w1 ⟨rfl, S⟩
      have HS := Lib.hid S
      clear S HG c0 c3
      go_wp2_with fail
      go_ret
      exact ⟨rfl, HS.out⟩
    · have hR : dget s n t = (0, ⟨t.p, t.out, 8⟩) := by unfold dget; rw [if_neg (fun h => h h0), if_neg hm]
      rw [hR]
      have HG := Lib.hid ((by
        obtain ⟨hp, F, S⟩ := HS.out
        refine (sRfGetMoreL 0 (n := n) S rfl hs hp (by omega) (by omega)).mono ?_
        rintro e w' ⟨rfl, S⟩
        exact ⟨rfl, hp, F, S⟩) : Calls Tryz.prog 53 #[.pointer (some ⟨rb, 0, none⟩), .int .i64 n, .bool false] w fun e w' => e = .returned (.tuple #[.int .u32 0, .int .i64 8]) ∧ DS w0 w' ub rb Fr' s B t L)
      have HQ := Lib.hid (show dfail 8 t = ⟨t.p, t.out, 8⟩ from if_pos h0)
      have HF := Lib.hid (fun w1 (S : DS w0 w1 ub rb Fr' s B t L) => d_fail 8 S)
      rw [h0] at c3
      clear hR HS hb hm h0
      go_enter Tryz.func25, Tryz.ntmps25
      go_wp2_with fail
      refine HG.out.mono ?_
      rintro e w1 ⟨rfl, S⟩
      have HS := Lib.hid S
      clear S HG c0 c3
      go_wp2_with fail
      refine (HF.out w1 HS.out).mono ?_
      rintro e w2 ⟨rfl, S⟩
      rw [HQ.out] at S
      have HS := Lib.hid S
      clear S HF
      go_wp2_with fail
      go_ret
      exact ⟨rfl, HS.out⟩
  · have hb : (t.e != 0) = true := bne_iff_ne.2 h0
    rw [dget_dead h0]
    generalize t.e = te at *
    clear h0
    go_enter Tryz.func25, Tryz.ntmps25
    go_wp2_with fail
    go_ret
    exact ⟨rfl, HS.out⟩
theorem rdD_zero (l : List Int) (bt : Nat → Nat) (N : Nat) : ∀ g k code p, (rdD l bt N g k code p).2.1 ≠ 0 → (rdD l bt N g k code p).1 = 0
  | 0, k, code, p, _ => rfl
  | g + 1, k, code, p, h => by
    rw [rdD] at h ⊢
    split at h
    · rename_i h1
      rw [if_pos h1]
      cases hf : fndD l k (2 * code + bt p) with
      | some x => rw [hf] at h; exact absurd rfl h
      | none => rw [hf] at h; exact rdD_zero l bt N g _ _ _ h
    · rename_i h1
      rw [if_neg h1]
theorem dsym_zero (D : List Int) (t : St) (h : (dsym s D t).2.e ≠ 0) : (dsym s D t).1 = 0 := by
  unfold dsym at h ⊢
  by_cases h0 : t.e ≠ 0
  · rw [if_pos h0]
  · rw [if_neg h0] at h ⊢
    simp only at h ⊢
    rw [read_doc] at h ⊢
    exact rdD_zero _ _ _ _ _ _ _ h
theorem rdD_len (l : List Int) (bt : Nat → Nat) (N : Nat) : ∀ g k code p, (rdD l bt N g k code p).1 < l.length ∨ (rdD l bt N g k code p).1 = 0
  | 0, k, code, p => .inr rfl
  | g + 1, k, code, p => by
    rw [rdD]
    split
    · cases hf : fndD l k (2 * code + bt p) with
      | some x =>
        refine .inl ?_
        unfold fndD at hf
        exact List.mem_range.1 (List.mem_of_find?_eq_some hf)
      | none => exact rdD_len l bt N g _ _ _
    · exact .inr rfl
theorem dsym_lt (D : List Int) (t : St) : (dsym s D t).1 < D.length ∨ (dsym s D t).1 = 0 := by
  unfold dsym
  split
  · exact .inr rfl
  · simp only
    rw [read_doc]
    exact rdD_len _ _ _ _ _ _ _
theorem rdD_place (l : List Int) (bt : Nat → Nat) (N : Nat) : ∀ g k code p, p ≤ N → p ≤ (rdD l bt N g k code p).2.2 ∧ (rdD l bt N g k code p).2.2 ≤ N
  | 0, k, code, p, h => ⟨Nat.le_refl _, h⟩
  | g + 1, k, code, p, h => by
    rw [rdD]
    by_cases hp : p < N
    · rw [if_pos hp]
      split
      · exact ⟨Nat.le_succ p, hp⟩
      · have := rdD_place l bt N g (k + 1) (2 * code + bt p) (p + 1) (by omega)
        exact ⟨by omega, this.2⟩
    · rw [if_neg hp]
      exact ⟨Nat.le_refl _, h⟩
set_option maxRecDepth 100000 in
set_option maxHeartbeats 4000000 in
theorem d_sym (i : Nat) {tb : Nat} {Ft : List Nat} {D : List Int} (hT : L[i]? = some (oDT tb Ft D)) (hD : D.length ≤ 288) (hs : s.size ≤ 1048576) (S : DS w0 w ub rb Fr' s B t L) :
    Calls Tryz.prog 57 #[.pointer (some ⟨ub, 0, none⟩), .pointer (some ⟨tb, 0, none⟩)] w fun e w' => e = .returned (.int .i64 (dsym s D t).1) ∧ DS w0 w' ub rb Fr' s B (dsym s D t).2 L := by
  obtain ⟨ao, cap, c0, _, _, c3, _, _, _⟩ := S.cells
  have HS := Lib.hid S
  clear S
  by_cases h0 : t.e = 0
  · have hpl := rdD_place D (bit s false) (8 * s.size) 15 1 0 t.p HS.out.1
    rw [← read_doc] at hpl
    have HG := Lib.hid ((by
        obtain ⟨hp, F, S⟩ := HS.out
        refine (sDRead (i + 2) 0 (by omega) S (show _ = some (oDT tb Ft D) by simpa using hT) rfl hD hs hp).mono ?_
        rintro e w' ⟨rfl, S⟩
        refine ⟨rfl, hpl.2, F, ?_⟩
        rw [h0] at S
        exact S) : Calls Tryz.prog 83 #[.pointer (some ⟨tb, 0, none⟩), .pointer (some ⟨rb, 0, none⟩)] w fun e w' => e = .returned (.tuple #[.int .i64 (readN D (bit s false) (8 * s.size) t.p).1, .int .i64 (readN D (bit s false) (8 * s.size) t.p).2.1]) ∧ DS w0 w' ub rb Fr' s B ⟨(readN D (bit s false) (8 * s.size) t.p).2.2, t.out, 0⟩ L)
    have hR : dsym s D t = ((readN D (bit s false) (8 * s.size) t.p).1, ⟨(readN D (bit s false) (8 * s.size) t.p).2.2, t.out, (readN D (bit s false) (8 * s.size) t.p).2.1⟩) := if_neg (fun h => h h0)
    rw [hR]
    clear hR hpl
    generalize readN D (bit s false) (8 * s.size) t.p = R at *
    obtain ⟨r1, r2, r3⟩ := R
    simp only at HG ⊢
    rw [h0] at c3
    clear HS h0
    go_enter Tryz.func57, Tryz.ntmps57
    go_wp2_with fail
    refine HG.out.mono ?_
    rintro e w1 ⟨rfl, S⟩
    have HS := Lib.hid S
    clear S HG c0 c3
    by_cases hz : r2 = 0
    · subst hz
      go_wp2_with fail
      go_ret
      exact ⟨rfl, HS.out⟩
    · have hb : (r2 != 0) = true := bne_iff_ne.2 hz
      clear hz
      go_wp2_with fail
      refine (d_fail r2 HS.out).mono ?_
      rintro e w2 ⟨rfl, S⟩
      have HS := Lib.hid S
      clear S hb
      go_wp2_with fail
      go_ret
      exact ⟨rfl, HS.out⟩
  · have hb : (t.e != 0) = true := bne_iff_ne.2 h0
    rw [dsym_dead h0]
    generalize t.e = te at *
    clear h0
    go_enter Tryz.func57, Tryz.ntmps57
    go_wp2_with fail
    go_ret
    exact ⟨rfl, HS.out⟩
/-- a byte more -/
theorem DR.push {w W w1 : World} {ub rb : Nat} {B b : Nat} {e : Int} {out : List Nat} {v : Value} {O : Obj} {g cap2 : Nat} (h1 : w.heap[ub]? = some (runD rb v B e)) (h4 : v.ownBlock ≠ some ub) (hx : Ext [] w W)
    (hown1 : w1.ownsRow 0 5 1 (.slice (some ⟨g, 0, none⟩) (out.length + 1) cap2) (out.length + 1) (out.map b8 ++ [.int .u8 (b : Int)])) (hgrow : (W.alloc O).grownBy w1 v.ownBlock) (hat : v.ownBlock = some g ∨ g = W.heap.size + 1) :
    (oDR ub rb [ub, g] B (out ++ [b]) e).P (w1.setCell ⟨ub, 1, none⟩ (.slice (some ⟨g, 0, none⟩) (out.length + 1) cap2)) ∧ Ext (ub :: v.ownBlock.toList) w (w1.setCell ⟨ub, 1, none⟩ (.slice (some ⟨g, 0, none⟩) (out.length + 1) cap2)) ∧ Fr w (ub :: v.ownBlock.toList) [ub, g] := by
  have hb : W.heap[ub]? = some (runD rb v B e) := hx.keep h1 (by simp)
  obtain ⟨q1, q2, q3, q4, q5⟩ := push_field hb h4 hown1 hgrow hat 1
  refine ⟨⟨_, q1, ?_, rfl, fun e => q4 (by simpa [Value.ownBlock] using e)⟩, (hx.weak (S := ub :: v.ownBlock.toList)).trans q3, fun k hk => ?_⟩
  · rw [List.length_append, List.map_append]
    exact q2
  · rcases List.mem_cons.1 hk with rfl | hk
    · exact .inl (by simp)
    · obtain rfl : k = g := by simpa using hk
      rcases hat with h | h
      · exact .inl (by simp [h])
      · have := hx.size; exact .inr (by omega)
set_option maxRecDepth 100000 in
set_option maxHeartbeats 4000000 in
theorem d_put (b : Nat) (hB : B ≤ 1099511627776) (S : DS w0 w ub rb Fr' s B t L) :
    Calls Tryz.prog 55 #[.pointer (some ⟨ub, 0, none⟩), .int .u8 b] w fun e w' => e = .returned (.tuple #[]) ∧ DS w0 w' ub rb Fr' s B (dput B b t) L := by
  have HS := Lib.hid S
  clear S
  by_cases h0 : t.e = 0
  · obtain ⟨p, out, te⟩ := t
    obtain rfl : te = 0 := h0
    obtain ⟨i0, hif, hz0, hz1, hz2⟩ := info_parts infoByte
    obtain ⟨hp, F, S⟩ := HS.out
    obtain ⟨v, h1, h2, hF, h4⟩ := S.get 1 rfl
    simp only at h2
    obtain ⟨ao, cap, rfl⟩ := own_slice h2
    have c3 : w.cell? ⟨ub, 3, none⟩ = some (.int .i64 0) := cellOf h1 3
    have c1 : ∀ x : Ex w, x.w.cell? ⟨ub, 1, none⟩ = some (.slice ao out.length cap) := fun x => cellOf (x.heap h1) 1
    have c2 : ∀ x : Ex w, x.w.cell? ⟨ub, 2, none⟩ = some (.int .i64 B) := fun x => cellOf (x.heap h1) 2
    have HH := Lib.hid (⟨h1, h2, hF, h4, S, hp⟩ : _ ∧ _ ∧ _ ∧ _ ∧ _ ∧ _)
    clear h1 h2 hF h4 S
    by_cases hfull : B ≤ out.length
    · have HR := Lib.hid (show dput B b ⟨p, out, 0⟩ = dfail 3 ⟨p, out, 0⟩ from by unfold dput dfail; rw [live9, if_pos hfull, if_pos rfl])
      have hf' : (B : Int) ≤ (out.length : Int) := by omega
      go_enter Tryz.func55, Tryz.ntmps55
      go_wp2_with fail
      refine wp_region_ext (by kernel_rfl) (by kernel_rfl) ?_
      repeat (go_big_quiet_step (fail))
      refine wpQuiet_nil ?_
      clear c1 c2 c3
      rintro _ ⟨x, rfl⟩
      go_wp2_with fail
      refine (d_fail 3 (HS.out.quiet x.ext)).mono ?_
      rintro e w2 ⟨rfl, S⟩
      rw [← HR.out] at S
      have HS := Lib.hid S
      clear S
      go_wp2_with fail
      refine bodyPost_ret (results_none rfl _ _ _) rfl ?_
      exact ⟨rfl, HS.out⟩
    · have HR := Lib.hid (show dput B b ⟨p, out, 0⟩ = ⟨p, out ++ [b], 0⟩ from by unfold dput; rw [live9, if_neg hfull])
      have hf' : ¬ (B : Int) ≤ (out.length : Int) := by omega
      go_enter Tryz.func55, Tryz.ntmps55
      go_wp2_with fail
      refine wp_region_ext (by kernel_rfl) (by kernel_rfl) ?_
      repeat (go_big_quiet_step (fail))
      refine wpQuiet_nil ?_
      rintro _ ⟨x, rfl⟩
      have d1 := c1 x
      clear c1 c2 c3
      have hrow : x.w.ownsRow 0 5 1 (.slice ao out.length cap) out.length (out.map b8) := row_keep x.ext HH.out.2.1
      have hb : x.w.heap[ub]? = some (runD rb (.slice ao out.length cap) B 0) := x.ext.keep HH.out.1 (by simp)
      have HB := Lib.hid hb
      have HNE := Lib.hid HH.out.2.2.2.1
      clear hb
      obtain ⟨W, hW⟩ : ∃ W, x.w = W := ⟨_, rfl⟩
      have hxW : Ext [] w W := by rw [← hW]; exact x.ext
      rw [hW] at hrow d1 HB ⊢
      have HXW := Lib.hid hxW
      clear hW hxW x
      go_wp2_with (first | (at_builtin; refine wpList_append_lies _ rfl _ _ 29 rfl 0 5 i0 _ 1 1 Tryz.underlying29 hif hz0 hz1 hz2 rfl (by decide) (.slice ao out.length cap) out.length _ rfl (hrow.alloc _) ⟨W.heap.size, 0, none⟩ 1 1 [.int .u8 (b : Int)] rfl rfl (cell_one_new _ _ _) (by simp [Value.oneCell']) (by decide) (by unfold maxLen; omega) (by omega) (by omega) (W.heap.size + 1) (by simp) ?_; intro g cap2 w1 hown1 hgrow hat hlt; have k1 := grown_keep hgrow (heap_alloc_old _ HB.out) HNE.out; have k2 := freeOf k1 1; have k3 := cellOf k1 1))
      obtain ⟨h1, h2, hF, h4, S, hp⟩ := HH.out
      obtain ⟨q1, q2, q3⟩ := DR.push (out := out) (b := b) h1 h4 HXW.out hown1 hgrow hat
      go_end0
      rw [← hF] at q2 q3
      refine ⟨rfl, ?_⟩
      rw [HR.out]
      exact ⟨hp, _, S.upd 1 (oDR ub rb [ub, g] B (out ++ [b]) 0) rfl q2 q3 q1⟩
  · obtain ⟨ao, cap, c0, _, _, c3, _, _, _⟩ := HS.out.cells
    have hb : (t.e != 0) = true := bne_iff_ne.2 h0
    rw [dput_dead h0]
    generalize t.e = te at *
    clear h0
    go_enter Tryz.func55, Tryz.ntmps55
    go_wp2_with fail
    refine bodyPost_ret (results_none rfl _ _ _) rfl ?_
    exact ⟨rfl, HS.out⟩
end
end Go.Proofs.YtapcfffmgdpmcaaGreat.If

/-! IpD: inflate: the document's Length, Distance, LengthOf, DistanceOf, Order, dists, Fixed walked. -/
namespace Go.Proofs.YtapcfffmgdpmcaaGreat.If
open Go.RowKit Bt Hu

theorem len_step : ∀ k, k < 19 → lenB (265 + (k + 1)) = lenB (265 + k) + 2 ^ ((4 + k) / 4) ∧ (4 + k) / 4 ≤ 5 ∧ lenX (265 + k) = (4 + k) / 4 ∧ lenB (265 + k) ≤ 258 := by decide +kernel
theorem len_last : lenX 284 = 5 ∧ lenB 284 = 227 := by decide
theorem dst_step : ∀ k, k < 25 → dstB (4 + (k + 1)) = dstB (4 + k) + 2 ^ ((2 + k) / 2) ∧ (2 + k) / 2 ≤ 13 ∧ dstX (4 + k) = (2 + k) / 2 ∧ dstB (4 + k) ≤ 24577 := by decide +kernel
theorem dst_last : dstX 29 = 13 ∧ dstB 29 = 24577 := by decide
set_option maxRecDepth 100000 in
set_option maxHeartbeats 4000000 in
theorem dlength_walk (x : Int) (w : World) : Calls Tryz.prog 58 #[.int .i64 x] w fun e w' => e = .returned (.tuple #[.int .i64 (lenBZ x), .int .i64 (lenXZ x)]) ∧ w = w' := by
  by_cases h1 : x < 257
  · have e1 : lenBZ x = 0 := by unfold lenBZ; rw [if_pos (.inl h1)]
    have e2 : lenXZ x = 0 := by unfold lenXZ; rw [if_pos (.inl h1)]
    rw [e1, e2]
    clear e1 e2
    go_enter Tryz.func58, Tryz.ntmps58
    go_wp2_with fail
    exact bodyPost_ret (results_tmp2 rfl _ _ _) rfl ⟨rfl, rfl⟩
  by_cases h2 : 285 < x
  · have e1 : lenBZ x = 0 := by unfold lenBZ; rw [if_pos (.inr h2)]
    have e2 : lenXZ x = 0 := by unfold lenXZ; rw [if_pos (.inr h2)]
    rw [e1, e2]
    clear e1 e2
    go_enter Tryz.func58, Tryz.ntmps58
    go_wp2_with fail
    exact bodyPost_ret (results_tmp2 rfl _ _ _) rfl ⟨rfl, rfl⟩
  by_cases h3 : x = 285
  · subst h3
    have e1 : lenBZ 285 = 258 := by decide
    have e2 : lenXZ 285 = 0 := by decide
    rw [e1, e2]
    clear e1 e2
    go_enter Tryz.func58, Tryz.ntmps58
    go_wp2_with fail
    exact bodyPost_ret (results_tmp2 rfl _ _ _) rfl ⟨rfl, rfl⟩
  have z3 : (x == 285) = false := beq_eq_false_iff_ne.2 h3
  by_cases h4 : x < 265
  · obtain ⟨n, rfl⟩ : ∃ n : Nat, x = n := ⟨x.toNat, by omega⟩
    have e1 : ((lenBZ n : Nat) : Int) = (n : Int) - 254 := by
      rw [(lenBZ_at n (by omega) (by omega)).1]
      unfold lenB
      rw [if_neg (by omega), if_pos (by omega)]
      omega
    have e2 : lenXZ n = 0 := by
      rw [(lenBZ_at n (by omega) (by omega)).2]
      unfold lenX
      rw [if_neg (by omega), if_pos (by omega)]
    rw [e1, e2]
    clear e1 e2
    go_enter Tryz.func58, Tryz.ntmps58
    go_wp2_with fail
    exact bodyPost_ret (results_tmp2 rfl _ _ _) rfl ⟨rfl, rfl⟩
  obtain ⟨n, rfl⟩ : ∃ n : Nat, x = ((265 + n : Nat) : Int) := ⟨(x - 265).toNat, by omega⟩
  have hn : n ≤ 19 := by omega
  rw [(lenBZ_at (265 + n) (by omega) (by omega)).1, (lenBZ_at (265 + n) (by omega) (by omega)).2]
  have e2 : ((lenX (265 + n) : Nat) : Int) = (4 + (n : Int)) / 4 := by
    by_cases hn19 : n = 19
    · subst hn19; rw [len_last.1]; rfl
    · rw [(len_step n (by omega)).2.2.1]; omega
  rw [e2]
  clear e2
  obtain ⟨R, hR⟩ : ∃ R, lenB (265 + n) = R := ⟨_, rfl⟩
  rw [hR]
  have HR := Lib.hid hR
  clear hR z3
  obtain ⟨x, hx⟩ : ∃ x : Int, x = ((265 + n : Nat) : Int) := ⟨_, rfl⟩
  rw [← hx]
  have hxq : (x - 261) / 4 = (4 + (n : Int)) / 4 := by omega
  have z1 : ¬ x < 257 := by omega
  have z2 : ¬ 285 < x := by omega
  have z3 : (x == 285) = false := beq_eq_false_iff_ne.2 (by omega)
  have z4 : ¬ x < 265 := by omega
  have z5 : x ≤ 284 := by omega
  have z6 : 265 ≤ x := by omega
  clear h1 h2 h3 h4
  rw [← hxq]
  clear hxq
  go_enter Tryz.func58, Tryz.ntmps58
  go_wp2_with fail
  clear z1 z2 z3 z4
  go_loopg [4, 5] n (fun g bv sv wr => ∃ k : Nat, g + k = n ∧ bv = .int .i64 (lenB (265 + k) : Nat) ∧ sv = .int .i64 ((265 + k : Nat) : Int) ∧ w = wr)
  case atStart => exact ⟨0, by omega, by have : lenB (265 + 0) = 11 := by decide
                                         rw [this]; rfl, rfl, rfl⟩
  case round =>
    obtain ⟨k, hk, rfl, rfl, rfl⟩ := hrel
    cases gk with
    | zero =>
      obtain rfl : k = n := by omega
      have hR := HR.out
      clear HR
      rw [hR]
      subst hx
      clear hR
      go_wp2_with fail
      exact bodyPost_ret (results_tmp2 rfl _ _ _) rfl ⟨by push_cast; rfl, rfl⟩
    | succ g =>
      obtain ⟨s1, s2, _, s4⟩ := len_step k (by omega)
      have HS1 := Lib.hid s1
      obtain ⟨P, hP⟩ : ∃ P, lenB (265 + k) = P := ⟨_, rfl⟩
      obtain ⟨X, hX⟩ : ∃ X, (4 + k) / 4 = X := ⟨_, rfl⟩
      rw [hP] at s4 HS1 ⊢
      rw [hX] at s2 HS1
      obtain ⟨Z, hZ⟩ : ∃ Z : Nat, 2 ^ X = Z := ⟨_, rfl⟩
      have hZ32 : Z ≤ 32 := by rw [← hZ]; exact Nat.le_trans (Nat.pow_le_pow_right (by omega) s2) (by decide)
      have yz : (2 : Int) ^ X = (Z : Int) := by rw [← hZ]; push_cast; rfl
      rw [hZ] at HS1
      obtain ⟨q, hq⟩ : ∃ q : Int, q = ((265 + k : Nat) : Int) := ⟨_, rfl⟩
      rw [← hq]
      have y1 : q < x := by omega
      have y2 : (q - 261) / 4 = (X : Int) := by omega
      have y3 : 265 ≤ q := by omega
      have HQ := Lib.hid (⟨hq, hk⟩ : _ ∧ _)
      clear s1 hP hX hZ hq
      go_wp2_with fail
      go_roundg g
      case measure => omega
      case rel => exact ⟨k + 1, by have := HQ.out.2; omega, by rw [HS1.out]; go_num, by have := HQ.out.1; go_num, rfl⟩
set_option maxRecDepth 100000 in
set_option maxHeartbeats 4000000 in
theorem ddistance_walk (x : Int) (w : World) : Calls Tryz.prog 59 #[.int .i64 x] w fun e w' => e = .returned (.tuple #[.int .i64 (dstBZ x), .int .i64 (dstXZ x)]) ∧ w = w' := by
  by_cases h1 : x < 0
  · have e1 : dstBZ x = 0 := by unfold dstBZ; rw [if_pos (.inl h1)]
    have e2 : dstXZ x = 0 := by unfold dstXZ; rw [if_pos (.inl h1)]
    rw [e1, e2]
    clear e1 e2
    go_enter Tryz.func59, Tryz.ntmps59
    go_wp2_with fail
    exact bodyPost_ret (results_tmp2 rfl _ _ _) rfl ⟨rfl, rfl⟩
  by_cases h2 : 29 < x
  · have e1 : dstBZ x = 0 := by unfold dstBZ; rw [if_pos (.inr h2)]
    have e2 : dstXZ x = 0 := by unfold dstXZ; rw [if_pos (.inr h2)]
    rw [e1, e2]
    clear e1 e2
    go_enter Tryz.func59, Tryz.ntmps59
    go_wp2_with fail
    exact bodyPost_ret (results_tmp2 rfl _ _ _) rfl ⟨rfl, rfl⟩
  by_cases h4 : x < 4
  · obtain ⟨n, rfl⟩ : ∃ n : Nat, x = n := ⟨x.toNat, by omega⟩
    have e1 : ((dstBZ n : Nat) : Int) = (n : Int) + 1 := by
      rw [(dstBZ_at n (by omega)).1]
      unfold dstB
      rw [if_pos (by omega)]
      omega
    have e2 : dstXZ n = 0 := by
      rw [(dstBZ_at n (by omega)).2]
      unfold dstX
      rw [if_pos (by omega)]
    rw [e1, e2]
    clear e1 e2
    go_enter Tryz.func59, Tryz.ntmps59
    go_wp2_with fail
    exact bodyPost_ret (results_tmp2 rfl _ _ _) rfl ⟨rfl, rfl⟩
  obtain ⟨n, rfl⟩ : ∃ n : Nat, x = ((4 + n : Nat) : Int) := ⟨(x - 4).toNat, by omega⟩
  have hn : n ≤ 25 := by omega
  rw [(dstBZ_at (4 + n) (by omega)).1, (dstBZ_at (4 + n) (by omega)).2]
  have e2 : ((dstX (4 + n) : Nat) : Int) = (2 + (n : Int)) / 2 := by
    by_cases hn25 : n = 25
    · subst hn25; rw [dst_last.1]; rfl
    · rw [(dst_step n (by omega)).2.2.1]; omega
  rw [e2]
  clear e2
  obtain ⟨R, hR⟩ : ∃ R, dstB (4 + n) = R := ⟨_, rfl⟩
  rw [hR]
  have HR := Lib.hid hR
  clear hR
  obtain ⟨x, hx⟩ : ∃ x : Int, x = ((4 + n : Nat) : Int) := ⟨_, rfl⟩
  rw [← hx]
  have hxq : (x - 2) / 2 = (2 + (n : Int)) / 2 := by omega
  have z1 : ¬ x < 0 := by omega
  have z2 : ¬ 29 < x := by omega
  have z4 : ¬ x < 4 := by omega
  have z5 : x ≤ 29 := by omega
  have z6 : 4 ≤ x := by omega
  clear h1 h2 h4
  rw [← hxq]
  clear hxq
  go_enter Tryz.func59, Tryz.ntmps59
  go_wp2_with fail
  clear z1 z2 z4
  go_loopg [4, 5] n (fun g bv sv wr => ∃ k : Nat, g + k = n ∧ bv = .int .i64 (dstB (4 + k) : Nat) ∧ sv = .int .i64 ((4 + k : Nat) : Int) ∧ w = wr)
  case atStart => exact ⟨0, by omega, by have : dstB (4 + 0) = 5 := by decide
                                         rw [this]; rfl, rfl, rfl⟩
  case round =>
    obtain ⟨k, hk, rfl, rfl, rfl⟩ := hrel
    cases gk with
    | zero =>
      obtain rfl : k = n := by omega
      have hR := HR.out
      clear HR
      rw [hR]
      subst hx
      clear hR
      go_wp2_with fail
      exact bodyPost_ret (results_tmp2 rfl _ _ _) rfl ⟨by push_cast; rfl, rfl⟩
    | succ g =>
      obtain ⟨s1, s2, _, s4⟩ := dst_step k (by omega)
      have HS1 := Lib.hid s1
      obtain ⟨P, hP⟩ : ∃ P, dstB (4 + k) = P := ⟨_, rfl⟩
      obtain ⟨X, hX⟩ : ∃ X, (2 + k) / 2 = X := ⟨_, rfl⟩
      rw [hP] at s4 HS1 ⊢
      rw [hX] at s2 HS1
      obtain ⟨Z, hZ⟩ : ∃ Z : Nat, 2 ^ X = Z := ⟨_, rfl⟩
      have hZ32 : Z ≤ 8192 := by rw [← hZ]; exact Nat.le_trans (Nat.pow_le_pow_right (by omega) s2) (by decide)
      have yz : (2 : Int) ^ X = (Z : Int) := by rw [← hZ]; push_cast; rfl
      rw [hZ] at HS1
      obtain ⟨q, hq⟩ : ∃ q : Int, q = ((4 + k : Nat) : Int) := ⟨_, rfl⟩
      rw [← hq]
      have y1 : q < x := by omega
      have y2 : (q - 2) / 2 = (X : Int) := by omega
      have y3 : 4 ≤ q := by omega
      have HQ := Lib.hid (⟨hq, hk⟩ : _ ∧ _)
      clear s1 hP hX hZ hq
      go_wp2_with fail
      go_roundg g
      case measure => omega
      case rel => exact ⟨k + 1, by have := HQ.out.2; omega, by rw [HS1.out]; go_num, by have := HQ.out.1; go_num, rfl⟩
theorem last_is (f : Nat → Nat) (n lo j : Nat) : ∀ k, j ≤ k → f (lo + j) ≤ n → (∀ i, j < i → i ≤ k → n < f (lo + i)) → lastF f n lo k = lo + j
  | 0, h1, _, _ => by rw [lastF, show j = 0 by omega]; rfl
  | k + 1, h1, h2, h3 => by
    rw [lastF]
    by_cases hj : j = k + 1
    · subst hj; rw [if_pos h2]
    · rw [if_neg (by have := h3 (k + 1) (by omega) (Nat.le_refl _); omega)]
      exact last_is f n lo j k (by omega) h2 (fun i a b => h3 i a (by omega))
theorem len_mono : ∀ i, i < 29 → ∀ j, j < 29 → i ≤ j → lenB (257 + i) ≤ lenB (257 + j) := by decide +kernel
theorem dst_mono : ∀ i, i < 30 → ∀ j, j < 30 → i ≤ j → dstB (0 + i) ≤ dstB (0 + j) := by decide +kernel
end Go.Proofs.YtapcfffmgdpmcaaGreat.If

/-! IpE: inflate: the document's Order, dists, Fixed, stored walked; rows beside the run. -/
namespace Go.Proofs.YtapcfffmgdpmcaaGreat.If
open Go.RowKit Bt Hu

/-- the first of three objects put third -/
theorem Sep.third {w0 w : World} {o a b : Ob} {L : List Ob} (h : Sep w0 w (o :: a :: b :: L)) : Sep w0 w (a :: b :: o :: L) := by
  have hm : ∀ c, c ∈ a :: b :: o :: L → c ∈ o :: a :: b :: L := fun c hc => by
    simp only [List.mem_cons] at hc ⊢
    rcases hc with h | h | h | h
    · exact .inr (.inl h)
    · exact .inr (.inr (.inl h))
    · exact .inl h
    · exact .inr (.inr (.inr h))
  let f : Nat → Nat := fun i => if i = 0 then 1 else if i = 1 then 2 else if i = 2 then 0 else i
  have hf : ∀ i c, (a :: b :: o :: L)[i]? = some c → (o :: a :: b :: L)[f i]? = some c := fun i c hi => by
    match i with
    | 0 => exact hi
    | 1 => exact hi
    | 2 => exact hi
    | n + 3 =>
      have e : f (n + 3) = n + 3 := by simp only [f]; rw [if_neg (by omega), if_neg (by omega), if_neg (by omega)]
      rw [e]
      simpa using hi
  have fi : ∀ i j, f i = f j → i = j := fun i j e => by
    simp only [f] at e
    split at e <;> split at e <;> (try split at e) <;> (try split at e) <;> (try split at e) <;> (try split at e) <;> omega
  exact ⟨h.ext, fun c hc => h.each c (hm c hc), fun c hc => h.base c (hm c hc), fun i j c d hi hj hij => h.apart (f i) (f j) c d (hf i c hi) (hf j d hj) (fun e => hij (fi i j e))⟩
section
variable {w0 w : World} {ub rb : Nat} {Fr' : List Nat} {s : ByteArray} {B : Nat} {t : St} {L : List Ob}
theorem DS.new {w' : World} (S : DS w0 w ub rb Fr' s B t L) (o : Ob) (hx : Ext [] w w') (ho : o.P w') (hb : ∀ k ∈ o.F, w.heap.size ≤ k) : DS w0 w' ub rb Fr' s B t (o :: L) := by
  obtain ⟨hp, F, S⟩ := S
  exact ⟨hp, F, Sep.third (S.new hx o ho hb)⟩
theorem DS.row {w' : World} {o o' : Ob} (S : DS w0 w ub rb Fr' s B t (o :: L)) (hx : Ext o.F w w') (hf : Fr w o.F o'.F) (ho : o'.P w') : DS w0 w' ub rb Fr' s B t (o' :: L) := by
  obtain ⟨hp, F, S⟩ := S
  exact ⟨hp, F, S.upd 2 o' rfl hx hf ho⟩
set_option maxRecDepth 100000 in
set_option maxHeartbeats 4000000 in
theorem d_align (hs : s.size ≤ 1048576) (S : DS w0 w ub rb Fr' s B t L) :
    Calls Tryz.prog 54 #[.pointer (some ⟨rb, 0, none⟩)] w fun e w' => e = .returned (.int .i64 (gap t.p)) ∧ DS w0 w' ub rb Fr' s B ⟨t.p + gap t.p, t.out, t.e⟩ L := by
  obtain ⟨hp, F, S⟩ := S
  refine (rfalign rb Fr' (allBits s false (8 * s.size)) t.p w (by omega) (S.get 0 rfl)).mono ?_
  rintro e w' ⟨rfl, h, hx⟩
  exact ⟨rfl, gap_in t.p s.size hp, F, S.upd 0 (oRf rb Fr' (allBits s false (8 * s.size)) (t.p + gap t.p)) rfl hx (Fr.refl _ _) h⟩
set_option maxRecDepth 100000 in
set_option maxHeartbeats 8000000 in
theorem d_stored (hs : s.size ≤ 1048576) (hB : B ≤ 1099511627776) (S : DS w0 w ub rb Fr' s B t L) :
    Calls Tryz.prog 26 #[.pointer (some ⟨ub, 0, none⟩)] w fun e w' => e = .returned (.tuple #[]) ∧ DS w0 w' ub rb Fr' s B (dstored s B t) L := by
  obtain ⟨ao, cap, c0, _, _, _, _⟩ := S.cells
  have HS := Lib.hid S
  obtain ⟨R, hR⟩ : ∃ R, dstored s B t = R := ⟨_, rfl⟩
  rw [hR]
  unfold dstored at hR
  have HR := Lib.hid hR
  clear S hR
  go_enter Tryz.func26, Tryz.ntmps26
  go_wp2_with fail
  refine (d_align hs HS.out).mono ?_
  rintro e w1 ⟨rfl, S⟩
  have HS := Lib.hid S
  clear S c0
  go_wp2_with fail
  refine (d_get 16 (Nat.le_refl _) hs HS.out).mono ?_
  rintro e w2 ⟨rfl, S⟩
  have HS := Lib.hid S
  have hn := dget_lt (s := s) 16 (Nat.le_refl _) ⟨t.p + gap t.p, t.out, t.e⟩
  have hR := HR.out
  clear S HR
  generalize dget s 16 ⟨t.p + gap t.p, t.out, t.e⟩ = D1 at *
  obtain ⟨n, t1⟩ := D1
  simp only at HS hn hR ⊢
  unfold dstA at hR
  have HR := Lib.hid hR
  clear hR
  go_wp2_with fail
  refine (d_get 16 (Nat.le_refl _) hs HS.out).mono ?_
  rintro e w3 ⟨rfl, S⟩
  have HS := Lib.hid S
  have hm := dget_lt (s := s) 16 (Nat.le_refl _) t1
  have hR := HR.out
  clear S HR
  generalize dget s 16 t1 = D1 at *
  obtain ⟨m, t2⟩ := D1
  simp only at HS hm hR ⊢
  unfold dstB2 at hR
  by_cases hne : (m : Int) ≠ 65535 - (n : Int)
  · rw [if_pos hne] at hR
    have HR := Lib.hid hR
    have hb : ((m : Int) != 65535 - (n : Int)) = true := bne_iff_ne.2 hne
    clear hR hne
    go_wp2_with fail
    refine (d_fail 4 HS.out).mono ?_
    rintro e w4 ⟨rfl, S⟩
    have HS := Lib.hid S
    clear S hb
    go_wp2_with fail
    go_loopg [3] n (fun g iv wr => ∃ (k : Nat) (t : St), g + k = n ∧ iv = .int .i64 k ∧ dstoreL s B g t = R ∧ DS w0 wr ub rb Fr' s B t L)
    case atStart => exact ⟨0, _, by omega, by go_num, HR.out, HS.out⟩
    case round =>
      clear HS HR
      obtain ⟨k, t, hk, rfl, hR, S⟩ := hrel
      obtain ⟨ao, cap, _, _, _, c3, _⟩ := S.cells
      have HS := Lib.hid S
      clear S
      cases gk with
      | zero =>
        obtain rfl : k = n := by omega
        rw [dstoreL] at hR
        subst hR
        go_wp2_with fail
        go_end0
        exact ⟨rfl, HS.out⟩
      | succ g =>
        have hkn : (k : Int) < (n : Int) := by omega
        rw [dstoreL] at hR
        by_cases h0 : t.e = 0
        · rw [if_neg (fun h => h h0)] at hR
          rw [h0] at c3
          have HR := Lib.hid hR
          clear hR h0
          go_wp2_with fail
          refine (d_get 8 (by omega) hs HS.out).mono ?_
          rintro e w4 ⟨rfl, S⟩
          have HS := Lib.hid S
          have hb := dget_lt2 (s := s) 8 t
          have hR := HR.out
          clear S HR c3
          generalize dget s 8 t = D1 at *
          obtain ⟨b, t4⟩ := D1
          simp only at HS hb hR ⊢
          have HR := Lib.hid hR
          clear hR
          have hb : b < 256 := hb
          go_wp2_with fail
          refine (d_put b hB HS.out).mono ?_
          rintro e w5 ⟨rfl, S⟩
          have HS := Lib.hid S
          clear S
          go_wp2_with fail
          go_roundg g
          case measure => omega
          case rel => exact ⟨k + 1, _, by omega, by go_num, HR.out, HS.out⟩
        · rw [if_pos h0] at hR
          have hb : (t.e == 0) = false := beq_eq_false_iff_ne.2 h0
          subst hR
          generalize t.e = te at *
          clear h0
          go_wp2_with fail
          go_end0
          exact ⟨rfl, HS.out⟩
  · rw [if_neg hne] at hR
    have HR := Lib.hid hR
    have hb : ((m : Int) != 65535 - (n : Int)) = false := by simpa using hne
    clear hR hne
    go_wp2_with fail
    clear hb
    go_loopg [3] n (fun g iv wr => ∃ (k : Nat) (t : St), g + k = n ∧ iv = .int .i64 k ∧ dstoreL s B g t = R ∧ DS w0 wr ub rb Fr' s B t L)
    case atStart => exact ⟨0, _, by omega, by go_num, HR.out, HS.out⟩
    case round =>
      clear HS HR
      obtain ⟨k, t, hk, rfl, hR, S⟩ := hrel
      obtain ⟨ao, cap, _, _, _, c3, _⟩ := S.cells
      have HS := Lib.hid S
      clear S
      cases gk with
      | zero =>
        obtain rfl : k = n := by omega
        rw [dstoreL] at hR
        subst hR
        go_wp2_with fail
        go_end0
        exact ⟨rfl, HS.out⟩
      | succ g =>
        have hkn : (k : Int) < (n : Int) := by omega
        rw [dstoreL] at hR
        by_cases h0 : t.e = 0
        · rw [if_neg (fun h => h h0)] at hR
          rw [h0] at c3
          have HR := Lib.hid hR
          clear hR h0
          go_wp2_with fail
          refine (d_get 8 (by omega) hs HS.out).mono ?_
          rintro e w4 ⟨rfl, S⟩
          have HS := Lib.hid S
          have hb := dget_lt2 (s := s) 8 t
          have hR := HR.out
          clear S HR c3
          generalize dget s 8 t = D1 at *
          obtain ⟨b, t4⟩ := D1
          simp only at HS hb hR ⊢
          have HR := Lib.hid hR
          clear hR
          have hb : b < 256 := hb
          go_wp2_with fail
          refine (d_put b hB HS.out).mono ?_
          rintro e w5 ⟨rfl, S⟩
          have HS := Lib.hid S
          clear S
          go_wp2_with fail
          go_roundg g
          case measure => omega
          case rel => exact ⟨k + 1, _, by omega, by go_num, HR.out, HS.out⟩
        · rw [if_pos h0] at hR
          have hb : (t.e == 0) = false := beq_eq_false_iff_ne.2 h0
          subst hR
          generalize t.e = te at *
          clear h0
          go_wp2_with fail
          go_end0
          exact ⟨rfl, HS.out⟩
end
set_option maxRecDepth 100000 in
set_option maxHeartbeats 4000000 in
theorem dorder_walk (w : World) : Calls Tryz.prog 60 #[] w fun e w' => ∃ g, e = .returned (.slice (some ⟨g, 0, none⟩) 19 19) ∧ Ext [] w w' ∧ ∀ k, k < 19 → w'.cell? ⟨g, k, none⟩ = some (iz ((ordN.getD k 0 : Nat) : Int)) := by
  go_enter Tryz.func60, Tryz.ntmps60
  go_wp2_with fail
  go_ret
  refine ⟨w.heap.size, rfl, (Ext.refl _ _).alloc _, fun k hk => ?_⟩
  have := cellOf (heap_alloc_at (w := w) (.cells ord19 3)) k
  rw [ord19_at k hk] at this
  exact this
theorem some_snoc (l : List Int) (x : Int) : someN9 (l ++ [x]) = someN9 l + if 0 < x then 1 else 0 := by unfold someN9; rw [List.countP_append, List.countP_singleton]; simp
theorem one_snoc (l : List Int) (x : Int) : oneN9 (l ++ [x]) = oneN9 l + if x = 1 then 1 else 0 := by unfold oneN9; rw [List.countP_append, List.countP_singleton]; simp
set_option maxRecDepth 100000 in
set_option maxHeartbeats 8000000 in
theorem ddists_walk (v : Value) (l : List Int) (w : World) (hv : IntsAt w v l) (hl : l.length ≤ 1048576) :
    Calls Tryz.prog 63 #[v] w fun e w' => e = .returned (.bool (distB l)) ∧ w = w' := by
  have HST := Lib.hid (rstate_walk v l w hv hl)
  obtain ⟨ao, cap, rfl, hc⟩ := hv
  have HC := Lib.hid hc
  clear hc
  obtain ⟨R, hR⟩ : ∃ R, distB l = R := ⟨_, rfl⟩
  rw [hR]
  unfold distB at hR
  have HR := Lib.hid hR
  clear hR
  go_enter Tryz.func63, Tryz.ntmps63
  go_wp2_with fail
  go_loopg [3, 4, 5] l.length (fun g sv ov iv wr => ∃ k : Nat, g + k = l.length ∧ sv = .int .i64 (someN9 (l.take k) : Nat) ∧ ov = .int .i64 (oneN9 (l.take k) : Nat) ∧ iv = .int .i64 k ∧ w = wr)
  case atStart => exact ⟨0, by omega, rfl, rfl, rfl, rfl⟩
  case round =>
    obtain ⟨k, hk, rfl, rfl, rfl, rfl⟩ := hrel
    by_cases hlt : k < l.length
    · obtain ⟨b, off, rfl, hcell⟩ := HC.out (by omega)
      obtain ⟨x, hx⟩ : ∃ x, l[k]? = some x := ⟨_, List.getElem?_eq_getElem hlt⟩
      have c0 := hcell k x hx
      have hs1 : someN9 (l.take (k + 1)) = someN9 (l.take k) + if 0 < x then 1 else 0 := by rw [take_snoc10 l k x hx, some_snoc]
      have hs2 : oneN9 (l.take (k + 1)) = oneN9 (l.take k) + if x = 1 then 1 else 0 := by rw [take_snoc10 l k x hx, one_snoc]
      have b1 : someN9 (l.take k) ≤ 1048576 := Nat.le_trans List.countP_le_length (by rw [List.length_take]; omega)
      have b2 : oneN9 (l.take k) ≤ 1048576 := Nat.le_trans List.countP_le_length (by rw [List.length_take]; omega)
      generalize someN9 (l.take k) = A at *
      generalize oneN9 (l.take k) = C at *
      have hk1 : (k : Int) < (l.length : Int) := by omega
      clear hcell hx
      by_cases h0 : 0 < x
      · rw [if_pos h0] at hs1
        by_cases h1 : x = 1
        · rw [if_pos h1] at hs2
          subst h1
          have H1 := Lib.hid (⟨hs1, hs2⟩ : _ ∧ _)
          clear hs1 hs2
          go_wp2_with fail
          go_roundg (l.length - (k + 1))
          case measure => omega
          case rel => exact ⟨k + 1, by omega, by rw [H1.out.1]; go_num, by rw [H1.out.2]; go_num, by go_num, rfl⟩
        · rw [if_neg h1] at hs2
          have j1 : (x == 1) = false := beq_eq_false_iff_ne.2 h1
          have H1 := Lib.hid (⟨hs1, hs2⟩ : _ ∧ _)
          clear hs1 hs2 h1
          go_wp2_with fail
          go_roundg (l.length - (k + 1))
          case measure => omega
          case rel => exact ⟨k + 1, by omega, by rw [H1.out.1]; go_num, by rw [H1.out.2]; rfl, by go_num, rfl⟩
      · rw [if_neg h0] at hs1
        rw [if_neg (by omega)] at hs2
        have j1 : (x == 1) = false := beq_eq_false_iff_ne.2 (by omega)
        have H1 := Lib.hid (⟨hs1, hs2⟩ : _ ∧ _)
        clear hs1 hs2
        go_wp2_with fail
        go_roundg (l.length - (k + 1))
        case measure => omega
        case rel => exact ⟨k + 1, by omega, by rw [H1.out.1]; rfl, by rw [H1.out.2]; rfl, by go_num, rfl⟩
    · obtain rfl : k = l.length := by omega
      rw [List.take_length]
      have hR := HR.out
      have b1 : someN9 l ≤ 1048576 := Nat.le_trans List.countP_le_length hl
      have b2 : oneN9 l ≤ 1048576 := Nat.le_trans List.countP_le_length hl
      have hST := HST.out
      clear HR HST
      generalize stateN l = SS at *
      generalize someN9 l = A at *
      generalize oneN9 l = C at *
      obtain ⟨s1, s2⟩ := SS
      simp only at hST hR
      have HST := Lib.hid hST
      clear hST
      go_wp2_with fail
      refine HST.out.mono ?_
      clear HST
      rintro e w1 ⟨rfl, rfl⟩
      by_cases q1 : s1 = 0
      · subst q1
        rw [decide_eq_true rfl, Bool.true_or] at hR
        subst hR
        go_wp2_with fail
        go_ret
        exact ⟨rfl, rfl⟩
      · have j1 : (s1 == 0) = false := beq_eq_false_iff_ne.2 q1
        rw [decide_eq_false q1, Bool.false_or] at hR
        by_cases q2 : A = 0
        · subst q2
          rw [decide_eq_true rfl, Bool.true_or] at hR
          subst hR
          clear q1
          go_wp2_with fail
          go_ret
          exact ⟨rfl, rfl⟩
        · have j2 : (A == 0) = false := beq_eq_false_iff_ne.2 q2
          have j2' : ((A : Int) == 0) = false := beq_eq_false_iff_ne.2 (by omega)
          rw [decide_eq_false q2, Bool.false_or] at hR
          by_cases q3 : A = 1
          · subst q3
            rw [decide_eq_true rfl, Bool.true_and] at hR
            by_cases q4 : C = 1
            · subst q4
              rw [decide_eq_true rfl] at hR
              subst hR
              clear q1 q2
              go_wp2_with fail
              go_ret
              exact ⟨rfl, rfl⟩
            · have j3 : (C == 1) = false := beq_eq_false_iff_ne.2 q4
              have j3' : ((C : Int) == 1) = false := beq_eq_false_iff_ne.2 (by omega)
              rw [decide_eq_false q4] at hR
              subst hR
              clear q1 q2 q4
              go_wp2_with fail
              go_ret
              exact ⟨rfl, rfl⟩
          · have j3 : (A == 1) = false := beq_eq_false_iff_ne.2 q3
            have j3' : ((A : Int) == 1) = false := beq_eq_false_iff_ne.2 (by omega)
            rw [decide_eq_false q3, Bool.false_and] at hR
            subst hR
            clear q1 q2 q3
            go_wp2_with fail
            go_ret
            exact ⟨rfl, rfl⟩
theorem fix_at8 : ∀ i, i < 288 → fixL[i]? = some (if i < 144 then 8 else if i ≤ 255 then 9 else if i ≤ 279 then 7 else 8) := by decide +kernel
theorem fix_take (k : Nat) (h : k < 288) : fixL.take (k + 1) = fixL.take k ++ [if k < 144 then 8 else if k ≤ 255 then 9 else if k ≤ 279 then 7 else 8] := take_snoc10 _ _ _ (fix_at8 k h)
theorem fixD_take (k : Nat) (h : k < 30) : fixD.take (k + 1) = fixD.take k ++ [5] := take_snoc10 _ _ _ (by unfold fixD; rw [List.getElem?_replicate, if_pos h])
set_option maxRecDepth 100000 in
set_option maxHeartbeats 16000000 in
theorem dfixed_walk (w : World) : Calls Tryz.prog 27 #[] w (NewPair w fixL fixD) := by
  have hL : fixL.length = 288 := by decide +kernel
  have hDl : fixD.length = 30 := by decide +kernel
  obtain ⟨i0, hif, hz0, hz1, hz2⟩ := info_parts infoInt7
  have HS := Lib.hid ((Sep.start w).new (Ext.refl _ _) (oIn none 0 []) (World.ownsRow_nil _ _ _ _) (by simp [oIn, oSl, Value.ownBlock]))
  go_enter Tryz.func27, Tryz.ntmps27
  go_wp2_with fail
  go_loopg [2, 4] 288 (fun g lv iv wr => ∃ (k : Nat) (ao : Option Addr) (cap : Nat) (l : List Int), g + k = 288 ∧ l.length = k ∧ l = fixL.take k ∧ lv = .slice ao l.length cap ∧ iv = .int .i64 k ∧ Sep w wr [oIn ao cap l])
  case atStart => exact ⟨0, none, 0, [], by omega, rfl, rfl, rfl, rfl, HS.out⟩
  case round =>
    clear HS
    obtain ⟨k, ao, cap, l, hk, hlk, hl, rfl, rfl, S⟩ := hrel
    have hown : wr.ownsRow 0 3 1 (.slice ao l.length cap) l.length (l.map iz) := S.get 0 rfl
    have HS := Lib.hid S
    have HL := Lib.hid hl
    have HLK := Lib.hid hlk
    have hlb : l.length ≤ 288 := by omega
    clear S hl hlk
    by_cases hlt : k < 288
    · have hft := fix_take k hlt
      have hk8 : (k : Int) < 288 := by omega
      by_cases g1 : k < 144
      · rw [if_pos g1] at hft
        have g1' : (k : Int) < 144 := by omega
        rw [← HL.out] at hft
        have HFT := Lib.hid hft
        clear hft HL
        go_wp2_with (at_builtin; refine wpList_append_lies _ rfl _ _ 35 rfl 0 3 i0 _ 1 8 Tryz.underlying35 hif hz0 hz1 hz2 rfl (by decide) (.slice ao l.length cap) l.length (l.map iz) rfl (World.ownsRow.alloc hown _) ⟨wr.heap.size, 0, none⟩ 1 1 [iz 8] rfl rfl (cell_one_new _ _ _) (by simp [Value.oneCell']) (by decide) (by unfold maxLen; omega) (by omega) (by omega) (wr.heap.size + 1) (by simp) ?_; intro g1 cap1 w2 hown1 hgrow1 hat1 hlt1; have P1 := push_local (cap := cap1) (n := l.length + 1) hgrow1 hat1; have S2 := HS.out.upd 0 (oSl 3 1 (.slice (some ⟨g1, 0, none⟩) (l.length + 1) cap1) (l ++ [8]).length ((l ++ [8]).map iz)) rfl P1.1 P1.2 (by rw [List.map_append, List.length_append]; exact hown1); have H2 := Lib.hid S2; clear S2 P1 hown1 hgrow1 hat1 hown)
        go_roundg (288 - (k + 1))
        case measure => omega
        case rel => exact ⟨k + 1, _, cap1, l ++ [8], by omega, by rw [List.length_append, HLK.out]; rfl, HFT.out.symm, by rw [List.length_append]; rfl, by go_num, by have S := H2.out; simpa only [oIn, List.length_append, List.length_singleton, List.set_cons_zero] using S⟩
      · rw [if_neg g1] at hft
        have g1' : (144 : Int) ≤ (k : Int) := by omega
        by_cases g2 : k ≤ 255
        · rw [if_pos g2] at hft
          have g2' : (k : Int) ≤ 255 := by omega
          rw [← HL.out] at hft
          have HFT := Lib.hid hft
          clear hft HL
          go_wp2_with (at_builtin; refine wpList_append_lies _ rfl _ _ 35 rfl 0 3 i0 _ 1 8 Tryz.underlying35 hif hz0 hz1 hz2 rfl (by decide) (.slice ao l.length cap) l.length (l.map iz) rfl (World.ownsRow.alloc hown _) ⟨wr.heap.size, 0, none⟩ 1 1 [iz 9] rfl rfl (cell_one_new _ _ _) (by simp [Value.oneCell']) (by decide) (by unfold maxLen; omega) (by omega) (by omega) (wr.heap.size + 1) (by simp) ?_; intro g1 cap1 w2 hown1 hgrow1 hat1 hlt1; have P1 := push_local (cap := cap1) (n := l.length + 1) hgrow1 hat1; have S2 := HS.out.upd 0 (oSl 3 1 (.slice (some ⟨g1, 0, none⟩) (l.length + 1) cap1) (l ++ [9]).length ((l ++ [9]).map iz)) rfl P1.1 P1.2 (by rw [List.map_append, List.length_append]; exact hown1); have H2 := Lib.hid S2; clear S2 P1 hown1 hgrow1 hat1 hown)
          go_roundg (288 - (k + 1))
          case measure => omega
          case rel => exact ⟨k + 1, _, cap1, l ++ [9], by omega, by rw [List.length_append, HLK.out]; rfl, HFT.out.symm, by rw [List.length_append]; rfl, by go_num, by have S := H2.out; simpa only [oIn, List.length_append, List.length_singleton, List.set_cons_zero] using S⟩
        · rw [if_neg g2] at hft
          have g2' : (256 : Int) ≤ (k : Int) := by omega
          by_cases g3 : k ≤ 279
          · rw [if_pos g3] at hft
            have g3' : (k : Int) ≤ 279 := by omega
            rw [← HL.out] at hft
            have HFT := Lib.hid hft
            clear hft HL
            go_wp2_with (at_builtin; refine wpList_append_lies _ rfl _ _ 35 rfl 0 3 i0 _ 1 8 Tryz.underlying35 hif hz0 hz1 hz2 rfl (by decide) (.slice ao l.length cap) l.length (l.map iz) rfl (World.ownsRow.alloc hown _) ⟨wr.heap.size, 0, none⟩ 1 1 [iz 7] rfl rfl (cell_one_new _ _ _) (by simp [Value.oneCell']) (by decide) (by unfold maxLen; omega) (by omega) (by omega) (wr.heap.size + 1) (by simp) ?_; intro g1 cap1 w2 hown1 hgrow1 hat1 hlt1; have P1 := push_local (cap := cap1) (n := l.length + 1) hgrow1 hat1; have S2 := HS.out.upd 0 (oSl 3 1 (.slice (some ⟨g1, 0, none⟩) (l.length + 1) cap1) (l ++ [7]).length ((l ++ [7]).map iz)) rfl P1.1 P1.2 (by rw [List.map_append, List.length_append]; exact hown1); have H2 := Lib.hid S2; clear S2 P1 hown1 hgrow1 hat1 hown)
            go_roundg (288 - (k + 1))
            case measure => omega
            case rel => exact ⟨k + 1, _, cap1, l ++ [7], by omega, by rw [List.length_append, HLK.out]; rfl, HFT.out.symm, by rw [List.length_append]; rfl, by go_num, by have S := H2.out; simpa only [oIn, List.length_append, List.length_singleton, List.set_cons_zero] using S⟩
          · rw [if_neg g3] at hft
            have g3' : (280 : Int) ≤ (k : Int) := by omega
            rw [← HL.out] at hft
            have HFT := Lib.hid hft
            clear hft HL
            go_wp2_with (at_builtin; refine wpList_append_lies _ rfl _ _ 35 rfl 0 3 i0 _ 1 8 Tryz.underlying35 hif hz0 hz1 hz2 rfl (by decide) (.slice ao l.length cap) l.length (l.map iz) rfl (World.ownsRow.alloc hown _) ⟨wr.heap.size, 0, none⟩ 1 1 [iz 8] rfl rfl (cell_one_new _ _ _) (by simp [Value.oneCell']) (by decide) (by unfold maxLen; omega) (by omega) (by omega) (wr.heap.size + 1) (by simp) ?_; intro g1 cap1 w2 hown1 hgrow1 hat1 hlt1; have P1 := push_local (cap := cap1) (n := l.length + 1) hgrow1 hat1; have S2 := HS.out.upd 0 (oSl 3 1 (.slice (some ⟨g1, 0, none⟩) (l.length + 1) cap1) (l ++ [8]).length ((l ++ [8]).map iz)) rfl P1.1 P1.2 (by rw [List.map_append, List.length_append]; exact hown1); have H2 := Lib.hid S2; clear S2 P1 hown1 hgrow1 hat1 hown)
            go_roundg (288 - (k + 1))
            case measure => omega
            case rel => exact ⟨k + 1, _, cap1, l ++ [8], by omega, by rw [List.length_append, HLK.out]; rfl, HFT.out.symm, by rw [List.length_append]; rfl, by go_num, by have S := H2.out; simpa only [oIn, List.length_append, List.length_singleton, List.set_cons_zero] using S⟩
    · obtain rfl : k = 288 := by omega
      have hl := HL.out
      rw [List.take_of_length_le (by omega)] at hl
      clear HL
      have hlk := HLK.out
      clear HLK hlb
      clear hown
      have HS1 := Lib.hid HS.out
      have HS := Lib.hid (HS1.out.new (Ext.refl _ _) (oIn none 0 []) (World.ownsRow_nil _ _ _ _) (by simp [oIn, oSl, Value.ownBlock]))
      have HLL := Lib.hid (⟨hl, hlk⟩ : _ ∧ _)
      clear hl hlk HS1
      obtain ⟨LL, hLL⟩ : ∃ LL, l = LL := ⟨_, rfl⟩
      subst hLL
      obtain ⟨LL, hLL⟩ : ∃ LL, LL = l := ⟨_, rfl⟩
      rw [← hLL] at HS HLL ⊢
      clear hLL
      go_wp2_with fail
      go_loopg [3, 6] 30 (fun g dv jv wr => ∃ (k : Nat) (ao2 : Option Addr) (cap2 : Nat) (l : List Int), g + k = 30 ∧ l.length = k ∧ l = fixD.take k ∧ dv = .slice ao2 l.length cap2 ∧ jv = .int .i64 k ∧ Sep w wr [oIn ao2 cap2 l, oIn ao cap LL])
      case atStart => exact ⟨0, none, 0, [], by omega, rfl, rfl, rfl, rfl, HS.out⟩
      case round =>
        clear HS
        obtain ⟨k, ao2, cap2, l, hk, hlk, hl, rfl, rfl, S⟩ := hrel
        have hown : wr.ownsRow 0 3 1 (.slice ao2 l.length cap2) l.length (l.map iz) := S.get 0 rfl
        have HS := Lib.hid S
        have HL := Lib.hid hl
        have HLK := Lib.hid hlk
        have hlb : l.length ≤ 30 := by omega
        clear S hl hlk
        by_cases hlt : k < 30
        · have hft := fixD_take k hlt
          have hk8 : (k : Int) < 30 := by omega
          rw [← HL.out] at hft
          have HFT := Lib.hid hft
          clear hft HL
          go_wp2_with (at_builtin; refine wpList_append_lies _ rfl _ _ 35 rfl 0 3 i0 _ 1 8 Tryz.underlying35 hif hz0 hz1 hz2 rfl (by decide) (.slice ao2 l.length cap2) l.length (l.map iz) rfl (World.ownsRow.alloc hown _) ⟨wr.heap.size, 0, none⟩ 1 1 [iz 5] rfl rfl (cell_one_new _ _ _) (by simp [Value.oneCell']) (by decide) (by unfold maxLen; omega) (by omega) (by omega) (wr.heap.size + 1) (by simp) ?_; intro g1 cap1 w2 hown1 hgrow1 hat1 hlt1; have P1 := push_local (cap := cap1) (n := l.length + 1) hgrow1 hat1; have S2 := HS.out.upd 0 (oSl 3 1 (.slice (some ⟨g1, 0, none⟩) (l.length + 1) cap1) (l ++ [5]).length ((l ++ [5]).map iz)) rfl P1.1 P1.2 (by rw [List.map_append, List.length_append]; exact hown1); have H2 := Lib.hid S2; clear S2 P1 hown1 hgrow1 hat1 hown)
          go_roundg (30 - (k + 1))
          case measure => omega
          case rel => exact ⟨k + 1, _, cap1, l ++ [5], by omega, by rw [List.length_append, HLK.out]; rfl, HFT.out.symm, by rw [List.length_append]; rfl, by go_num, by have S := H2.out; simpa only [oIn, List.length_append, List.length_singleton, List.set_cons_zero] using S⟩
        · obtain rfl : k = 30 := by omega
          have hl := HL.out
          rw [List.take_of_length_le (by omega)] at hl
          clear HL hown
          go_wp2_with fail
          have S := HS.out
          have e1 := HLL.out.1
          subst e1 hl
          refine bodyPost_ret (results_tmp2 rfl _ _ _) rfl ?_
          refine ⟨ao, cap, ao2, cap2, by rw [hL]; rfl, S.ext, S.get 1 rfl, S.get 0 rfl, fun q hq => S.base (oIn ao cap fixL) (by simp) q hq, fun q hq => S.base (oIn ao2 cap2 fixD) (by simp) q hq⟩
end Go.Proofs.YtapcfffmgdpmcaaGreat.If

/-! IpF: inflate: the document's coded walked. -/
namespace Go.Proofs.YtapcfffmgdpmcaaGreat.If
open Go.RowKit Bt Hu

theorem dput_p (B b : Nat) (t : St) : (dput B b t).p = t.p := by
  unfold dput
  split
  · rfl
  · split <;> rfl
theorem dput_len (B b : Nat) (t : St) : t.out.length ≤ (dput B b t).out.length := by
  unfold dput
  split
  · exact Nat.le_refl _
  · split
    · exact Nat.le_refl _
    · simp only [List.length_append]; omega
theorem dget_p (s : ByteArray) (n : Nat) (t : St) : t.p ≤ (dget s n t).2.p ∧ (dget s n t).2.out = t.out := by
  unfold dget
  split
  · exact ⟨Nat.le_refl _, rfl⟩
  · split
    · exact ⟨by simp, rfl⟩
    · exact ⟨Nat.le_refl _, rfl⟩
theorem dsym_p (s : ByteArray) (D : List Int) (t : St) (hp : t.p ≤ 8 * s.size) : t.p ≤ (dsym s D t).2.p ∧ (dsym s D t).2.out = t.out ∧ ((dsym s D t).2.e = 0 → t.p < (dsym s D t).2.p) := by
  unfold dsym
  by_cases h0 : t.e ≠ 0
  · rw [if_pos h0]
    exact ⟨Nat.le_refl _, rfl, fun h => absurd h h0⟩
  · rw [if_neg h0]
    simp only
    rw [read_doc]
    exact ⟨(rdD_place D (bit s false) (8 * s.size) 15 1 0 t.p hp).1, trivial, fun h => (rdD_ok D (bit s false) (8 * s.size) 15 1 0 t.p (by omega) h).1⟩
section
variable {w0 w : World} {ub rb : Nat} {Fr' : List Nat} {s : ByteArray} {B : Nat} {t : St} {L : List Ob}
set_option maxRecDepth 100000 in
set_option maxHeartbeats 4000000 in
theorem d_coded_dead (v1 v2 : Value) (h0 : t.e ≠ 0) (S : DS w0 w ub rb Fr' s B t L) :
    Calls Tryz.prog 29 #[.pointer (some ⟨ub, 0, none⟩), v1, v2] w fun e w' => e = .returned (.tuple #[]) ∧ DS w0 w' ub rb Fr' s B t L := by
  obtain ⟨ao, cap, _, _, _, c3, _⟩ := S.cells
  have HS := Lib.hid S
  have hb : (t.e == 0) = false := beq_eq_false_iff_ne.2 h0
  clear S
  generalize t.e = te at *
  clear h0
  go_enter Tryz.func29, Tryz.ntmps29
  go_wp2_with fail
  go_loopg [6] 1 (fun g _ wr => DS w0 wr ub rb Fr' s B t L ∧ w = wr)
  case atStart => exact ⟨HS.out, rfl⟩
  case round =>
    obtain ⟨S, rfl⟩ := hrel
    clear S
    go_wp2_with fail
    go_end0
    exact ⟨rfl, HS.out⟩
set_option maxRecDepth 100000 in
set_option maxHeartbeats 32000000 in
theorem d_coded (i1 i2 : Nat) {tb1 tb2 : Nat} {Ft1 Ft2 : List Nat} {D1 D2 : List Int} (hT1 : L[i1]? = some (oDT tb1 Ft1 D1)) (hT2 : L[i2]? = some (oDT tb2 Ft2 D2)) (hD1 : D1.length ≤ 288) (hD2 : D2.length ≤ 288) (hs : s.size ≤ 1048576) (hB : B ≤ 1099511627776) (S : DS w0 w ub rb Fr' s B t L) :
    Calls Tryz.prog 29 #[.pointer (some ⟨ub, 0, none⟩), .pointer (some ⟨tb1, 0, none⟩), .pointer (some ⟨tb2, 0, none⟩)] w fun e w' => e = .returned (.tuple #[]) ∧ DS w0 w' ub rb Fr' s B (dcoded s B D1 D2 t) L := by
  have hp := S.1
  have HS := Lib.hid S
  have HT := Lib.hid (⟨hT1, hT2⟩ : _ ∧ _)
  obtain ⟨R, hR⟩ : ∃ R, dcoded s B D1 D2 t = R := ⟨_, rfl⟩
  rw [hR]
  unfold dcoded at hR
  have HR := Lib.hid hR
  clear S hT1 hT2 hR
  go_enter Tryz.func29, Tryz.ntmps29
  go_wp2_with fail
  go_loopg [6] (8 * s.size - t.p + 1) (fun g _ wr => ∃ t : St, (t.e = 0 → 8 * s.size < t.p + g) ∧ dcodedF s B D1 D2 g t = R ∧ DS w0 wr ub rb Fr' s B t L)
  case atStart => exact ⟨t, fun _ => by omega, HR.out, HS.out⟩
  case round =>
    clear HS HR hp
    obtain ⟨t, hg, hR, S⟩ := hrel
    have hp := S.1
    obtain ⟨ao, cap, _, _, _, c3, _⟩ := S.cells
    have HS := Lib.hid S
    clear S
    by_cases h0 : t.e = 0
    · obtain ⟨g, rfl⟩ : ∃ g, gk = g + 1 := ⟨gk - 1, by have := hg h0; omega⟩
      have hg := hg h0
      rw [dcodedF, if_neg (fun h => h h0)] at hR
      rw [h0] at c3
      have HR := Lib.hid hR
      clear hR
      go_wp2_with fail
      refine (d_sym i1 HT.out.1 hD1 hs HS.out).mono ?_
      rintro e w1 ⟨rfl, S⟩
      have HS := Lib.hid S
      have hx9 := dsym_lt (s := s) D1 t
      have hpp := dsym_p s D1 t hp
      have hR := HR.out
      clear S HR c3
      generalize dsym s D1 t = Y at *
      obtain ⟨x, t1⟩ := Y
      simp only at HS hx9 hpp hR ⊢
      unfold dcodX at hR
      have hx8 : x < 288 := by omega
      have hp1 := HS.out.1
      obtain ⟨ao, cap, _, _, _, c3, _⟩ := HS.out.cells
      by_cases he : t1.e = 0
      · have hg1 : 8 * s.size < t1.p + g := by have := hpp.2.2 he; omega
        rw [he] at c3
        clear hpp hx9
        by_cases q0 : x = 256
        · subst q0
          rw [if_pos (.inr rfl)] at hR
          subst hR
          go_wp2_with fail
          first | go_end0 | refine bodyPost_ret (results_none rfl _ _ _) rfl ?_
          exact ⟨rfl, HS.out⟩
        · rw [if_neg (by omega)] at hR
          have j0 : (x == 256) = false := beq_eq_false_iff_ne.2 q0
          have j0' : ((x : Int) == 256) = false := beq_eq_false_iff_ne.2 (by omega)
          by_cases q1 : x < 256
          · rw [if_pos q1] at hR
            have q1' : (x : Int) < 256 := by omega
            have HR := Lib.hid hR
            have hpu := dput_p B x t1
            clear hR
            go_wp2_with fail
            refine (d_put x hB HS.out).mono ?_
            rintro e w2 ⟨rfl, S⟩
            have HS := Lib.hid S
            clear S j0 j0' c3
            go_wp2_with fail
            go_roundg g
            case measure => omega
            case rel => exact ⟨_, fun _ => by omega, HR.out, HS.out⟩
          · rw [if_neg q1] at hR
            have q1' : ¬ (x : Int) < 256 := by omega
            by_cases q2 : 285 < x
            · rw [if_pos q2] at hR
              have q2' : (285 : Int) < (x : Int) := by omega
              have HR := Lib.hid hR
              clear hR
              go_wp2_with fail
              refine (d_fail 4 HS.out).mono ?_
              rintro e w2 ⟨rfl, S⟩
              rw [HR.out] at S
              have HS := Lib.hid S
              clear S j0 j0' c3
              go_wp2_with fail
              first | go_end0 | refine bodyPost_ret (results_none rfl _ _ _) rfl ?_
              exact ⟨rfl, HS.out⟩
            · rw [if_neg q2] at hR
              have q2' : ¬ (285 : Int) < (x : Int) := by omega
              unfold dag at hR
              have ht := len_table x (by omega)
              have HLW := Lib.hid (fun w => (by have := dlength_walk (x : Int) w; rw [(lenBZ_at x (by omega) (by omega)).1, (lenBZ_at x (by omega) (by omega)).2] at this; exact this : Calls Tryz.prog 58 #[.int .i64 (x : Int)] w fun e w' => e = .returned (.tuple #[.int .i64 (lenB x), .int .i64 (lenX x)]) ∧ w = w'))
              generalize lenB x = bB at *
              generalize lenX x = bX at *
              have hbB := ht.2
              have hbX := ht.1
              have HR := Lib.hid hR
              clear ht hR
              go_wp2_with fail
              refine (HLW.out _).mono ?_
              clear HLW
              rintro e w2 ⟨rfl, rfl⟩
              clear j0 j0' c3
              go_wp2_with fail
              refine (d_get bX (by omega) hs HS.out).mono ?_
              rintro e w2 ⟨rfl, S⟩
              have HS := Lib.hid S
              have hu := dget_lt (s := s) bX (by omega) t1
              have hpp := dget_p s bX t1
              have hR := HR.out
              clear S HR
              generalize dget s bX t1 = Y at *
              obtain ⟨u, t2⟩ := Y
              simp only at HS hu hpp hR ⊢
              have hp2 := HS.out.1
              unfold dagA at hR
              obtain ⟨n, hn⟩ : ∃ n, bB + u = n := ⟨_, rfl⟩
              have hni : (bB : Int) + (u : Int) = (n : Int) := by omega
              have hn9 : n < 100000 := by omega
              rw [hn] at hR
              have HR := Lib.hid hR
              clear hR hn
              go_wp2_with fail
              refine (d_sym i2 HT.out.2 hD2 hs HS.out).mono ?_
              rintro e w3 ⟨rfl, S⟩
              have HS := Lib.hid S
              have hd9 := dsym_lt (s := s) D2 t2
              have hdz := dsym_zero (s := s) D2 t2
              have hpq := dsym_p s D2 t2 hp2
              have hR := HR.out
              clear S HR hni
              generalize dsym s D2 t2 = Y at *
              obtain ⟨d, t3⟩ := Y
              simp only at HS hd9 hdz hpq hR ⊢
              unfold dagB at hR
              have hd8 : d < 288 := by omega
              have hp3 := HS.out.1
              have hg3 : 8 * s.size < t3.p + g := by omega
              clear hd9 hpp hpq
              obtain ⟨ao, cap, _, _, _, c3, _⟩ := HS.out.cells
              by_cases he3 : t3.e = 0
              · rw [he3] at c3
                clear hdz
                by_cases hd : 29 < d
                · rw [if_pos ⟨he3, hd⟩, dcodedF_dead (by unfold dfail; rw [if_pos he3]; simp)] at hR
                  have hd' : (29 : Int) < (d : Int) := by omega
                  have HR := Lib.hid hR
                  clear hR
                  go_wp2_with fail
                  refine (d_fail 4 HS.out).mono ?_
                  rintro e w4 ⟨rfl, S⟩
                  rw [HR.out] at S
                  have HS := Lib.hid S
                  clear S c3
                  go_wp2_with fail
                  first | go_end0 | refine bodyPost_ret (results_none rfl _ _ _) rfl ?_
                  exact ⟨rfl, HS.out⟩
                · rw [if_neg (fun h => hd h.2)] at hR
                  have hd' : ¬ (29 : Int) < (d : Int) := by omega
                  clear he3
                  have ht := dst_table d (by omega)
                  have HDW := Lib.hid (fun w => (by have := ddistance_walk (d : Int) w; rw [(dstBZ_at d (by omega)).1, (dstBZ_at d (by omega)).2] at this; exact this : Calls Tryz.prog 59 #[.int .i64 (d : Int)] w fun e w' => e = .returned (.tuple #[.int .i64 (dstB d), .int .i64 (dstX d)]) ∧ w = w'))
                  unfold dagC at hR
                  generalize dstB d = dB at *
                  generalize dstX d = dX at *
                  have hdX := ht.1
                  have hdB := ht.2.1
                  have hdB1 := ht.2.2
                  have HR := Lib.hid hR
                  clear ht hR
                  go_wp2_with fail
                  refine (HDW.out _).mono ?_
                  clear HDW
                  rintro e w4 ⟨rfl, rfl⟩
                  clear c3
                  go_wp2_with fail
                  refine (d_get dX (by omega) hs HS.out).mono ?_
                  rintro e w5 ⟨rfl, S⟩
                  have HS := Lib.hid S
                  have hv := dget_lt (s := s) dX (by omega) t3
                  have hpp := dget_p s dX t3
                  have hR := HR.out
                  clear S HR
                  generalize dget s dX t3 = Y at *
                  obtain ⟨v, t4⟩ := Y
                  simp only at HS hv hpp hR ⊢
                  have hg4 : 8 * s.size < t4.p + g := by omega
                  obtain ⟨back, hback⟩ : ∃ back, dB + v = back := ⟨_, rfl⟩
                  have hbi : (dB : Int) + (v : Int) = (back : Int) := by omega
                  have hb1 : 1 ≤ back := by omega
                  have hb9 : back < 100000 := by omega
                  rw [hback] at hR
                  clear hback hpp
                  obtain ⟨ao, cap, _, c1, _, c3, _⟩ := HS.out.cells
                  by_cases he4 : t4.e = 0
                  · rw [he4] at c3
                    by_cases hbo : t4.out.length < back
                    · rw [if_pos ⟨he4, hbo⟩, dcodedF_dead (by unfold dfail; rw [if_pos he4]; simp)] at hR
                      have hbo' : (t4.out.length : Int) < (back : Int) := by omega
                      have HR := Lib.hid hR
                      clear hR he4
                      go_wp2_with fail
                      refine (d_fail 4 HS.out).mono ?_
                      rintro e w6 ⟨rfl, S⟩
                      rw [HR.out] at S
                      have HS := Lib.hid S
                      clear S c1 c3
                      go_wp2_with fail
                      first | go_end0 | refine bodyPost_ret (results_none rfl _ _ _) rfl ?_
                      exact ⟨rfl, HS.out⟩
                    · rw [if_neg (fun h => hbo h.2)] at hR
                      have hbo' : ¬ (t4.out.length : Int) < (back : Int) := by omega
                      have HR := Lib.hid (⟨hR, fun (_ : t4.e = 0) => (show back ≤ t4.out.length by omega)⟩ : _ ∧ _)
                      clear hR he4 hbo
                      go_wp2_with fail
                      clear c1 c3 hbo' hbi
                      obtain ⟨G, hG⟩ : ∃ G, g = G := ⟨_, rfl⟩
                      subst hG
                      go_loopg [12] n (fun g2 iv wr2 => ∃ (k : Nat) (t : St), g2 + k = n ∧ iv = .int .i64 k ∧ (t.e = 0 → back ≤ t.out.length) ∧ 8 * s.size < t.p + g ∧ dcodedF s B D1 D2 g (dcopyL B back g2 t) = R ∧ DS w0 wr2 ub rb Fr' s B t L)
                      case atStart => exact ⟨0, _, by omega, by go_num, HR.out.2, hg4, HR.out.1, HS.out⟩
                      case round =>
                        clear HS HR hg4
                        obtain ⟨k, t, hk, rfl, hbo, hg5, hR, S⟩ := hrel
                        obtain ⟨ao, cap, _, c1, _, c3, _, _, hrow⟩ := S.cells
                        have HS := Lib.hid S
                        clear S
                        cases gk with
                        | zero =>
                          obtain rfl : k = n := by omega
                          rw [dcopyL] at hR
                          have HR := Lib.hid hR
                          clear hR hrow c1 c3
                          go_wp2_with fail
                          go_roundg g
                          case measure => omega
                          case rel => exact ⟨t, fun _ => hg5, HR.out, HS.out⟩
                        | succ g2 =>
                          have hkn : (k : Int) < (n : Int) := by omega
                          by_cases h7 : t.e = 0
                          · rw [dcopyL, if_neg (fun h => h h7)] at hR
                            rw [h7] at c3
                            have hbo := hbo h7
                            obtain ⟨gb, cap2, hgb⟩ := own_at hrow (by omega)
                            injection hgb with e1 _ e3
                            subst e1 e3
                            obtain ⟨idx, hidx⟩ : ∃ idx, t.out.length - back = idx := ⟨_, rfl⟩
                            rw [hidx] at hR
                            have hix : (t.out.length : Int) - (back : Int) = (idx : Int) := by omega
                            have hio : (idx : Int) < (t.out.length : Int) := by omega
                            obtain ⟨b, hb⟩ : ∃ b, t.out[idx]? = some b := ⟨_, List.getElem?_eq_getElem (by omega)⟩
                            rw [List.getD_eq_getElem?_getD, hb, Option.getD_some] at hR
                            have c2 : wr.cell? ⟨gb, idx, none⟩ = some (b8 b) := ownsRow_at hrow (by rw [List.getElem?_map, hb]; rfl)
                            have d1 : ∀ x : Ex wr, x.w.cell? ⟨ub, 1, none⟩ = some (.slice (some ⟨gb, 0, none⟩) t.out.length cap) := fun x => x.cell c1
                            have d2 : ∀ x : Ex wr, x.w.cell? ⟨gb, idx, none⟩ = some (.int .u8 (b : Int)) := fun x => x.cell c2
                            have hl9 : t.out.length ≤ 9223372036854775807 := by
                              obtain ⟨cur, _, h1, h2, _⟩ := ownsRow_open hrow
                              unfold maxLen at h2
                              omega
                            have j3 : IntKind.i64.wrap ((t.out.length : Int) - (back : Int)) = (idx : Int) := by rw [hix]; exact IntWalk.i64_in _ (by omega)
                            have hlen := dput_len B b t
                            have hpu := dput_p B b t
                            have HR := Lib.hid hR
                            clear c1 c2 hrow hb hidx hR h7
                            go_wp2_with fail
                            refine wp_region_quiet_tail (C := fun w' => ∃ x : Ex wr, w' = x.w) 14 (by kernel_rfl) (by kernel_rfl) ⟨Ex.mk _ ((Ext.refl [] wr).drew), rfl⟩ ?_
                            simp only [List.take_succ_cons, List.take_zero, List.drop_succ_cons, List.drop_zero]
                            repeat (go_big_quiet_step (fail))
                            refine wpQuiet_nil ?_
                            rintro _ ⟨x, rfl⟩
                            clear d1 d2 j3 c3
                            have HS := Lib.hid (HS.out.quiet x.ext)
                            go_wp2_with fail
                            refine (d_put b hB HS.out).mono ?_
                            rintro e w7 ⟨rfl, S⟩
                            go_wp2_with fail
                            go_roundg g2
                            case measure => omega
                            case rel => exact ⟨k + 1, _, by omega, by go_num, fun _ => by omega, by omega, HR.out, S⟩
                          · rw [dcopyL_dead h7] at hR
                            have j7 : (t.e == 0) = false := beq_eq_false_iff_ne.2 h7
                            have HR := Lib.hid hR
                            generalize hte7 : t.e = te7 at c3 j7
                            clear hR hrow c1 h7 hbo hte7
                            go_wp2_with fail
                            go_roundg g
                            case measure => omega
                            case rel => exact ⟨t, fun _ => hg5, HR.out, HS.out⟩
                  · rw [if_neg (fun h => he4 h.1)] at hR
                    have j4 : (t4.e == 0) = false := beq_eq_false_iff_ne.2 he4
                    have HR := Lib.hid (⟨hR, fun (h : t4.e = 0) => (absurd h he4 : back ≤ t4.out.length)⟩ : _ ∧ _)
                    generalize hte9 : t4.e = te9 at c3 j4
                    clear hR he4
                    go_wp2_with fail
                    clear c1 c3 j4 hbi
                    obtain ⟨G, hG⟩ : ∃ G, g = G := ⟨_, rfl⟩
                    subst hG
                    go_loopg [12] n (fun g2 iv wr2 => ∃ (k : Nat) (t : St), g2 + k = n ∧ iv = .int .i64 k ∧ (t.e = 0 → back ≤ t.out.length) ∧ 8 * s.size < t.p + g ∧ dcodedF s B D1 D2 g (dcopyL B back g2 t) = R ∧ DS w0 wr2 ub rb Fr' s B t L)
                    case atStart => exact ⟨0, _, by omega, by go_num, HR.out.2, hg4, HR.out.1, HS.out⟩
                    case round =>
                      clear HS HR hg4
                      obtain ⟨k, t, hk, rfl, hbo, hg5, hR, S⟩ := hrel
                      obtain ⟨ao, cap, _, c1, _, c3, _, _, hrow⟩ := S.cells
                      have HS := Lib.hid S
                      clear S
                      cases gk with
                      | zero =>
                        obtain rfl : k = n := by omega
                        rw [dcopyL] at hR
                        have HR := Lib.hid hR
                        clear hR hrow c1 c3
                        go_wp2_with fail
                        go_roundg g
                        case measure => omega
                        case rel => exact ⟨t, fun _ => hg5, HR.out, HS.out⟩
                      | succ g2 =>
                        have hkn : (k : Int) < (n : Int) := by omega
                        by_cases h7 : t.e = 0
                        · rw [dcopyL, if_neg (fun h => h h7)] at hR
                          rw [h7] at c3
                          have hbo := hbo h7
                          obtain ⟨gb, cap2, hgb⟩ := own_at hrow (by omega)
                          injection hgb with e1 _ e3
                          subst e1 e3
                          obtain ⟨idx, hidx⟩ : ∃ idx, t.out.length - back = idx := ⟨_, rfl⟩
                          rw [hidx] at hR
                          have hix : (t.out.length : Int) - (back : Int) = (idx : Int) := by omega
                          have hio : (idx : Int) < (t.out.length : Int) := by omega
                          obtain ⟨b, hb⟩ : ∃ b, t.out[idx]? = some b := ⟨_, List.getElem?_eq_getElem (by omega)⟩
                          rw [List.getD_eq_getElem?_getD, hb, Option.getD_some] at hR
                          have c2 : wr.cell? ⟨gb, idx, none⟩ = some (b8 b) := ownsRow_at hrow (by rw [List.getElem?_map, hb]; rfl)
                          have d1 : ∀ x : Ex wr, x.w.cell? ⟨ub, 1, none⟩ = some (.slice (some ⟨gb, 0, none⟩) t.out.length cap) := fun x => x.cell c1
                          have d2 : ∀ x : Ex wr, x.w.cell? ⟨gb, idx, none⟩ = some (.int .u8 (b : Int)) := fun x => x.cell c2
                          have hl9 : t.out.length ≤ 9223372036854775807 := by
                            obtain ⟨cur, _, h1, h2, _⟩ := ownsRow_open hrow
                            unfold maxLen at h2
                            omega
                          have j3 : IntKind.i64.wrap ((t.out.length : Int) - (back : Int)) = (idx : Int) := by rw [hix]; exact IntWalk.i64_in _ (by omega)
                          have hlen := dput_len B b t
                          have hpu := dput_p B b t
                          have HR := Lib.hid hR
                          clear c1 c2 hrow hb hidx hR h7
                          go_wp2_with fail
                          refine wp_region_quiet_tail (C := fun w' => ∃ x : Ex wr, w' = x.w) 14 (by kernel_rfl) (by kernel_rfl) ⟨Ex.mk _ ((Ext.refl [] wr).drew), rfl⟩ ?_
                          simp only [List.take_succ_cons, List.take_zero, List.drop_succ_cons, List.drop_zero]
                          repeat (go_big_quiet_step (fail))
                          refine wpQuiet_nil ?_
                          rintro _ ⟨x, rfl⟩
                          clear d1 d2 j3 c3
                          have HS := Lib.hid (HS.out.quiet x.ext)
                          go_wp2_with fail
                          refine (d_put b hB HS.out).mono ?_
                          rintro e w7 ⟨rfl, S⟩
                          go_wp2_with fail
                          go_roundg g2
                          case measure => omega
                          case rel => exact ⟨k + 1, _, by omega, by go_num, fun _ => by omega, by omega, HR.out, S⟩
                        · rw [dcopyL_dead h7] at hR
                          have j7 : (t.e == 0) = false := beq_eq_false_iff_ne.2 h7
                          have HR := Lib.hid hR
                          generalize hte7 : t.e = te7 at c3 j7
                          clear hR hrow c1 h7 hbo hte7
                          go_wp2_with fail
                          go_roundg g
                          case measure => omega
                          case rel => exact ⟨t, fun _ => hg5, HR.out, HS.out⟩
              · have j3 : (t3.e == 0) = false := beq_eq_false_iff_ne.2 he3
                have hd0 := hdz he3
                rw [if_neg (fun h => he3 h.1)] at hR
                have hd : ¬ 29 < d := by omega
                have hd' : ¬ (29 : Int) < (d : Int) := by omega
                generalize hte : t3.e = te at c3 j3
                clear hdz he3 hd0
                have ht := dst_table d (by omega)
                have HDW := Lib.hid (fun w => (by have := ddistance_walk (d : Int) w; rw [(dstBZ_at d (by omega)).1, (dstBZ_at d (by omega)).2] at this; exact this : Calls Tryz.prog 59 #[.int .i64 (d : Int)] w fun e w' => e = .returned (.tuple #[.int .i64 (dstB d), .int .i64 (dstX d)]) ∧ w = w'))
                unfold dagC at hR
                generalize dstB d = dB at *
                generalize dstX d = dX at *
                have hdX := ht.1
                have hdB := ht.2.1
                have hdB1 := ht.2.2
                have HR := Lib.hid hR
                clear ht hR
                go_wp2_with fail
                refine (HDW.out _).mono ?_
                clear HDW
                rintro e w4 ⟨rfl, rfl⟩
                clear j3 c3
                go_wp2_with fail
                refine (d_get dX (by omega) hs HS.out).mono ?_
                rintro e w5 ⟨rfl, S⟩
                have HS := Lib.hid S
                have hv := dget_lt (s := s) dX (by omega) t3
                have hpp := dget_p s dX t3
                have hR := HR.out
                clear S HR
                generalize dget s dX t3 = Y at *
                obtain ⟨v, t4⟩ := Y
                simp only at HS hv hpp hR ⊢
                have hg4 : 8 * s.size < t4.p + g := by omega
                obtain ⟨back, hback⟩ : ∃ back, dB + v = back := ⟨_, rfl⟩
                have hbi : (dB : Int) + (v : Int) = (back : Int) := by omega
                have hb1 : 1 ≤ back := by omega
                have hb9 : back < 100000 := by omega
                rw [hback] at hR
                clear hback hpp
                obtain ⟨ao, cap, _, c1, _, c3, _⟩ := HS.out.cells
                by_cases he4 : t4.e = 0
                · rw [he4] at c3
                  by_cases hbo : t4.out.length < back
                  · rw [if_pos ⟨he4, hbo⟩, dcodedF_dead (by unfold dfail; rw [if_pos he4]; simp)] at hR
                    have hbo' : (t4.out.length : Int) < (back : Int) := by omega
                    have HR := Lib.hid hR
                    clear hR he4
                    go_wp2_with fail
                    refine (d_fail 4 HS.out).mono ?_
                    rintro e w6 ⟨rfl, S⟩
                    rw [HR.out] at S
                    have HS := Lib.hid S
                    clear S c1 c3
                    go_wp2_with fail
                    first | go_end0 | refine bodyPost_ret (results_none rfl _ _ _) rfl ?_
                    exact ⟨rfl, HS.out⟩
                  · rw [if_neg (fun h => hbo h.2)] at hR
                    have hbo' : ¬ (t4.out.length : Int) < (back : Int) := by omega
                    have HR := Lib.hid (⟨hR, fun (_ : t4.e = 0) => (show back ≤ t4.out.length by omega)⟩ : _ ∧ _)
                    clear hR he4 hbo
                    go_wp2_with fail
                    clear c1 c3 hbo' hbi
                    obtain ⟨G, hG⟩ : ∃ G, g = G := ⟨_, rfl⟩
                    subst hG
                    go_loopg [12] n (fun g2 iv wr2 => ∃ (k : Nat) (t : St), g2 + k = n ∧ iv = .int .i64 k ∧ (t.e = 0 → back ≤ t.out.length) ∧ 8 * s.size < t.p + g ∧ dcodedF s B D1 D2 g (dcopyL B back g2 t) = R ∧ DS w0 wr2 ub rb Fr' s B t L)
                    case atStart => exact ⟨0, _, by omega, by go_num, HR.out.2, hg4, HR.out.1, HS.out⟩
                    case round =>
                      clear HS HR hg4
                      obtain ⟨k, t, hk, rfl, hbo, hg5, hR, S⟩ := hrel
                      obtain ⟨ao, cap, _, c1, _, c3, _, _, hrow⟩ := S.cells
                      have HS := Lib.hid S
                      clear S
                      cases gk with
                      | zero =>
                        obtain rfl : k = n := by omega
                        rw [dcopyL] at hR
                        have HR := Lib.hid hR
                        clear hR hrow c1 c3
                        go_wp2_with fail
                        go_roundg g
                        case measure => omega
                        case rel => exact ⟨t, fun _ => hg5, HR.out, HS.out⟩
                      | succ g2 =>
                        have hkn : (k : Int) < (n : Int) := by omega
                        by_cases h7 : t.e = 0
                        · rw [dcopyL, if_neg (fun h => h h7)] at hR
                          rw [h7] at c3
                          have hbo := hbo h7
                          obtain ⟨gb, cap2, hgb⟩ := own_at hrow (by omega)
                          injection hgb with e1 _ e3
                          subst e1 e3
                          obtain ⟨idx, hidx⟩ : ∃ idx, t.out.length - back = idx := ⟨_, rfl⟩
                          rw [hidx] at hR
                          have hix : (t.out.length : Int) - (back : Int) = (idx : Int) := by omega
                          have hio : (idx : Int) < (t.out.length : Int) := by omega
                          obtain ⟨b, hb⟩ : ∃ b, t.out[idx]? = some b := ⟨_, List.getElem?_eq_getElem (by omega)⟩
                          rw [List.getD_eq_getElem?_getD, hb, Option.getD_some] at hR
                          have c2 : wr.cell? ⟨gb, idx, none⟩ = some (b8 b) := ownsRow_at hrow (by rw [List.getElem?_map, hb]; rfl)
                          have d1 : ∀ x : Ex wr, x.w.cell? ⟨ub, 1, none⟩ = some (.slice (some ⟨gb, 0, none⟩) t.out.length cap) := fun x => x.cell c1
                          have d2 : ∀ x : Ex wr, x.w.cell? ⟨gb, idx, none⟩ = some (.int .u8 (b : Int)) := fun x => x.cell c2
                          have hl9 : t.out.length ≤ 9223372036854775807 := by
                            obtain ⟨cur, _, h1, h2, _⟩ := ownsRow_open hrow
                            unfold maxLen at h2
                            omega
                          have j3 : IntKind.i64.wrap ((t.out.length : Int) - (back : Int)) = (idx : Int) := by rw [hix]; exact IntWalk.i64_in _ (by omega)
                          have hlen := dput_len B b t
                          have hpu := dput_p B b t
                          have HR := Lib.hid hR
                          clear c1 c2 hrow hb hidx hR h7
                          go_wp2_with fail
                          refine wp_region_quiet_tail (C := fun w' => ∃ x : Ex wr, w' = x.w) 14 (by kernel_rfl) (by kernel_rfl) ⟨Ex.mk _ ((Ext.refl [] wr).drew), rfl⟩ ?_
                          simp only [List.take_succ_cons, List.take_zero, List.drop_succ_cons, List.drop_zero]
                          repeat (go_big_quiet_step (fail))
                          refine wpQuiet_nil ?_
                          rintro _ ⟨x, rfl⟩
                          clear d1 d2 j3 c3
                          have HS := Lib.hid (HS.out.quiet x.ext)
                          go_wp2_with fail
                          refine (d_put b hB HS.out).mono ?_
                          rintro e w7 ⟨rfl, S⟩
                          go_wp2_with fail
                          go_roundg g2
                          case measure => omega
                          case rel => exact ⟨k + 1, _, by omega, by go_num, fun _ => by omega, by omega, HR.out, S⟩
                        · rw [dcopyL_dead h7] at hR
                          have j7 : (t.e == 0) = false := beq_eq_false_iff_ne.2 h7
                          have HR := Lib.hid hR
                          generalize hte7 : t.e = te7 at c3 j7
                          clear hR hrow c1 h7 hbo hte7
                          go_wp2_with fail
                          go_roundg g
                          case measure => omega
                          case rel => exact ⟨t, fun _ => hg5, HR.out, HS.out⟩
                · rw [if_neg (fun h => he4 h.1)] at hR
                  have j4 : (t4.e == 0) = false := beq_eq_false_iff_ne.2 he4
                  have HR := Lib.hid (⟨hR, fun (h : t4.e = 0) => (absurd h he4 : back ≤ t4.out.length)⟩ : _ ∧ _)
                  generalize hte9 : t4.e = te9 at c3 j4
                  clear hR he4
                  go_wp2_with fail
                  clear c1 c3 j4 hbi
                  obtain ⟨G, hG⟩ : ∃ G, g = G := ⟨_, rfl⟩
                  subst hG
                  go_loopg [12] n (fun g2 iv wr2 => ∃ (k : Nat) (t : St), g2 + k = n ∧ iv = .int .i64 k ∧ (t.e = 0 → back ≤ t.out.length) ∧ 8 * s.size < t.p + g ∧ dcodedF s B D1 D2 g (dcopyL B back g2 t) = R ∧ DS w0 wr2 ub rb Fr' s B t L)
                  case atStart => exact ⟨0, _, by omega, by go_num, HR.out.2, hg4, HR.out.1, HS.out⟩
                  case round =>
                    clear HS HR hg4
                    obtain ⟨k, t, hk, rfl, hbo, hg5, hR, S⟩ := hrel
                    obtain ⟨ao, cap, _, c1, _, c3, _, _, hrow⟩ := S.cells
                    have HS := Lib.hid S
                    clear S
                    cases gk with
                    | zero =>
                      obtain rfl : k = n := by omega
                      rw [dcopyL] at hR
                      have HR := Lib.hid hR
                      clear hR hrow c1 c3
                      go_wp2_with fail
                      go_roundg g
                      case measure => omega
                      case rel => exact ⟨t, fun _ => hg5, HR.out, HS.out⟩
                    | succ g2 =>
                      have hkn : (k : Int) < (n : Int) := by omega
                      by_cases h7 : t.e = 0
                      · rw [dcopyL, if_neg (fun h => h h7)] at hR
                        rw [h7] at c3
                        have hbo := hbo h7
                        obtain ⟨gb, cap2, hgb⟩ := own_at hrow (by omega)
                        injection hgb with e1 _ e3
                        subst e1 e3
                        obtain ⟨idx, hidx⟩ : ∃ idx, t.out.length - back = idx := ⟨_, rfl⟩
                        rw [hidx] at hR
                        have hix : (t.out.length : Int) - (back : Int) = (idx : Int) := by omega
                        have hio : (idx : Int) < (t.out.length : Int) := by omega
                        obtain ⟨b, hb⟩ : ∃ b, t.out[idx]? = some b := ⟨_, List.getElem?_eq_getElem (by omega)⟩
                        rw [List.getD_eq_getElem?_getD, hb, Option.getD_some] at hR
                        have c2 : wr.cell? ⟨gb, idx, none⟩ = some (b8 b) := ownsRow_at hrow (by rw [List.getElem?_map, hb]; rfl)
                        have d1 : ∀ x : Ex wr, x.w.cell? ⟨ub, 1, none⟩ = some (.slice (some ⟨gb, 0, none⟩) t.out.length cap) := fun x => x.cell c1
                        have d2 : ∀ x : Ex wr, x.w.cell? ⟨gb, idx, none⟩ = some (.int .u8 (b : Int)) := fun x => x.cell c2
                        have hl9 : t.out.length ≤ 9223372036854775807 := by
                          obtain ⟨cur, _, h1, h2, _⟩ := ownsRow_open hrow
                          unfold maxLen at h2
                          omega
                        have j3 : IntKind.i64.wrap ((t.out.length : Int) - (back : Int)) = (idx : Int) := by rw [hix]; exact IntWalk.i64_in _ (by omega)
                        have hlen := dput_len B b t
                        have hpu := dput_p B b t
                        have HR := Lib.hid hR
                        clear c1 c2 hrow hb hidx hR h7
                        go_wp2_with fail
                        refine wp_region_quiet_tail (C := fun w' => ∃ x : Ex wr, w' = x.w) 14 (by kernel_rfl) (by kernel_rfl) ⟨Ex.mk _ ((Ext.refl [] wr).drew), rfl⟩ ?_
                        simp only [List.take_succ_cons, List.take_zero, List.drop_succ_cons, List.drop_zero]
                        repeat (go_big_quiet_step (fail))
                        refine wpQuiet_nil ?_
                        rintro _ ⟨x, rfl⟩
                        clear d1 d2 j3 c3
                        have HS := Lib.hid (HS.out.quiet x.ext)
                        go_wp2_with fail
                        refine (d_put b hB HS.out).mono ?_
                        rintro e w7 ⟨rfl, S⟩
                        go_wp2_with fail
                        go_roundg g2
                        case measure => omega
                        case rel => exact ⟨k + 1, _, by omega, by go_num, fun _ => by omega, by omega, HR.out, S⟩
                      · rw [dcopyL_dead h7] at hR
                        have j7 : (t.e == 0) = false := beq_eq_false_iff_ne.2 h7
                        have HR := Lib.hid hR
                        generalize hte7 : t.e = te7 at c3 j7
                        clear hR hrow c1 h7 hbo hte7
                        go_wp2_with fail
                        go_roundg g
                        case measure => omega
                        case rel => exact ⟨t, fun _ => hg5, HR.out, HS.out⟩
      · rw [if_pos (.inl he)] at hR
        subst hR
        have j1 : (t1.e != 0) = true := bne_iff_ne.2 he
        generalize hte1 : t1.e = te1 at c3 j1
        clear he hpp
        go_wp2_with fail
        first | go_end0 | refine bodyPost_ret (results_none rfl _ _ _) rfl ?_
        exact ⟨rfl, HS.out⟩
    · have hb : (t.e == 0) = false := beq_eq_false_iff_ne.2 h0
      rw [dcodedF_dead h0] at hR
      subst hR
      generalize t.e = te at *
      clear h0
      go_wp2_with fail
      go_end0
      exact ⟨rfl, HS.out⟩
end
end Go.Proofs.YtapcfffmgdpmcaaGreat.If

/-! IpG: inflate: the document's lengths walked. -/
namespace Go.Proofs.YtapcfffmgdpmcaaGreat.If
open Go.RowKit Bt Hu

theorem dlenF_stop (s : ByteArray) (D : List Int) (n g : Nat) (l : List Int) (t : St) (h : ¬ (l.length < n ∧ t.e = 0)) : dlenF s D n g l t = (l, t) := by
  cases g with
  | zero => rfl
  | succ g => exact if_neg h
section
variable {w0 w : World} {ub rb : Nat} {Fr' : List Nat} {s : ByteArray} {B : Nat} {t : St} {L : List Ob}
def PstL (w0 : World) (ub rb : Nat) (Fr' : List Nat) (s : ByteArray) (B : Nat) (L : List Ob) (R : List Int × St) (e : Ending) (w' : World) : Prop :=
  ∃ ao cap, e = .returned (.slice ao R.1.length cap) ∧ DS w0 w' ub rb Fr' s B R.2 (oIn ao cap R.1 :: L)
set_option maxRecDepth 100000 in
set_option maxHeartbeats 32000000 in
theorem d_lengths (i n : Nat) {tb : Nat} {Ft : List Nat} {D : List Int} (hT : L[i]? = some (oDT tb Ft D)) (hD : D.length ≤ 288) (hs : s.size ≤ 1048576) (hn : n ≤ 1000) (S : DS w0 w ub rb Fr' s B t L) :
    Calls Tryz.prog 62 #[.pointer (some ⟨ub, 0, none⟩), .pointer (some ⟨tb, 0, none⟩), .int .i64 n] w (PstL w0 ub rb Fr' s B L (dlengths s D n t)) := by
  have hp := S.1
  obtain ⟨i0, hif, hz0, hz1, hz2⟩ := info_parts infoInt7
  have HS := Lib.hid (S.new (oIn none 0 []) (Ext.refl _ _) (World.ownsRow_nil _ _ _ _) (by simp [oIn, oSl, Value.ownBlock]))
  have HT := Lib.hid (show ∀ ao cap l, (oIn ao cap l :: L)[i + 1]? = some (oDT tb Ft D) from fun _ _ _ => by simpa using hT)
  obtain ⟨R, hR⟩ : ∃ R, dlenF s D n (8 * s.size - t.p + 2) [] t = R := ⟨_, rfl⟩
  unfold dlengths
  rw [hR]
  have HR := Lib.hid hR
  clear S hT hR
  go_enter Tryz.func62, Tryz.ntmps62
  go_wp2_with fail
  go_loopg [7] (8 * s.size - t.p + 2) (fun g lv wr => ∃ (t : St) (ao : Option Addr) (cap : Nat) (l : List Int), (t.e = 0 → 8 * s.size < t.p + g) ∧ l.length ≤ n + 138 ∧ dlenF s D n g l t = R ∧ lv = .slice ao l.length cap ∧ DS w0 wr ub rb Fr' s B t (oIn ao cap l :: L))
  case atStart => exact ⟨t, none, 0, [], fun _ => by omega, by simp, HR.out, rfl, HS.out⟩
  case round =>
    clear HS HR hp
    obtain ⟨t, ao, cap, l, hg, hll, hR, rfl, S⟩ := hrel
    have hp := S.1
    obtain ⟨_, _, _, _, _, c3, _⟩ := S.cells
    have HS := Lib.hid S
    clear S
    by_cases hl : l.length < n
    · have hl' : (l.length : Int) < (n : Int) := by omega
      have HLL := Lib.hid (show l.length ≤ n by omega)
      by_cases h0 : t.e = 0
      · obtain ⟨g, rfl⟩ : ∃ g, gk = g + 1 := ⟨gk - 1, by have := hg h0; omega⟩
        have hg := hg h0
        rw [dlenF, if_pos ⟨hl, h0⟩] at hR
        rw [h0] at c3
        have HR := Lib.hid hR
        clear hR
        go_wp2_with fail
        refine (d_sym (i + 1) (HT.out _ _ _) hD hs HS.out).mono ?_
        rintro e w1 ⟨rfl, S⟩
        have HS := Lib.hid S
        have hx9 := dsym_lt (s := s) D t
        have hxz := dsym_zero (s := s) D t
        have hpp := dsym_p s D t hp
        have hR := HR.out
        clear S HR c3 hl'
        generalize dsym s D t = Y at *
        obtain ⟨x, t1⟩ := Y
        simp only at HS hx9 hxz hpp hR ⊢
        unfold dlenX at hR
        have hx8 : x < 288 := by omega
        have hp1 := HS.out.1
        clear hx9
        by_cases q16 : x = 16
        · rw [if_pos q16] at hR
          have he1 : t1.e = 0 := by
            refine Decidable.byContradiction fun h => ?_
            have := hxz h
            omega
          subst q16
          obtain ⟨_, _, _, _, _, c3, _⟩ := HS.out.cells
          rw [he1] at c3
          by_cases hl0 : l.length = 0
          · rw [if_pos ⟨hl0, he1⟩] at hR
            have HR := Lib.hid (⟨hR, hl0⟩ : _ ∧ _)
            have j0 : ((l.length : Int) == 0) = true := beq_iff_eq.2 (by omega)
            clear hR hl0 hxz hpp
            go_wp2_with fail
            refine (d_fail 4 HS.out).mono ?_
            rintro e w2 ⟨rfl, S⟩
            have HS := Lib.hid S
            clear S j0 c3
            go_wp2_with fail
            go_ret
            have hR := HR.out.1
            subst hR
            refine ⟨ao, cap, rfl, ?_⟩
            unfold dlenE
            simp only
            rw [if_neg (by have := HR.out.2; omega)]
            exact HS.out
          · rw [if_neg (fun h => hl0 h.1), if_pos (show 0 < l.length by omega)] at hR
            have j0 : ((l.length : Int) == 0) = false := beq_eq_false_iff_ne.2 (by omega)
            have j1 : (0 : Int) < (l.length : Int) := by omega
            have hrow : w1.ownsRow 0 3 1 (.slice ao l.length cap) l.length (l.map iz) := HS.out.obj (i := 0) rfl
            obtain ⟨V, hV⟩ : ∃ V, l[l.length - 1]? = some V := ⟨_, List.getElem?_eq_getElem (by omega)⟩
            rw [List.getD_eq_getElem?_getD, hV, Option.getD_some] at hR
            obtain ⟨gb, cap2, hgb⟩ := own_at hrow (by omega)
            injection hgb with e1 _ e3
            subst e1 e3
            obtain ⟨idx, hidx⟩ : ∃ idx, l.length - 1 = idx := ⟨_, rfl⟩
            rw [hidx] at hV
            have hix : (l.length : Int) - 1 = (idx : Int) := by omega
            have hio : (idx : Int) < (l.length : Int) := by omega
            have HV := Lib.hid hV
            have HR := Lib.hid hR
            clear hR hl0 hrow hV hidx hl
            go_wp2_with fail
            refine (d_get 2 (by omega) hs HS.out).mono ?_
            rintro e w2 ⟨rfl, S⟩
            have HS := Lib.hid S
            have hu := dget_lt2 (s := s) 2 t1
            have hpg := dget_p s 2 t1
            have hR := HR.out
            have hge : (dget s 2 t1).2.e = 0 → t1.e = 0 := fun h => by
              refine Decidable.byContradiction fun h' => ?_
              rw [dget_dead h'] at h
              exact h' h
            clear S HR
            generalize dget s 2 t1 = Y at *
            obtain ⟨u, t2⟩ := Y
            simp only at HS hu hpg hge hR ⊢
            obtain ⟨T, hT1⟩ : ∃ T, u + 3 = T := ⟨_, rfl⟩
            rw [hT1] at hR
            have hTi : (u : Int) + 3 = (T : Int) := by omega
            have hT8 : T ≤ 138 := by omega
            have t2p : t2.e = 0 → 8 * s.size < t2.p + g := fun h => by have := hpp.2.2 (hge h); omega
            have HR := Lib.hid hR
            clear hR hT1 hu hpg hge hpp
            have c5 : w2.cell? ⟨gb, idx, none⟩ = some (iz V) := ownsRow_at (show w2.ownsRow 0 3 1 (.slice (some ⟨gb, 0, none⟩) l.length cap) l.length (l.map iz) from HS.out.obj (i := 0) rfl) (by rw [List.getElem?_map, HV.out]; rfl)
            go_wp2_with fail
            clear c5 hix hio j0 HV
            have j9 : decide (0 < l.length) = true := decide_eq_true (by omega)
            rw [j9]
            clear j9 j1
            clear hTi
            obtain ⟨G, hG⟩ : ∃ G, g = G := ⟨_, rfl⟩
            subst hG
            have HL0 := HLL
            obtain ⟨l0, hl0⟩ : ∃ l0, l0 = l := ⟨_, rfl⟩
            have HR := Lib.hid (show dlenF s D n g (l0 ++ List.replicate T V) t2 = R by rw [hl0]; exact HR.out)
            have HL0 := Lib.hid (show l0.length ≤ n by rw [hl0]; exact HL0.out)
            go_loopg [7, 11] T (fun g2 lv iv wr => ∃ (k : Nat) (ao : Option Addr) (cap : Nat) (l : List Int), g2 + k = T ∧ iv = .int .i64 k ∧ lv = .slice ao l.length cap ∧ l = l0 ++ List.replicate k V ∧ DS w0 wr ub rb Fr' s B t2 (oIn ao cap l :: L))
            case atStart => exact ⟨0, _, _, l, by omega, by go_num, rfl, by rw [hl0]; simp, HS.out⟩
            case round =>
              clear HS
              obtain ⟨k, ao, cap, l, hk, rfl, rfl, hlk, S⟩ := hrel
              have HS := Lib.hid S
              have HLK := Lib.hid hlk
              have hlb : l.length ≤ n + k := by rw [hlk, List.length_append, List.length_replicate]; have := HL0.out; omega
              clear S hlk
              cases gk with
              | zero =>
                obtain rfl : k = T := by omega
                go_wp2_with fail
                go_roundg g
                case measure => omega
                case rel => exact ⟨t2, _, _, l, t2p, by omega, by rw [HLK.out]; exact HR.out, rfl, HS.out⟩
              | succ g2 =>
                have hkn : (k : Int) < (T : Int) := by omega
                have hown : wr.ownsRow 0 3 1 (.slice ao l.length cap) l.length (l.map iz) := HS.out.obj (i := 0) rfl
                go_wp2_with (at_builtin; go_loud (refine wpList_append_lies _ rfl _ _ 35 rfl 0 3 i0 _ 1 8 Tryz.underlying35 hif hz0 hz1 hz2 rfl (by decide) (.slice ao l.length cap) l.length (l.map iz) rfl (World.ownsRow.alloc hown _) ⟨wr.heap.size, 0, none⟩ 1 1 [iz V] rfl rfl (cell_one_new _ _ _) (by simp [Value.oneCell']) (by decide) (by unfold maxLen; omega) (by omega) (by omega) (wr.heap.size + 1) (by simp) ?_; intro g1 cap1 w2 hown1 hgrow1 hat1 hlt1; have P1 := push_local (cap := cap1) (n := l.length + 1) hgrow1 hat1; have H2 := Lib.hid (HS.out.row (o' := oIn (some ⟨g1, 0, none⟩) cap1 (l ++ [V])) P1.1 (by have := P1.2; simpa only [oIn, oSl, List.length_append, List.length_singleton] using this) (show w2.ownsRow 0 3 1 (.slice (some ⟨g1, 0, none⟩) (l ++ [V]).length cap1) (l ++ [V]).length ((l ++ [V]).map iz) by rw [List.map_append, List.length_append]; exact hown1)); clear P1 hown1 hgrow1 hat1 hown))
                go_roundg g2
                case measure => omega
                case rel => exact ⟨k + 1, _, cap1, l ++ [V], by omega, by go_num, by rw [List.length_append]; rfl, by rw [HLK.out, List.append_assoc, List.replicate_succ'], H2.out⟩
        · rw [if_neg q16] at hR
          have j16 : (x == 16) = false := beq_eq_false_iff_ne.2 q16
          have j16' : ((x : Int) == 16) = false := beq_eq_false_iff_ne.2 (by omega)
          by_cases q17 : x = 17
          · rw [if_pos q17] at hR
            subst q17
            have HR := Lib.hid hR
            clear hR hxz hl
            go_wp2_with fail
            refine (d_get 3 (by omega) hs HS.out).mono ?_
            rintro e w2 ⟨rfl, S⟩
            have HS := Lib.hid S
            have hu := dget_lt2 (s := s) 3 t1
            have hpg := dget_p s 3 t1
            have hR := HR.out
            have hge : (dget s 3 t1).2.e = 0 → t1.e = 0 := fun h => by
              refine Decidable.byContradiction fun h' => ?_
              rw [dget_dead h'] at h
              exact h' h
            clear S HR
            generalize dget s 3 t1 = Y at *
            obtain ⟨u, t2⟩ := Y
            simp only at HS hu hpg hge hR ⊢
            obtain ⟨T, hT1⟩ : ∃ T, u + 3 = T := ⟨_, rfl⟩
            rw [hT1] at hR
            have hTi : (u : Int) + 3 = (T : Int) := by omega
            have hT8 : T ≤ 138 := by omega
            have t2p : t2.e = 0 → 8 * s.size < t2.p + g := fun h => by have := hpp.2.2 (hge h); omega
            have HR := Lib.hid hR
            clear hR hT1 hu hpg hge hpp
            clear j16 j16'
            go_wp2_with fail
            clear hTi
            obtain ⟨G, hG⟩ : ∃ G, g = G := ⟨_, rfl⟩
            subst hG
            have HL0 := HLL
            obtain ⟨l0, hl0⟩ : ∃ l0, l0 = l := ⟨_, rfl⟩
            have HR := Lib.hid (show dlenF s D n g (l0 ++ List.replicate T (0 : Int)) t2 = R by rw [hl0]; exact HR.out)
            have HL0 := Lib.hid (show l0.length ≤ n by rw [hl0]; exact HL0.out)
            go_loopg [7, 11] T (fun g2 lv iv wr => ∃ (k : Nat) (ao : Option Addr) (cap : Nat) (l : List Int), g2 + k = T ∧ iv = .int .i64 k ∧ lv = .slice ao l.length cap ∧ l = l0 ++ List.replicate k (0 : Int) ∧ DS w0 wr ub rb Fr' s B t2 (oIn ao cap l :: L))
            case atStart => exact ⟨0, _, _, l, by omega, by go_num, rfl, by rw [hl0]; simp, HS.out⟩
            case round =>
              clear HS
              obtain ⟨k, ao, cap, l, hk, rfl, rfl, hlk, S⟩ := hrel
              have HS := Lib.hid S
              have HLK := Lib.hid hlk
              have hlb : l.length ≤ n + k := by rw [hlk, List.length_append, List.length_replicate]; have := HL0.out; omega
              clear S hlk
              cases gk with
              | zero =>
                obtain rfl : k = T := by omega
                go_wp2_with fail
                go_roundg g
                case measure => omega
                case rel => exact ⟨t2, _, _, l, t2p, by omega, by rw [HLK.out]; exact HR.out, rfl, HS.out⟩
              | succ g2 =>
                have hkn : (k : Int) < (T : Int) := by omega
                have hown : wr.ownsRow 0 3 1 (.slice ao l.length cap) l.length (l.map iz) := HS.out.obj (i := 0) rfl
                go_wp2_with (at_builtin; go_loud (refine wpList_append_lies _ rfl _ _ 35 rfl 0 3 i0 _ 1 8 Tryz.underlying35 hif hz0 hz1 hz2 rfl (by decide) (.slice ao l.length cap) l.length (l.map iz) rfl (World.ownsRow.alloc hown _) ⟨wr.heap.size, 0, none⟩ 1 1 [iz (0 : Int)] rfl rfl (cell_one_new _ _ _) (by simp [Value.oneCell']) (by decide) (by unfold maxLen; omega) (by omega) (by omega) (wr.heap.size + 1) (by simp) ?_; intro g1 cap1 w2 hown1 hgrow1 hat1 hlt1; have P1 := push_local (cap := cap1) (n := l.length + 1) hgrow1 hat1; have H2 := Lib.hid (HS.out.row (o' := oIn (some ⟨g1, 0, none⟩) cap1 (l ++ [(0 : Int)])) P1.1 (by have := P1.2; simpa only [oIn, oSl, List.length_append, List.length_singleton] using this) (show w2.ownsRow 0 3 1 (.slice (some ⟨g1, 0, none⟩) (l ++ [(0 : Int)]).length cap1) (l ++ [(0 : Int)]).length ((l ++ [(0 : Int)]).map iz) by rw [List.map_append, List.length_append]; exact hown1)); clear P1 hown1 hgrow1 hat1 hown))
                go_roundg g2
                case measure => omega
                case rel => exact ⟨k + 1, _, cap1, l ++ [(0 : Int)], by omega, by go_num, by rw [List.length_append]; rfl, by rw [HLK.out, List.append_assoc, List.replicate_succ'], H2.out⟩
          · rw [if_neg q17] at hR
            have j17 : (x == 17) = false := beq_eq_false_iff_ne.2 q17
            have j17' : ((x : Int) == 17) = false := beq_eq_false_iff_ne.2 (by omega)
            by_cases q18 : x = 18
            · rw [if_pos q18] at hR
              subst q18
              have HR := Lib.hid hR
              clear hR hxz hl
              go_wp2_with fail
              refine (d_get 7 (by omega) hs HS.out).mono ?_
              rintro e w2 ⟨rfl, S⟩
              have HS := Lib.hid S
              have hu := dget_lt2 (s := s) 7 t1
              have hpg := dget_p s 7 t1
              have hR := HR.out
              have hge : (dget s 7 t1).2.e = 0 → t1.e = 0 := fun h => by
                refine Decidable.byContradiction fun h' => ?_
                rw [dget_dead h'] at h
                exact h' h
              clear S HR
              generalize dget s 7 t1 = Y at *
              obtain ⟨u, t2⟩ := Y
              simp only at HS hu hpg hge hR ⊢
              obtain ⟨T, hT1⟩ : ∃ T, u + 11 = T := ⟨_, rfl⟩
              rw [hT1] at hR
              have hTi : (u : Int) + 11 = (T : Int) := by omega
              have hT8 : T ≤ 138 := by omega
              have t2p : t2.e = 0 → 8 * s.size < t2.p + g := fun h => by have := hpp.2.2 (hge h); omega
              have HR := Lib.hid hR
              clear hR hT1 hu hpg hge hpp
              clear j16 j16' j17 j17'
              go_wp2_with fail
              clear hTi
              obtain ⟨G, hG⟩ : ∃ G, g = G := ⟨_, rfl⟩
              subst hG
              have HL0 := HLL
              obtain ⟨l0, hl0⟩ : ∃ l0, l0 = l := ⟨_, rfl⟩
              have HR := Lib.hid (show dlenF s D n g (l0 ++ List.replicate T (0 : Int)) t2 = R by rw [hl0]; exact HR.out)
              have HL0 := Lib.hid (show l0.length ≤ n by rw [hl0]; exact HL0.out)
              go_loopg [7, 11] T (fun g2 lv iv wr => ∃ (k : Nat) (ao : Option Addr) (cap : Nat) (l : List Int), g2 + k = T ∧ iv = .int .i64 k ∧ lv = .slice ao l.length cap ∧ l = l0 ++ List.replicate k (0 : Int) ∧ DS w0 wr ub rb Fr' s B t2 (oIn ao cap l :: L))
              case atStart => exact ⟨0, _, _, l, by omega, by go_num, rfl, by rw [hl0]; simp, HS.out⟩
              case round =>
                clear HS
                obtain ⟨k, ao, cap, l, hk, rfl, rfl, hlk, S⟩ := hrel
                have HS := Lib.hid S
                have HLK := Lib.hid hlk
                have hlb : l.length ≤ n + k := by rw [hlk, List.length_append, List.length_replicate]; have := HL0.out; omega
                clear S hlk
                cases gk with
                | zero =>
                  obtain rfl : k = T := by omega
                  go_wp2_with fail
                  go_roundg g
                  case measure => omega
                  case rel => exact ⟨t2, _, _, l, t2p, by omega, by rw [HLK.out]; exact HR.out, rfl, HS.out⟩
                | succ g2 =>
                  have hkn : (k : Int) < (T : Int) := by omega
                  have hown : wr.ownsRow 0 3 1 (.slice ao l.length cap) l.length (l.map iz) := HS.out.obj (i := 0) rfl
                  go_wp2_with (at_builtin; go_loud (refine wpList_append_lies _ rfl _ _ 35 rfl 0 3 i0 _ 1 8 Tryz.underlying35 hif hz0 hz1 hz2 rfl (by decide) (.slice ao l.length cap) l.length (l.map iz) rfl (World.ownsRow.alloc hown _) ⟨wr.heap.size, 0, none⟩ 1 1 [iz (0 : Int)] rfl rfl (cell_one_new _ _ _) (by simp [Value.oneCell']) (by decide) (by unfold maxLen; omega) (by omega) (by omega) (wr.heap.size + 1) (by simp) ?_; intro g1 cap1 w2 hown1 hgrow1 hat1 hlt1; have P1 := push_local (cap := cap1) (n := l.length + 1) hgrow1 hat1; have H2 := Lib.hid (HS.out.row (o' := oIn (some ⟨g1, 0, none⟩) cap1 (l ++ [(0 : Int)])) P1.1 (by have := P1.2; simpa only [oIn, oSl, List.length_append, List.length_singleton] using this) (show w2.ownsRow 0 3 1 (.slice (some ⟨g1, 0, none⟩) (l ++ [(0 : Int)]).length cap1) (l ++ [(0 : Int)]).length ((l ++ [(0 : Int)]).map iz) by rw [List.map_append, List.length_append]; exact hown1)); clear P1 hown1 hgrow1 hat1 hown))
                  go_roundg g2
                  case measure => omega
                  case rel => exact ⟨k + 1, _, cap1, l ++ [(0 : Int)], by omega, by go_num, by rw [List.length_append]; rfl, by rw [HLK.out, List.append_assoc, List.replicate_succ'], H2.out⟩
            · rw [if_neg q18] at hR
              have j18 : (x == 18) = false := beq_eq_false_iff_ne.2 q18
              have j18' : ((x : Int) == 18) = false := beq_eq_false_iff_ne.2 (by omega)
              have hTi : 0 ≤ 1 := by omega
              have HR := Lib.hid hR
              have t2p : t1.e = 0 → 8 * s.size < t1.p + g := fun h => by have := hpp.2.2 h; omega
              generalize t1 = t2 at *
              clear hR hxz hpp hl
              go_wp2_with fail
              clear j16 j16' j17 j17' j18 j18'
              clear hTi
              obtain ⟨G, hG⟩ : ∃ G, g = G := ⟨_, rfl⟩
              subst hG
              have HL0 := HLL
              obtain ⟨l0, hl0⟩ : ∃ l0, l0 = l := ⟨_, rfl⟩
              have HR := Lib.hid (show dlenF s D n g (l0 ++ List.replicate 1 (x : Int)) t2 = R by rw [hl0]; exact HR.out)
              have HL0 := Lib.hid (show l0.length ≤ n by rw [hl0]; exact HL0.out)
              go_loopg [7, 11] 1 (fun g2 lv iv wr => ∃ (k : Nat) (ao : Option Addr) (cap : Nat) (l : List Int), g2 + k = 1 ∧ iv = .int .i64 k ∧ lv = .slice ao l.length cap ∧ l = l0 ++ List.replicate k (x : Int) ∧ DS w0 wr ub rb Fr' s B t2 (oIn ao cap l :: L))
              case atStart => exact ⟨0, _, _, l, by omega, by go_num, rfl, by rw [hl0]; simp, HS.out⟩
              case round =>
                clear HS
                obtain ⟨k, ao, cap, l, hk, rfl, rfl, hlk, S⟩ := hrel
                have HS := Lib.hid S
                have HLK := Lib.hid hlk
                have hlb : l.length ≤ n + k := by rw [hlk, List.length_append, List.length_replicate]; have := HL0.out; omega
                clear S hlk
                cases gk with
                | zero =>
                  obtain rfl : k = 1 := by omega
                  go_wp2_with fail
                  go_roundg g
                  case measure => omega
                  case rel => exact ⟨t2, _, _, l, t2p, by omega, by rw [HLK.out]; exact HR.out, rfl, HS.out⟩
                | succ g2 =>
                  have hkn : (k : Int) < (1 : Int) := by omega
                  have hown : wr.ownsRow 0 3 1 (.slice ao l.length cap) l.length (l.map iz) := HS.out.obj (i := 0) rfl
                  go_wp2_with (at_builtin; go_loud (refine wpList_append_lies _ rfl _ _ 35 rfl 0 3 i0 _ 1 8 Tryz.underlying35 hif hz0 hz1 hz2 rfl (by decide) (.slice ao l.length cap) l.length (l.map iz) rfl (World.ownsRow.alloc hown _) ⟨wr.heap.size, 0, none⟩ 1 1 [iz (x : Int)] rfl rfl (cell_one_new _ _ _) (by simp [Value.oneCell']) (by decide) (by unfold maxLen; omega) (by omega) (by omega) (wr.heap.size + 1) (by simp) ?_; intro g1 cap1 w2 hown1 hgrow1 hat1 hlt1; have P1 := push_local (cap := cap1) (n := l.length + 1) hgrow1 hat1; have H2 := Lib.hid (HS.out.row (o' := oIn (some ⟨g1, 0, none⟩) cap1 (l ++ [(x : Int)])) P1.1 (by have := P1.2; simpa only [oIn, oSl, List.length_append, List.length_singleton] using this) (show w2.ownsRow 0 3 1 (.slice (some ⟨g1, 0, none⟩) (l ++ [(x : Int)]).length cap1) (l ++ [(x : Int)]).length ((l ++ [(x : Int)]).map iz) by rw [List.map_append, List.length_append]; exact hown1)); clear P1 hown1 hgrow1 hat1 hown))
                  go_roundg g2
                  case measure => omega
                  case rel => exact ⟨k + 1, _, cap1, l ++ [(x : Int)], by omega, by go_num, by rw [List.length_append]; rfl, by rw [HLK.out, List.append_assoc, List.replicate_succ'], H2.out⟩
      · have hb : (t.e == 0) = false := beq_eq_false_iff_ne.2 h0
        rw [dlenF_stop s D n gk l t (fun h => h0 h.2)] at hR
        generalize hte : t.e = te at c3 hb
        clear h0
        subst hR
        have HN := Lib.hid (show ¬ n < l.length by omega)
        clear hl hll
        go_wp2_with fail
        go_ret
        refine ⟨ao, cap, rfl, ?_⟩
        unfold dlenE
        simp only
        rw [if_neg HN.out]
        exact HS.out
    · have hl' : ¬ (l.length : Int) < (n : Int) := by omega
      rw [dlenF_stop s D n gk l t (fun h => hl h.1)] at hR
      subst hR
      by_cases hlast : n < l.length
      · have hlast' : (n : Int) < (l.length : Int) := by omega
        go_wp2_with fail
        refine (d_fail 4 HS.out).mono ?_
        rintro e w2 ⟨rfl, S⟩
        have HS := Lib.hid S
        clear S
        go_wp2_with fail
        go_ret
        refine ⟨ao, cap, rfl, ?_⟩
        unfold dlenE
        simp only
        rw [if_pos hlast]
        exact HS.out
      · have hlast' : ¬ (n : Int) < (l.length : Int) := by omega
        go_wp2_with fail
        go_ret
        refine ⟨ao, cap, rfl, ?_⟩
        unfold dlenE
        simp only
        rw [if_neg hlast]
        exact HS.out
end
end Go.Proofs.YtapcfffmgdpmcaaGreat.If

/-! IpH: inflate: the document's tables walked. -/
namespace Go.Proofs.YtapcfffmgdpmcaaGreat.If
open Go.RowKit Bt Hu

/-- the third of the objects left out -/
theorem Sep.drop3 {w0 w : World} {o a b : Ob} {L : List Ob} (h : Sep w0 w (a :: b :: o :: L)) : Sep w0 w (a :: b :: L) := by
  let f : Nat → Nat := fun i => if i ≤ 1 then i else i + 1
  have hf : ∀ i c, (a :: b :: L)[i]? = some c → (a :: b :: o :: L)[f i]? = some c := fun i c hi => by
    match i with
    | 0 => exact hi
    | 1 => exact hi
    | n + 2 =>
      have e : f (n + 2) = n + 3 := by simp only [f]; rw [if_neg (by omega)]
      rw [e]
      simpa using hi
  have fi : ∀ i j, f i = f j → i = j := fun i j e => by
    simp only [f] at e
    split at e <;> split at e <;> omega
  have hm : ∀ c, c ∈ a :: b :: L → c ∈ a :: b :: o :: L := fun c hc => by
    simp only [List.mem_cons] at hc ⊢
    rcases hc with h | h | h
    · exact .inl h
    · exact .inr (.inl h)
    · exact .inr (.inr (.inr h))
  exact ⟨h.ext, fun c hc => h.each c (hm c hc), fun c hc => h.base c (hm c hc), fun i j c d hi hj hij => h.apart (f i) (f j) c d (hf i c hi) (hf j d hj) (fun e => hij (fi i j e))⟩
section
variable {w0 w : World} {ub rb : Nat} {Fr' : List Nat} {s : ByteArray} {B : Nat} {t : St} {L : List Ob}
theorem DS.drop {o : Ob} (S : DS w0 w ub rb Fr' s B t (o :: L)) : DS w0 w ub rb Fr' s B t L := by
  obtain ⟨hp, F, S⟩ := S
  exact ⟨hp, F, Sep.drop3 S⟩
def oOrd7 (g : Nat) : Ob := Ob.one g (.cells ord19 3 (0, 0))
set_option maxRecDepth 100000 in
set_option maxHeartbeats 4000000 in
theorem dorder_new (w : World) : Calls Tryz.prog 60 #[] w fun e w' => ∃ g, e = .returned (.slice (some ⟨g, 0, none⟩) 19 19) ∧ Ext [] w w' ∧ w'.heap[g]? = some (.cells ord19 3 (0, 0)) ∧ w.heap.size ≤ g := by
  go_enter Tryz.func60, Tryz.ntmps60
  go_wp2_with fail
  go_ret
  exact ⟨w.heap.size, rfl, (Ext.refl _ _).alloc _, heap_alloc_at _, Nat.le_refl _⟩
theorem down_facts : ∀ (k i : Nat) (own : List Int) (t : St), Small own → Small (down s k i own t).1 ∧ (down s k i own t).1.length = own.length
  | 0, _, own, t, h => ⟨h, rfl⟩
  | k + 1, i, own, t, h => by
    rw [down]
    have := down_facts k (i + 1) (own.set (ordN.getD i 0) ((dget s 3 t).1 : Int)) (dget s 3 t).2 (fun x hx => by
      rcases List.mem_or_eq_of_mem_set hx with hx | rfl
      · exact h x hx
      · have := dget_lt2 (s := s) 3 t
        omega)
    rw [List.length_set] at this
    exact this
theorem dlen_facts {D : List Int} (hD : D.length ≤ 19) (n : Nat) {t : St} (h0 : t.e = 0) (hp : t.p ≤ 8 * s.size) (he : (dlengths s D n t).2.e = 0) : (dlengths s D n t).1.length = n ∧ Small (dlengths s D n t).1 := by
  obtain ⟨p, out, e⟩ := t
  obtain rfl : e = 0 := h0
  have hr := rl_rowF (s := s) D n (8 * s.size - p + 2) [] p out hp (by omega)
  unfold dlengths at he ⊢
  simp only at he ⊢
  cases h1 : rowF s D n (8 * s.size - p + 2) [] p out with
  | er e o =>
    rw [h1] at hr
    obtain ⟨a, b, _⟩ := hr
    rw [b] at he
    exact absurd he a
  | ok l q o =>
    rw [h1] at hr
    obtain ⟨a, _⟩ := hr
    rw [a]
    exact ⟨(rowF_ok _ _ _ _ hp (by omega) (fun x hx => by cases hx) h1).1, row_small hD _ _ _ _ (fun x hx => by cases hx) h1⟩
def PstT (w0 : World) (ub rb : Nat) (Fr' : List Nat) (s : ByteArray) (B : Nat) (L : List Ob) (R : Option (List Int × List Int) × St) (e : Ending) (w' : World) : Prop :=
  match R with
  | (none, t) => e = .returned (.tuple #[.pointer none, .pointer none]) ∧ DS w0 w' ub rb Fr' s B t L
  | (some (a, b), t) => ∃ tb1 F1 tb2 F2, e = .returned (.tuple #[.pointer (some ⟨tb1, 0, none⟩), .pointer (some ⟨tb2, 0, none⟩)]) ∧ a.length ≤ 288 ∧ b.length ≤ 288 ∧ DS w0 w' ub rb Fr' s B t (oDT tb2 F2 b :: oDT tb1 F1 a :: L)
theorem PstT.nn {R : Option (List Int × List Int) × St} {e : Ending} {w' : World} {t : St} (hR : (none, t) = R) (he : e = .returned (.tuple #[.pointer none, .pointer none])) (S : DS w0 w' ub rb Fr' s B t L) : PstT w0 ub rb Fr' s B L R e w' := by
  subst hR; exact ⟨he, S⟩
theorem PstT.sm {R : Option (List Int × List Int) × St} {e : Ending} {w' : World} {t : St} {a b : List Int} {tb1 tb2 : Nat} {F1 F2 : List Nat} (hR : (some (a, b), t) = R) (he : e = .returned (.tuple #[.pointer (some ⟨tb1, 0, none⟩), .pointer (some ⟨tb2, 0, none⟩)])) (ha : a.length ≤ 288) (hb : b.length ≤ 288) (S : DS w0 w' ub rb Fr' s B t (oDT tb2 F2 b :: oDT tb1 F1 a :: L)) : PstT w0 ub rb Fr' s B L R e w' := by
  subst hR; exact ⟨tb1, F1, tb2, F2, he, ha, hb, S⟩
set_option maxRecDepth 100000 in
set_option maxHeartbeats 64000000 in
theorem d_tables (hs : s.size ≤ 1048576) (S : DS w0 w ub rb Fr' s B t L) :
    Calls Tryz.prog 30 #[.pointer (some ⟨ub, 0, none⟩)] w (PstT w0 ub rb Fr' s B L (dtabs s t)) := by
  have HS := Lib.hid S
  obtain ⟨R, hR⟩ : ∃ R, dtabs s t = R := ⟨_, rfl⟩
  rw [hR]
  unfold dtabs at hR
  have HR := Lib.hid hR
  clear S hR
  go_enter Tryz.func30, Tryz.ntmps30
  go_wp2_with fail
  refine (d_get 5 (by omega) hs HS.out).mono ?_
  rintro e w1 ⟨rfl, S⟩
  have HS := Lib.hid S
  have ha := dget_lt2 (s := s) 5 t
  have hR := HR.out
  clear S HR
  generalize dget s 5 t = Y at *
  obtain ⟨a, t1⟩ := Y
  simp only at HS ha hR ⊢
  have ha : a < 32 := ha
  unfold dtabA at hR
  have HR := Lib.hid hR
  clear hR
  go_wp2_with fail
  refine (d_get 5 (by omega) hs HS.out).mono ?_
  rintro e w2 ⟨rfl, S⟩
  have HS := Lib.hid S
  have hb := dget_lt2 (s := s) 5 t1
  have hR := HR.out
  clear S HR
  generalize dget s 5 t1 = Y at *
  obtain ⟨b, t2⟩ := Y
  simp only at HS hb hR ⊢
  have hb : b < 32 := hb
  unfold dtabB at hR
  have HR := Lib.hid hR
  clear hR
  go_wp2_with fail
  refine (d_get 4 (by omega) hs HS.out).mono ?_
  rintro e w3 ⟨rfl, S⟩
  have HS := Lib.hid S
  have hc := dget_lt2 (s := s) 4 t2
  have hR := HR.out
  clear S HR
  generalize dget s 4 t2 = Y at *
  obtain ⟨c, t3⟩ := Y
  simp only at HS hc hR ⊢
  have hc : c < 16 := hc
  unfold dtabC at hR
  obtain ⟨_, _, _, _, _, c3, _⟩ := HS.out.cells
  go_upto_region 4 with fail
  obtain ⟨t4, ht4⟩ : ∃ t4, (if t3.e = 0 ∧ (286 < a + 257 ∨ 30 < b + 1) then dfail 4 t3 else t3) = t4 := ⟨_, rfl⟩
  rw [ht4] at hR
  have hab4 : t4.e = 0 → a + 257 ≤ 286 ∧ b + 1 ≤ 30 := fun h => by
    rw [← ht4] at h
    by_cases h1 : t3.e = 0 ∧ (286 < a + 257 ∨ 30 < b + 1)
    · rw [if_pos h1] at h
      unfold dfail at h
      rw [if_pos h1.1] at h
      have h : (4 : Int) = 0 := h
      omega
    · rw [if_neg h1] at h
      omega
  have HR := Lib.hid hR
  have HT4 := Lib.hid ht4
  clear hR ht4
  obtain ⟨X, hX⟩ : ∃ X, decide (t3.e = 0 ∧ (286 < a + 257 ∨ 30 < b + 1)) = X := ⟨_, rfl⟩
  have HX := Lib.hid hX
  clear hX
  go_cut [41] (fun x41 wx => x41 = .bool X ∧ w3 = wx)
  case first =>
    have hX := HX.out
    by_cases h0 : t3.e = 0
    · rw [h0] at c3 hX
      by_cases h1 : 286 < a + 257
      · have h1' : (286 : Int) < (a : Int) + 257 := by omega
        rw [decide_eq_true ⟨rfl, .inl h1⟩] at hX
        subst hX
        clear h0 hab4
        go_wp2_with fail
        go_meet
        exact ⟨rfl, rfl⟩
      · have h1' : ¬ (286 : Int) < (a : Int) + 257 := by omega
        by_cases h2 : 30 < b + 1
        · have h2' : (30 : Int) < (b : Int) + 1 := by omega
          rw [decide_eq_true ⟨rfl, .inr h2⟩] at hX
          subst hX
          clear h0 hab4
          go_wp2_with fail
          go_meet
          exact ⟨rfl, rfl⟩
        · have h2' : ¬ (30 : Int) < (b : Int) + 1 := by omega
          rw [decide_eq_false (by omega)] at hX
          subst hX
          clear h0 hab4
          go_wp2_with fail
          go_meet
          exact ⟨rfl, rfl⟩
    · have h0' : (t3.e == 0) = false := beq_eq_false_iff_ne.2 h0
      rw [decide_eq_false (fun h => h0 h.1)] at hX
      subst hX
      generalize hte : t3.e = te at c3 h0'
      clear h0 hte hab4
      go_wp2_with fail
      go_meet
      exact ⟨rfl, rfl⟩
  case rest =>
  obtain ⟨rfl, rfl⟩ := hcut
  clear c3
  go_upto_if 41 with fail
  go_cut [] (fun wx => DS w0 wx ub rb Fr' s B t4 L)
  case first =>
    have hT := HT4.out
    have hX := HX.out
    cases X with
    | true =>
      rw [if_pos (of_decide_eq_true hX)] at hT
      have HT := Lib.hid hT
      clear hT hab4 hX
      go_wp2_with fail
      refine (d_fail 4 HS.out).mono ?_
      rintro e w4 ⟨rfl, S⟩
      rw [HT.out] at S
      have HS := Lib.hid S
      clear S
      go_wp2_with fail
      go_meet
      exact HS.out
    | false =>
      rw [if_neg (of_decide_eq_false hX)] at hT
      have HT := Lib.hid hT
      clear hT hab4 hX
      go_wp2_with fail
      go_meet
      rw [← HT.out]
      exact HS.out
  case rest =>
    clear HS HT4 HX
    have HS := Lib.hid hcut
    clear hcut
    obtain ⟨W, hWW⟩ : ∃ W, wc = W := ⟨_, rfl⟩
    subst hWW
    obtain ⟨i0, hif, hz0, hz1, hz2⟩ := info_parts infoInt7
    obtain ⟨W2, hmk, hown, hgrow⟩ := run_make_full (P := Tryz.prog) wc 0 35 3 i0 (.int .i64 0) 1 Tryz.underlying35 hif hz0 hz1 .i64 .i64 19 (by rw [hz2]; omega) (by unfold maxLen; omega) (by omega)
    have hx : Ext [] wc W2 := (Ext.refl [] wc).grown hgrow (fun k hk => by cases hk)
    have S := HS.out.new (oOwn wc.heap.size (zers 19)) hx (by
      have hm : (madeCells (Value.int .i64 0).cells (19 * 1)).toList = (zers 19).map iz := by
        unfold zers
        rw [List.map_replicate, Nat.mul_one]
        exact toList_madeCells_one _ _
      show W2.ownsRow 0 3 1 (.slice (some ⟨wc.heap.size, 0, none⟩) 19 19) 19 ((zers 19).map iz)
      rw [← hm]; exact hown) (fun q hq => by simp [oOwn, oSl, Value.ownBlock] at hq; omega)
    obtain ⟨q, hq⟩ : ∃ q, wc.heap.size = q := ⟨_, rfl⟩
    rw [hq] at hmk S
    have HS := Lib.hid S
    clear hx hown hgrow S hq hif hz0 hz1 hz2 i0
    have hmk : (Instr.makeSlice 35 (.int .i64 19) (.int .i64 19)).run Tryz.prog wc = .ok (.slice (some ⟨q, 0, none⟩) 19 19) W2 := hmk
    go_wp2_with fail
    clear hmk
    have hdf := down_facts (s := s) (c + 4) 0 (zers 19) t4 (Small.rep 19 (by omega))
    obtain ⟨RO, hRO⟩ : ∃ RO, down s (c + 4) 0 (zers 19) t4 = RO := ⟨_, rfl⟩
    have hR := HR.out
    rw [hRO] at hR hdf
    have HRO := Lib.hid hRO
    have HRB := Lib.hid (⟨hR, hdf⟩ : _ ∧ _)
    clear hR hRO HR hdf
    have hdead4 : t4.e ≠ 0 → RO.2 = t4 := fun h => by rw [← HRO.out, down_dead h]
    have HAB := Lib.hid (show RO.2.e = 0 → a + 257 ≤ 286 ∧ b + 1 ≤ 30 from fun h => by
      by_cases h4 : t4.e = 0
      · exact hab4 h4
      · rw [hdead4 h4] at h
        exact absurd h h4)
    clear hdead4 hab4
    go_loopg [8] (c + 4) (fun g iv wr => ∃ (k : Nat) (own : List Int) (t : St), g + k = c + 4 ∧ iv = .int .i64 k ∧ own.length = 19 ∧ True ∧ down s g k own t = RO ∧ DS w0 wr ub rb Fr' s B t (oOwn q own :: L))
    case atStart => exact ⟨0, zers 19, t4, by omega, rfl, by unfold zers; simp, trivial, HRO.out, HS.out⟩
    case round =>
      clear HS HRO
      obtain ⟨k, own, t, hgk, rfl, hol, hsm, hR, S⟩ := hrel
      have HS := Lib.hid S
      clear S
      by_cases hlt : k < c + 4
      · obtain ⟨g, rfl⟩ : ∃ g, gk = g + 1 := ⟨gk - 1, by omega⟩
        rw [down] at hR
        have hx9 := ord_lt k (by omega)
        have ho19 := ord19_at k (by omega)
        obtain ⟨x, hx⟩ : ∃ x, ordN.getD k 0 = x := ⟨_, rfl⟩
        rw [hx] at hx9 hR ho19
        clear hx
        have HORD := Lib.hid ho19
        clear ho19
        have HG := Lib.hid (fun (w : World) (L : List Ob) (S : DS w0 w ub rb Fr' s B t L) => d_get 3 (by omega) hs S)
        have HSM := Lib.hid hsm
        have HOL := Lib.hid hol
        clear hsm hol
        generalize dget s 3 t = Y at *
        obtain ⟨v, t2⟩ := Y
        simp only at hR HG
        have HR := Lib.hid hR
        clear hR
        have k1 : (k : Int) < (c : Int) + 4 := by omega
        have k3 : (k : Int) < 19 := by omega
        have k4 : (0 : Int) ≤ (k : Int) := by omega
        have k5 : (x : Int) < 19 := by omega
        have k6 : (0 : Int) ≤ (x : Int) := by omega
        go_wp2_with fail
        refine wp_region_perm (C := fun w' => ∃ x : Ex w0, w' = x.w) [0, 2, 5] 8 (by kernel_rfl) (by kernel_rfl) ⟨Ex.mk _ (HS.out.ext.drew), rfl⟩ ?_
        simp only [pick, List.getElem?_toArray, List.getElem?_cons_zero, List.getElem?_cons_succ, List.drop_succ_cons, List.drop_zero]
        repeat (go_big_quiet_step (fail))
        refine wpQuiet_nil ?_
        have HS := Lib.hid (HS.out.quiet ((Ext.refl [] wr).drew))
        obtain ⟨V, hV⟩ : ∃ V, wr.drew = V := ⟨_, rfl⟩
        rw [hV] at HS ⊢
        clear hV
        refine anyC_one (f := 4) (i := 1) (by kernel_rfl) (by decide) rfl rfl (fun K hK => ?_)
        go_wp2_with fail
        refine (dorder_new V).mono ?_
        rintro e V2 ⟨g1, rfl, hx, ho, hg1⟩
        have HS := Lib.hid (HS.out.new (oOrd7 g1) hx ho (fun k hk => by rw [List.mem_singleton.1 hk]; exact hg1))
        clear hx ho hg1
        go_wp2_with fail
        refine hK _ _ ⟨Ex.mk _ HS.out.ext, rfl⟩ ?_
        clear hK K
        obtain ⟨V, hV⟩ : ∃ V, V = V2 := ⟨_, rfl⟩
        subst hV
        refine anyC_two (f := 3) (i := 3) (j := 6) (by kernel_rfl) (by decide) (by decide) rfl rfl rfl rfl (fun K hK => ?_) (fun K hK => ?_)
        · skip
          go_wp2_with fail
          refine hK _ _ ⟨Ex.mk _ HS.out.ext, rfl⟩ ?_
          clear hK K
          refine anyC_two (f := 2) (i := 4) (j := 6) (by kernel_rfl) (by decide) (by decide) rfl rfl rfl rfl (fun K hK => ?_) (fun K hK => ?_)
          · skip
            have c5 := cellOf (HS.out.obj (i := 0) rfl : V.heap[g1]? = some (.cells ord19 3 (0, 0))) k
            rw [HORD.out] at c5
            go_wp2_with fail
            refine hK _ _ ⟨Ex.mk _ HS.out.ext, rfl⟩ ?_
            clear hK K c5
            refine anyC_one (f := 1) (i := 6) (by kernel_rfl) (by decide) rfl rfl (fun K hK => ?_)
            go_wp2_with fail
            refine (HG.out _ _ HS.out).mono ?_
            clear HS
            rintro e V2 ⟨rfl, S⟩
            have HS := Lib.hid S
            clear S
            go_wp2_with fail
            refine hK _ _ ⟨Ex.mk _ HS.out.ext, rfl⟩ ?_
            clear hK K
            obtain ⟨V, hV⟩ : ∃ V, V = V2 := ⟨_, rfl⟩
            subst hV
            refine anyC_one (f := 0) (i := 7) (by kernel_rfl) (by decide) rfl rfl (fun K hK => ?_)
            go_wp2_with fail
            refine hK _ _ ⟨Ex.mk _ HS.out.ext, rfl⟩ ?_
            clear hK K
            refine anyC_end (by kernel_rfl) ?_
            have S := DS.drop HS.out
            have hrow : V.ownsRow 0 3 1 (.slice (some ⟨q, 0, none⟩) 19 19) 19 (own.map iz) := S.obj (i := 0) rfl
            have hfr := ownsRow_free hrow x
            obtain ⟨y, hy⟩ : ∃ y, own[x]? = some y := ⟨_, List.getElem?_eq_getElem (by have := HOL.out; omega)⟩
            have hcl : V.cell? ⟨q, x, none⟩ = some (iz y) := ownsRow_at hrow (by rw [List.getElem?_map, hy]; rfl)
            have hst := ownsRow_store (i := x) hrow (iz (v : Int))
            rw [← List.map_set] at hst
            have HS2 := Lib.hid (S.row (o' := oOwn q (own.set x (v : Int))) ((Ext.refl _ V).setCell ⟨q, x, none⟩ (iz (v : Int)) (.inl (by simp [oOwn, oSl, Value.ownBlock]))) (Fr.refl _ _) hst)
            clear S hrow hy hst
            go_wp2_with fail
            refine NoPanic.normal ?_
            go_wp2_with fail
            go_roundg g
            case measure => omega
            case rel => exact ⟨k + 1, own.set x (v : Int), t2, by omega, by go_num, by rw [List.length_set]; exact HOL.out, HSM.out, HR.out, HS2.out⟩
          · skip
            go_wp2_with fail
            refine (HG.out _ _ HS.out).mono ?_
            clear HS
            rintro e V2 ⟨rfl, S⟩
            have HS := Lib.hid S
            clear S
            go_wp2_with fail
            refine hK _ _ ⟨Ex.mk _ HS.out.ext, rfl⟩ ?_
            clear hK K
            obtain ⟨V, hV⟩ : ∃ V, V = V2 := ⟨_, rfl⟩
            subst hV
            refine anyC_one (f := 1) (i := 4) (by kernel_rfl) (by decide) rfl rfl (fun K hK => ?_)
            have c5 := cellOf (HS.out.obj (i := 0) rfl : V.heap[g1]? = some (.cells ord19 3 (0, 0))) k
            rw [HORD.out] at c5
            go_wp2_with fail
            refine hK _ _ ⟨Ex.mk _ HS.out.ext, rfl⟩ ?_
            clear hK K c5
            refine anyC_one (f := 0) (i := 7) (by kernel_rfl) (by decide) rfl rfl (fun K hK => ?_)
            go_wp2_with fail
            refine hK _ _ ⟨Ex.mk _ HS.out.ext, rfl⟩ ?_
            clear hK K
            refine anyC_end (by kernel_rfl) ?_
            have S := DS.drop HS.out
            have hrow : V.ownsRow 0 3 1 (.slice (some ⟨q, 0, none⟩) 19 19) 19 (own.map iz) := S.obj (i := 0) rfl
            have hfr := ownsRow_free hrow x
            obtain ⟨y, hy⟩ : ∃ y, own[x]? = some y := ⟨_, List.getElem?_eq_getElem (by have := HOL.out; omega)⟩
            have hcl : V.cell? ⟨q, x, none⟩ = some (iz y) := ownsRow_at hrow (by rw [List.getElem?_map, hy]; rfl)
            have hst := ownsRow_store (i := x) hrow (iz (v : Int))
            rw [← List.map_set] at hst
            have HS2 := Lib.hid (S.row (o' := oOwn q (own.set x (v : Int))) ((Ext.refl _ V).setCell ⟨q, x, none⟩ (iz (v : Int)) (.inl (by simp [oOwn, oSl, Value.ownBlock]))) (Fr.refl _ _) hst)
            clear S hrow hy hst
            go_wp2_with fail
            refine NoPanic.normal ?_
            go_wp2_with fail
            go_roundg g
            case measure => omega
            case rel => exact ⟨k + 1, own.set x (v : Int), t2, by omega, by go_num, by rw [List.length_set]; exact HOL.out, HSM.out, HR.out, HS2.out⟩
        · skip
          go_wp2_with fail
          refine (HG.out _ _ HS.out).mono ?_
          clear HS
          rintro e V2 ⟨rfl, S⟩
          have HS := Lib.hid S
          clear S
          go_wp2_with fail
          refine hK _ _ ⟨Ex.mk _ HS.out.ext, rfl⟩ ?_
          clear hK K
          obtain ⟨V, hV⟩ : ∃ V, V = V2 := ⟨_, rfl⟩
          subst hV
          refine anyC_one (f := 2) (i := 3) (by kernel_rfl) (by decide) rfl rfl (fun K hK => ?_)
          go_wp2_with fail
          refine hK _ _ ⟨Ex.mk _ HS.out.ext, rfl⟩ ?_
          clear hK K
          refine anyC_one (f := 1) (i := 4) (by kernel_rfl) (by decide) rfl rfl (fun K hK => ?_)
          have c5 := cellOf (HS.out.obj (i := 0) rfl : V.heap[g1]? = some (.cells ord19 3 (0, 0))) k
          rw [HORD.out] at c5
          go_wp2_with fail
          refine hK _ _ ⟨Ex.mk _ HS.out.ext, rfl⟩ ?_
          clear hK K c5
          refine anyC_one (f := 0) (i := 7) (by kernel_rfl) (by decide) rfl rfl (fun K hK => ?_)
          go_wp2_with fail
          refine hK _ _ ⟨Ex.mk _ HS.out.ext, rfl⟩ ?_
          clear hK K
          refine anyC_end (by kernel_rfl) ?_
          have S := DS.drop HS.out
          have hrow : V.ownsRow 0 3 1 (.slice (some ⟨q, 0, none⟩) 19 19) 19 (own.map iz) := S.obj (i := 0) rfl
          have hfr := ownsRow_free hrow x
          obtain ⟨y, hy⟩ : ∃ y, own[x]? = some y := ⟨_, List.getElem?_eq_getElem (by have := HOL.out; omega)⟩
          have hcl : V.cell? ⟨q, x, none⟩ = some (iz y) := ownsRow_at hrow (by rw [List.getElem?_map, hy]; rfl)
          have hst := ownsRow_store (i := x) hrow (iz (v : Int))
          rw [← List.map_set] at hst
          have HS2 := Lib.hid (S.row (o' := oOwn q (own.set x (v : Int))) ((Ext.refl _ V).setCell ⟨q, x, none⟩ (iz (v : Int)) (.inl (by simp [oOwn, oSl, Value.ownBlock]))) (Fr.refl _ _) hst)
          clear S hrow hy hst
          go_wp2_with fail
          refine NoPanic.normal ?_
          go_wp2_with fail
          go_roundg g
          case measure => omega
          case rel => exact ⟨k + 1, own.set x (v : Int), t2, by omega, by go_num, by rw [List.length_set]; exact HOL.out, HSM.out, HR.out, HS2.out⟩
      · obtain rfl : gk = 0 := by omega
        rw [down] at hR
        subst hR
        have hR := HRB.out.1
        obtain ⟨hos, hol2⟩ := HRB.out.2
        have HAB := HAB.out
        simp only at hR hos hol2 HAB
        have k1 : ¬ ((k : Int) < (c : Int) + 4) := by omega
        obtain ⟨_, _, _, _, _, c3, _⟩ := HS.out.cells
        unfold dtabO at hR
        by_cases h0 : t.e = 0
        · rw [if_neg (fun h => h h0)] at hR
          have hab := HAB h0
          rw [h0] at c3
          have hown : wr.ownsRow 0 3 1 (.slice (some ⟨q, 0, none⟩) 19 19) own.length (own.map iz) := by rw [hol]; exact HS.out.obj (i := 0) rfl
          have hA0 := IntsArg.of_own hown
          have hst := rstate_walk _ own wr hA0.1 (by omega)
          have hfl := small_full hos (by omega)
          obtain ⟨s1, hs1⟩ : ∃ s1, (stateN own).1 = s1 := ⟨_, rfl⟩
          obtain ⟨s2, hs2⟩ : ∃ s2, (stateN own).2 = s2 := ⟨_, rfl⟩
          rw [hs1] at hR hst hfl
          rw [hs2] at hst
          have hp := HS.out.1
          clear hs1 hs2 hown
          by_cases hf : s1 = 0
          · subst hf
            rw [if_neg (by simp)] at hR
            have HR := Lib.hid hR
            have HF := Lib.hid (⟨h0, hA0, (full_codes (hfl.trans (decide_eq_true rfl))).1, hst⟩ : _ ∧ _ ∧ _ ∧ _)
            clear hR hA0 hst hfl HRB
            go_wp2_with fail
            refine HF.out.2.2.2.mono ?_
            rintro e w5 ⟨rfl, rfl⟩
            go_wp2_with fail
            refine (rnew_walk _ own wr HF.out.2.1 HF.out.2.2.1).mono ?_
            rintro e w6 ⟨tb, Ft, rfl, hx, hp1, hf1⟩
            have HS := Lib.hid ((HS.out.drop).new (oDT tb Ft own) hx hp1 hf1)
            have hlf := dlen_facts (s := s) (D := own) (by omega) (a + 257 + (b + 1)) h0 hp
            have hle := d_lengths (w0 := w0) (w := w6) (L := oDT tb Ft own :: L) 0 (a + 257 + (b + 1)) (D := own) rfl (by omega) hs (by omega) HS.out
            clear hx hp1 hf1 HF
            have hR := HR.out
            clear HR
            generalize dlengths s own (a + 257 + (b + 1)) t = Y at *
            obtain ⟨l, t5⟩ := Y
            simp only at hR hlf
            have HLE := Lib.hid hle
            have HR := Lib.hid hR
            have HLF := Lib.hid hlf
            clear hle hR hlf c3 HS
            go_wp2_with fail
            refine HLE.out.mono ?_
            clear HLE
            rintro e w7 ⟨ao, cap, rfl, S⟩
            simp only at S ⊢
            have hR := HR.out
            unfold dtabL at hR
            obtain ⟨_, _, _, _, _, c3, _⟩ := S.cells
            have HS := Lib.hid S
            by_cases h5 : t5.e = 0
            · obtain ⟨hln, hlb⟩ := HLF.out h5
              rw [if_neg (fun h => h h5)] at hR
              rw [h5] at c3
              have hrow : w7.ownsRow 0 3 1 (.slice ao l.length cap) l.length (l.map iz) := S.obj (i := 0) rfl
              obtain ⟨gb, cap', hgb⟩ := own_at hrow (by omega)
              injection hgb with e1 _ e3
              subst e1 e3
              have hcap := (ownsRow_open hrow).choose_spec.2.1
              have hcap2 := (ownsRow_open hrow).choose_spec.2.2.1
              obtain ⟨hC1, hC2⟩ := ints_cut hrow (A := a + 257) (by omega)
              have hc256 : w7.cell? ⟨gb, 256, none⟩ = some (iz (l.getD 256 0)) := ownsRow_at hrow (by rw [List.getElem?_map, List.getElem?_eq_getElem (by omega : 256 < l.length), List.getD_eq_getElem?_getD, List.getElem?_eq_getElem (by omega : 256 < l.length)]; rfl)
              have hs1 := hlb.take (a + 257)
              have hs2 := hlb.drop (a + 257)
              rw [hln] at hcap hC2 ⊢
              rw [show a + 257 + (b + 1) - (a + 257) = b + 1 by omega] at hC2
              have hl1 : (l.take (a + 257)).length = a + 257 := by rw [List.length_take]; omega
              have hl2 : (l.drop (a + 257)).length = b + 1 := by rw [List.length_drop]; omega
              unfold badT at hR
              obtain ⟨l1, hL1⟩ : ∃ l1, l.take (a + 257) = l1 := ⟨_, rfl⟩
              obtain ⟨l2, hL2⟩ : ∃ l2, l.drop (a + 257) = l2 := ⟨_, rfl⟩
              obtain ⟨y, hY⟩ : ∃ y, l.getD 256 0 = y := ⟨_, rfl⟩
              rw [hL1, hL2, hY] at hR
              rw [hL1] at hC1 hl1 hs1
              rw [hL2] at hC2 hl2 hs2
              rw [hY] at hc256
              have hst1 := fun w (h : IntsAt w (.slice (some ⟨gb, 0, none⟩) (a + 257) cap) l1) => rstate_walk _ l1 w h (by omega)
              have hfl1 := small_full hs1 (by omega)
              have hfl2 := small_full hs2 (by omega)
              obtain ⟨s1, hss1⟩ : ∃ s1, (stateN l1).1 = s1 := ⟨_, rfl⟩
              obtain ⟨s2, hss2⟩ : ∃ s2, (stateN l1).2 = s2 := ⟨_, rfl⟩
              rw [hss1] at hR hst1 hfl1
              rw [hss2] at hst1
              have hcd2 : distB l2 = true → codesE l2 = 0 := fun h => by
                unfold distB at h
                rw [← hfl2, ← few_dist l2 (fun x hx => (hs2 x hx).1), Bool.or_eq_true] at h
                rcases h with h | h
                · exact (full_codes h).1
                · exact few_codes (by omega) (fun x hx => (hs2 x hx).1) h
              have HC := Lib.hid (⟨hC1, hC2, hc256⟩ : _ ∧ _ ∧ _)
              have HL := Lib.hid (⟨hl1, hl2⟩ : _ ∧ _)
              have HK := Lib.hid (⟨hst1, fun (h : s1 = 0) => (full_codes (hfl1.trans (decide_eq_true h))).1, hcd2⟩ : _ ∧ _ ∧ _)
              have HR := Lib.hid hR
              have HDI := Lib.hid (fun w (h : IntsAt w (.slice (some ⟨gb, a + 257, none⟩) (b + 1) (cap - (a + 257))) l2) => ddists_walk _ l2 w h (by omega))
              have H5 := Lib.hid h5
              clear S hrow hC1 hC2 hc256 hs1 hs2 hR hL1 hL2 hY hlb hln hl1 hl2 hst1 hfl1 hfl2 hss1 hss2 hcd2 HLF h5 h0
              unfold maxLen at hcap2
              have k2 : (0 : Int) ≤ (a : Int) + 257 := by omega
              have k3 : (a : Int) + 257 ≤ (cap : Int) := by omega
              have k4 : (a : Int) + 257 ≤ ((a + 257 + (b + 1) : Nat) : Int) := by omega
              go_wp2_with fail
              refine wp_region_ext (by kernel_rfl) (by kernel_rfl) ?_
              repeat (go_big_quiet_step (fail))
              refine wpQuiet_nil ?_
              rintro _ ⟨x8, rfl⟩
              obtain ⟨w8, hw8⟩ : ∃ w8, x8.w = w8 := ⟨_, rfl⟩
              have hx8 := x8.ext
              rw [hw8] at hx8
              rw [hw8]
              have HS := Lib.hid (HS.out.quiet hx8)
              have HD := Lib.hid (⟨HC.out.1.ext hx8, HC.out.2.1.ext hx8⟩ : _ ∧ _)
              have c256 := Ext.cell hx8 HC.out.2.2
              clear k2 k3 k4 hw8 hx8 HC c3
              have k9 : (256 : Int) < (a : Int) + 257 := by omega
              by_cases q1 : s1 = 0
              · subst q1
                by_cases q2 : y = 0
                · subst q2
                  have hR := HR.out
                  rw [if_pos (by simp)] at hR
                  have HR := Lib.hid hR
                  clear hR
                  go_wp2_with fail
                  refine (HK.out.1 w8 HD.out.1.1).mono ?_
                  rintro e w9 ⟨rfl, rfl⟩
                  go_wp2_with fail
                  refine (d_fail 4 HS.out).mono ?_
                  rintro e w10 ⟨rfl, S⟩
                  have HS := Lib.hid S
                  clear S
                  go_wp2_with fail
                  exact bodyPost_ret (results_tmp2 rfl _ _ _) rfl (PstT.nn HR.out rfl ((HS.out.drop).drop))
                · have j2 : (y == 0) = false := beq_eq_false_iff_ne.2 q2
                  have hdi := HDI.out w8 HD.out.2.1
                  have hcd := HK.out.2.2
                  have hR := HR.out
                  cases hdb : distB l2 with
                  | false =>
                    rw [hdb] at hdi hR
                    rw [if_pos (by simp)] at hR
                    have HR := Lib.hid hR
                    have HDI := Lib.hid hdi
                    clear hR hdi hdb hcd q2
                    go_wp2_with fail
                    refine (HK.out.1 w8 HD.out.1.1).mono ?_
                    rintro e w9 ⟨rfl, rfl⟩
                    go_wp2_with fail
                    refine HDI.out.mono ?_
                    rintro e w9 ⟨rfl, rfl⟩
                    go_wp2_with fail
                    refine (d_fail 4 HS.out).mono ?_
                    rintro e w10 ⟨rfl, S⟩
                    have HS := Lib.hid S
                    clear S
                    go_wp2_with fail
                    exact bodyPost_ret (results_tmp2 rfl _ _ _) rfl (PstT.nn HR.out rfl ((HS.out.drop).drop))
                  | true =>
                    rw [hdb] at hdi hR
                    rw [if_neg (by simp [q2])] at hR
                    have HR := Lib.hid hR
                    have HDI := Lib.hid hdi
                    have HCD := Lib.hid (hcd hdb)
                    clear hR hdi hdb hcd q2
                    go_wp2_with fail
                    refine (HK.out.1 w8 HD.out.1.1).mono ?_
                    rintro e w9 ⟨rfl, rfl⟩
                    go_wp2_with fail
                    refine HDI.out.mono ?_
                    rintro e w9 ⟨rfl, rfl⟩
                    go_wp2_with fail
                    refine (rnew_walk _ l1 w8 HD.out.1 (HK.out.2.1 (by first | trivial | rfl))).mono ?_
                    rintro e w9 ⟨tb1, Ft1, rfl, hx, hp1, hf1⟩
                    have HS := Lib.hid (((HS.out.drop).drop).new (oDT tb1 Ft1 l1) hx hp1 hf1)
                    have HD := Lib.hid (HD.out.2.ext hx)
                    clear hx hp1 hf1
                    go_wp2_with fail
                    refine (rnew_walk _ l2 w9 HD.out HCD.out).mono ?_
                    rintro e w10 ⟨tb2, Ft2, rfl, hx, hp1, hf1⟩
                    have HS := Lib.hid (HS.out.new (oDT tb2 Ft2 l2) hx hp1 hf1)
                    clear hx hp1 hf1
                    go_wp2_with fail
                    exact bodyPost_ret (results_tmp2 rfl _ _ _) rfl (PstT.sm HR.out rfl (by have := HL.out.1; omega) (by have := HL.out.2; omega) HS.out)
              · have j1 : (s1 != 0) = true := bne_iff_ne.2 q1
                have hR := HR.out
                rw [if_pos (by simp [q1])] at hR
                have HR := Lib.hid hR
                clear hR q1
                go_wp2_with fail
                refine (HK.out.1 w8 HD.out.1.1).mono ?_
                rintro e w9 ⟨rfl, rfl⟩
                go_wp2_with fail
                refine (d_fail 4 HS.out).mono ?_
                rintro e w10 ⟨rfl, S⟩
                have HS := Lib.hid S
                clear S
                go_wp2_with fail
                exact bodyPost_ret (results_tmp2 rfl _ _ _) rfl (PstT.nn HR.out rfl ((HS.out.drop).drop))
            · rw [if_pos h5] at hR
              have j0 : (t5.e != 0) = true := bne_iff_ne.2 h5
              have HR := Lib.hid hR
              generalize hte : t5.e = te at c3 j0
              clear hR hte h5 h0 HLF S
              go_wp2_with fail
              exact bodyPost_ret (results_tmp2 rfl _ _ _) rfl (PstT.nn HR.out rfl ((HS.out.drop).drop))
          · rw [if_pos hf] at hR
            have j1 : (s1 != 0) = true := bne_iff_ne.2 hf
            have HR := Lib.hid hR
            have HST := Lib.hid hst
            clear hR hst hf hA0 hfl h0 HRB
            go_wp2_with fail
            refine HST.out.mono ?_
            rintro e w5 ⟨rfl, rfl⟩
            go_wp2_with fail
            refine (d_fail 4 HS.out).mono ?_
            rintro e w6 ⟨rfl, S⟩
            have HS := Lib.hid S
            clear S
            go_wp2_with fail
            exact bodyPost_ret (results_tmp2 rfl _ _ _) rfl (PstT.nn HR.out rfl HS.out.drop)
        · rw [if_pos h0] at hR
          have j0 : (t.e != 0) = true := bne_iff_ne.2 h0
          have HR := Lib.hid hR
          generalize hte : t.e = te at c3 j0
          clear hR hte h0 HRB
          go_wp2_with fail
          exact bodyPost_ret (results_tmp2 rfl _ _ _) rfl (PstT.nn HR.out rfl HS.out.drop)
end
end Go.Proofs.YtapcfffmgdpmcaaGreat.If

/-! IpI: inflate: the document's Run walked; the law InflateCalls. -/
namespace Go.Proofs.YtapcfffmgdpmcaaGreat.If
open Go.RowKit Bt Hu

theorem dtabs_none {s : ByteArray} {t : St} (h : (dtabs s t).1 = none) : (dtabs s t).2.e ≠ 0 := by
  have hf : ∀ t : St, (dfail 4 t).e ≠ 0 := fun t => by
    unfold dfail
    split
    · simp
    · assumption
  unfold dtabs dtabA dtabB dtabC at h ⊢
  generalize (down s _ 0 (zers 19) _).1 = own at h ⊢
  generalize (down s _ 0 (zers 19) _).2 = t1 at h ⊢
  unfold dtabO at h ⊢
  by_cases h1 : t1.e ≠ 0
  · rw [if_pos h1]; exact h1
  · rw [if_neg h1] at h ⊢
    by_cases h2 : (stateN own).1 ≠ 0
    · rw [if_pos h2]; exact hf _
    · rw [if_neg h2] at h ⊢
      generalize (dlengths s own _ t1).1 = l at h ⊢
      generalize (dlengths s own _ t1).2 = t2 at h ⊢
      unfold dtabL at h ⊢
      by_cases h3 : t2.e ≠ 0
      · rw [if_pos h3]; exact h3
      · rw [if_neg h3] at h ⊢
        by_cases h4 : badT l ((dget s 5 t).1 + 257) = true
        · rw [if_pos h4]; exact hf _
        · rw [if_neg h4] at h
          cases h
theorem dblock_p {s : ByteArray} {B kind : Nat} {t : St} (hp : t.p ≤ 8 * s.size) (h0 : t.e = 0) (h : (dblock s B kind t).e = 0) : t.p ≤ (dblock s B kind t).p := by
  obtain ⟨p, out, e⟩ := t
  obtain rfl : e = 0 := h0
  have hr := rl_block (s := s) (B := B) kind p out hp
  cases h1 : blockR s B kind p out with
  | er e o =>
    rw [h1] at hr
    obtain ⟨a, b, _⟩ := hr
    rw [b] at h
    exact absurd h a
  | ok u q o =>
    rw [h1] at hr
    rw [hr.2]
    exact (blockR_ok h1).1
set_option maxRecDepth 100000 in
set_option maxHeartbeats 64000000 in
theorem drun_walk (s : ByteArray) (B : Nat) (w : World) (hs : s.size ≤ 1048576) (hB : B ≤ 1099511627776) :
    Calls Tryz.prog 9 #[.string s, .int .i64 (B : Int)] w fun e w' => e = .returned (runV s B) ∧ Ext [] w w' := by
  obtain ⟨V, hV⟩ : ∃ V, runV s B = V := ⟨_, rfl⟩
  rw [hV]
  rw [drun_runV] at hV
  obtain ⟨R, hR⟩ : ∃ R, drun s B = R := ⟨_, rfl⟩
  rw [hR] at hV
  unfold drun at hR
  have HR := Lib.hid hR
  have HV := Lib.hid hV
  clear hR hV
  go_enter Tryz.func9, Tryz.ntmps9
  go_wp2_with fail
  refine (rfnew_lo s w hs).mono ?_
  rintro e w1 ⟨rb, Fr', rfl, hrb, hfr, hx⟩
  have S1 := (Sep.start w).new hx (oRf rb Fr' (allBits s false (8 * s.size)) 0) hrb (fun k hk => (hfr k hk).elim (fun h => by cases h) id)
  have S2 := S1.new (w' := w1.alloc (.cells #[.pointer (some ⟨rb, 0, none⟩), .slice none 0 0, .int .i64 B, .int .i64 0] 66)) ((Ext.refl _ _).alloc _) (oDR w1.heap.size rb [w1.heap.size] B [] 0) ⟨.slice none 0 0, heap_alloc_at _, World.ownsRow_nil _ _ _ _, rfl, by simp [Value.ownBlock]⟩ (fun k hk => by rw [List.mem_singleton.1 hk]; exact Nat.le_refl _)
  have hsw : ∀ {a b : Ob} {W : World}, Sep w W [a, b] → Sep w W [b, a] := fun h => by
    refine ⟨h.ext, fun o ho => h.each o (by simp only [List.mem_cons, List.not_mem_nil, or_false] at ho ⊢; exact ho.symm), fun o ho => h.base o (by simp only [List.mem_cons, List.not_mem_nil, or_false] at ho ⊢; exact ho.symm), fun i j c d hi hj hij => ?_⟩
    match i, j with
    | 0, 0 => exact absurd rfl hij
    | 0, 1 => exact h.apart 1 0 c d hi hj (by decide)
    | 1, 0 => exact h.apart 0 1 c d hi hj (by decide)
    | 1, 1 => exact absurd rfl hij
    | 0, n + 2 => simp at hj
    | 1, n + 2 => simp at hj
    | n + 2, _ => simp at hi
  have hds : DS w (w1.alloc (.cells #[.pointer (some ⟨rb, 0, none⟩), .slice none 0 0, .int .i64 B, .int .i64 0] 66)) w1.heap.size rb Fr' s B ⟨0, [], 0⟩ [] := ⟨Nat.zero_le _, [w1.heap.size], hsw S2⟩
  have HS := Lib.hid hds
  clear S1 S2 hrb hfr hx hsw hds
  go_wp2_with fail
  obtain ⟨W, hW⟩ : ∃ W, w1.alloc (.cells #[.pointer (some ⟨rb, 0, none⟩), .slice none 0 0, .int .i64 B, .int .i64 0] 66) = W := ⟨_, rfl⟩
  obtain ⟨ub, hub⟩ : ∃ ub, w1.heap.size = ub := ⟨_, rfl⟩
  rw [hW, hub] at HS
  simp only [hW, hub]
  clear hW hub
  go_loopg [8] (8 * s.size + 2) (fun g lv wr => ∃ (l : Nat) (t : St), lv = .int .i64 l ∧ (l = 0 ∧ t.e = 0 → drunF s B (g - 1) t = R ∧ 8 * s.size + 1 < t.p + g) ∧ (¬ (l = 0 ∧ t.e = 0) → t = R) ∧ 1 ≤ g ∧ DS w wr ub rb Fr' s B t [])
  case atStart => exact ⟨0, ⟨0, [], 0⟩, rfl, fun _ => ⟨HR.out, by omega⟩, fun h => absurd ⟨rfl, rfl⟩ h, by omega, HS.out⟩
  case round =>
    clear HS HR
    obtain ⟨l, t, rfl, hA, hB2, hg1, S⟩ := hrel
    have hp := S.1
    obtain ⟨_, _, _, _, _, c3, _⟩ := S.cells
    have HS := Lib.hid S
    clear S
    by_cases hl : l = 0 ∧ t.e = 0
    · obtain ⟨hR, hg⟩ := hA hl
      obtain ⟨rfl, h0⟩ := hl
      obtain ⟨g, rfl⟩ : ∃ g, gk = g + 2 := ⟨gk - 2, by omega⟩
      rw [show g + 2 - 1 = g + 1 from rfl, drunF] at hR
      rw [h0] at c3
      have HR := Lib.hid hR
      clear hA hB2 hR
      go_wp2_with fail
      refine (d_get 1 (by omega) hs HS.out).mono ?_
      rintro e w2 ⟨rfl, S⟩
      have HS := Lib.hid S
      have hl := dget_lt2 (s := s) 1 t
      have hpg := dget_p s 1 t
      have hst : (dget s 1 t).2.e = 0 → (dget s 1 t).2.p = t.p + 1 := fun h => by
        unfold dget at h ⊢
        rw [if_neg (fun x => x h0)] at h ⊢
        split
        · rfl
        · rename_i hh
          rw [if_neg hh] at h
          exact absurd h (by simp)
      have hR := HR.out
      clear S HR c3
      generalize dget s 1 t = Y at *
      obtain ⟨l, t1⟩ := Y
      simp only at HS hl hpg hst hR ⊢
      unfold drunA at hR
      have HR := Lib.hid hR
      clear hR
      go_wp2_with fail
      refine (d_get 2 (by omega) hs HS.out).mono ?_
      rintro e w3 ⟨rfl, S⟩
      have HS := Lib.hid S
      have hk := dget_lt2 (s := s) 2 t1
      have hpg2 := dget_p s 2 t1
      have hge : (dget s 2 t1).2.e = 0 → t1.e = 0 := fun h => by
        refine Decidable.byContradiction fun h' => ?_
        rw [dget_dead h'] at h
        exact h' h
      have hR := HR.out
      clear S HR
      generalize dget s 2 t1 = Y at *
      obtain ⟨kind, t2⟩ := Y
      simp only at HS hk hpg2 hge hR ⊢
      have hp2 := HS.out.1
      obtain ⟨_, _, _, _, _, c3, _⟩ := HS.out.cells
      unfold drunB at hR
      by_cases h2 : t2.e = 0
      · rw [if_neg (fun h => h h2)] at hR
        rw [h2] at c3
        have h1 := hge h2
        have hq := hst h1
        have hg2 : 8 * s.size + 1 < t2.p + (g + 1) := by omega
        have hbp := dblock_p (B := B) (kind := kind) hp2 h2
        have HF := Lib.hid (show ∀ t5, dblock s B kind t2 = t5 → (l = 0 ∧ t5.e = 0 → drunF s B (g + 1 - 1) t5 = R ∧ 8 * s.size + 1 < t5.p + (g + 1)) ∧ (¬ (l = 0 ∧ t5.e = 0) → t5 = R) from fun t5 h5 => by
          rw [h5] at hR hbp
          refine ⟨fun hz => ?_, fun hz => ?_⟩
          · rw [if_pos hz] at hR
            exact ⟨hR, by have := hbp hz.2; omega⟩
          · rw [if_neg hz] at hR
            exact hR)
        clear hbp hR hst hge hpg hpg2 hg hq h1
        have hk4 : kind < 4 := hk
        by_cases k0 : kind = 0
        · subst k0
          have HE := Lib.hid (show dblock s B 0 t2 = dstored s B t2 from rfl)
          clear h2
          go_wp2_with fail
          refine (d_stored hs hB HS.out).mono ?_
          rintro e w4 ⟨rfl, S⟩
          have HS := Lib.hid S
          clear S c3
          go_wp2_with fail
          go_roundg (g + 1)
          case measure => omega
          case rel => exact ⟨l, _, rfl, (HF.out _ HE.out).1, (HF.out _ HE.out).2, by omega, HS.out⟩
        · have k0' : (kind == 0) = false := beq_eq_false_iff_ne.2 k0
          have k0'' : ((kind : Int) == 0) = false := beq_eq_false_iff_ne.2 (by omega)
          by_cases k1 : kind = 1
          · subst k1
            have HE := Lib.hid (show dblock s B 1 t2 = dcoded s B fixL fixD t2 from rfl)
            have hL : fixL.length = 288 := by decide +kernel
            have hDl : fixD.length = 30 := by decide +kernel
            have eL : codesE fixL = 0 := by decide +kernel
            have eD : codesE fixD = 0 := by decide +kernel
            have HZ := Lib.hid (⟨hL, hDl, eL, eD⟩ : _ ∧ _ ∧ _ ∧ _)
            clear h2 hL hDl eL eD
            go_wp2_with fail
            refine (dfixed_walk w3).mono ?_
            rintro e w4 ⟨a1, c1, a2, c2, rfl, hx, o1, o2, _, _⟩
            have HS := Lib.hid (HS.out.quiet hx)
            have HO := Lib.hid (⟨IntsArg.of_own o1, IntsArg.of_own o2⟩ : _ ∧ _)
            clear hx o1 o2 c3
            go_wp2_with fail
            refine (rnew_walk _ fixL w4 HO.out.1 HZ.out.2.2.1).mono ?_
            rintro e w5 ⟨tb1, Ft1, rfl, hx, hp1, hf1⟩
            have HS := Lib.hid (HS.out.new (oDT tb1 Ft1 fixL) hx hp1 hf1)
            have HO := Lib.hid (HO.out.2.ext hx)
            clear hx hp1 hf1
            go_wp2_with fail
            refine (rnew_walk _ fixD w5 HO.out HZ.out.2.2.2).mono ?_
            rintro e w6 ⟨tb2, Ft2, rfl, hx, hp1, hf1⟩
            have HS := Lib.hid (HS.out.new (oDT tb2 Ft2 fixD) hx hp1 hf1)
            clear hx hp1 hf1
            go_wp2_with fail
            refine (d_coded 1 0 (D1 := fixL) (D2 := fixD) rfl rfl (by have := HZ.out.1; omega) (by have := HZ.out.2.1; omega) hs hB HS.out).mono ?_
            rintro e w7 ⟨rfl, S⟩
            have HS := Lib.hid S.drop.drop
            clear S
            go_wp2_with fail
            go_roundg (g + 1)
            case measure => omega
            case rel => exact ⟨l, _, rfl, (HF.out _ HE.out).1, (HF.out _ HE.out).2, by omega, HS.out⟩
          · have k1' : (kind == 1) = false := beq_eq_false_iff_ne.2 k1
            have k1'' : ((kind : Int) == 1) = false := beq_eq_false_iff_ne.2 (by omega)
            by_cases k2 : kind = 2
            · subst k2
              have HE := Lib.hid (show dblock s B 2 t2 = ddyn s B (dtabs s t2) from rfl)
              have HT := Lib.hid (d_tables hs HS.out)
              have hno := dtabs_none (s := s) (t := t2)
              generalize dtabs s t2 = T at *
              obtain ⟨T1, t3⟩ := T
              clear h2
              cases T1 with
              | none =>
                have he3 := hno rfl
                have he3 : t3.e ≠ 0 := he3
                have HE3 := Lib.hid he3
                clear hno he3
                go_wp2_with fail
                refine HT.out.mono ?_
                rintro e w4 ⟨rfl, S⟩
                have HS := Lib.hid S
                clear S c3
                go_wp2_with fail
                refine (d_coded_dead (.pointer none) (.pointer none) HE3.out HS.out).mono ?_
                rintro e w5 ⟨rfl, S⟩
                have HS := Lib.hid S
                clear S
                go_wp2_with fail
                go_roundg (g + 1)
                case measure => omega
                case rel => exact ⟨l, t3, rfl, (HF.out _ HE.out).1, (HF.out _ HE.out).2, by omega, HS.out⟩
              | some T2 =>
                obtain ⟨D1, D2⟩ := T2
                clear hno
                go_wp2_with fail
                refine HT.out.mono ?_
                rintro e w4 ⟨tb1, F1, tb2, F2, rfl, hd1, hd2, S⟩
                have HS := Lib.hid S
                clear S c3
                go_wp2_with fail
                refine (d_coded 1 0 (D1 := D1) (D2 := D2) rfl rfl hd1 hd2 hs hB HS.out).mono ?_
                rintro e w5 ⟨rfl, S⟩
                have HS := Lib.hid S.drop.drop
                clear S
                go_wp2_with fail
                go_roundg (g + 1)
                case measure => omega
                case rel => exact ⟨l, _, rfl, (HF.out _ HE.out).1, (HF.out _ HE.out).2, by omega, HS.out⟩
            · have k2' : (kind == 2) = false := beq_eq_false_iff_ne.2 k2
              have k2'' : ((kind : Int) == 2) = false := beq_eq_false_iff_ne.2 (by omega)
              have HE := Lib.hid (show dblock s B kind t2 = dfail 4 t2 from by unfold dblock; rw [if_neg k0, if_neg k1, if_neg k2])
              clear h2 k0 k1 k2
              go_wp2_with fail
              refine (d_fail 4 HS.out).mono ?_
              rintro e w4 ⟨rfl, S⟩
              have HS := Lib.hid S
              clear S c3
              go_wp2_with fail
              go_roundg (g + 1)
              case measure => omega
              case rel => exact ⟨l, _, rfl, (HF.out _ HE.out).1, (HF.out _ HE.out).2, by omega, HS.out⟩
      · rw [if_pos h2] at hR
        subst hR
        have j0 : (t2.e != 0) = true := bne_iff_ne.2 h2
        have hV := HV.out
        rw [if_pos h2] at hV
        obtain ⟨ao, cap, d0, d1, d2, d3, d4, d5, hrow⟩ := HS.out.cells
        have hct : ∀ x : Ex w3, (convert 29 9 (.slice ao t2.out.length cap)).run Tryz.prog x.w = .ok (.string (txt t2.out)) x.w := fun x => run_row_text (row_keep x.ext hrow)
        have e1 : ∀ x : Ex w3, x.w.cell? ⟨ub, 1, none⟩ = some (.slice ao t2.out.length cap) := fun x => x.cell d1
        have e3 : ∀ x : Ex w3, x.w.cell? ⟨ub, 3, none⟩ = some (.int .i64 t2.e) := fun x => x.cell d3
        have HX := Lib.hid HS.out.ext
        generalize txt t2.out = TX at *
        generalize t2.e = te at *
        have HV2 := Lib.hid hV
        clear hV
        clear d1 d2 d4 d5 hrow h2 HS hst hge hpg hpg2
        go_wp2_with fail
        refine wp_region_ext (by kernel_rfl) (by kernel_rfl) ?_
        repeat (go_big_quiet_step (fail))
        refine wpQuiet_nil ?_
        rintro _ ⟨x, rfl⟩
        clear hct e1 e3
        go_wp2_with fail
        refine bodyPost_ret (results_tmp3 rfl _ _ _) rfl ⟨by rw [← HV2.out]; rfl, HX.out.trans x.ext⟩
    · have hRt := hB2 hl
      subst hRt
      clear hA hB2
      by_cases he : t.e = 0
      · have hl0 : l ≠ 0 := fun h => hl ⟨h, he⟩
        have j1 : ((l : Int) == 0) = false := beq_eq_false_iff_ne.2 (by omega)
        have j1' : (l == 0) = false := beq_eq_false_iff_ne.2 hl0
        have hV := HV.out
        rw [if_neg (fun h => h he)] at hV
        push_cast at hV
        rw [he] at c3
        obtain ⟨ao, cap, d0, d1, d2, d3, d4, d5, hrow⟩ := HS.out.cells
        obtain ⟨v9, hb9, _⟩ : RfR wr rb Fr' (allBits s false (8 * s.size)) t.p := HS.out.2.elim fun F S => S.get 0 rfl
        have d9 : wr.cell? ⟨rb, 1, none⟩ = some (.int .i64 t.p) := cellOf hb9 1
        have hct : ∀ x : Ex wr, (convert 29 9 (.slice ao t.out.length cap)).run Tryz.prog x.w = .ok (.string (txt t.out)) x.w := fun x => run_row_text (row_keep x.ext hrow)
        have e0 : ∀ x : Ex wr, x.w.cell? ⟨ub, 0, none⟩ = some (.pointer (some ⟨rb, 0, none⟩)) := fun x => x.cell d0
        have e1 : ∀ x : Ex wr, x.w.cell? ⟨ub, 1, none⟩ = some (.slice ao t.out.length cap) := fun x => x.cell d1
        have e9 : ∀ x : Ex wr, x.w.cell? ⟨rb, 1, none⟩ = some (.int .i64 t.p) := fun x => x.cell d9
        have HX := Lib.hid HS.out.ext
        generalize txt t.out = TX at *
        generalize t.p = tp at *
        have HV2 := Lib.hid hV
        clear hV
        clear d0 d1 d2 d3 d4 d5 d9 hrow he HS hl hl0 hb9
        go_wp2_with fail
        refine wp_region_ext (by kernel_rfl) (by kernel_rfl) ?_
        repeat (go_big_quiet_step (fail))
        refine wpQuiet_nil ?_
        rintro _ ⟨x, rfl⟩
        clear hct e0 e1 e9
        go_wp2_with fail
        refine bodyPost_ret (results_tmp3 rfl _ _ _) rfl ⟨by rw [← HV2.out]; rfl, HX.out.trans x.ext⟩
      · by_cases hl0 : l = 0
        · subst hl0
          have j2 : (t.e == 0) = false := beq_eq_false_iff_ne.2 he
          have j0 : (t.e != 0) = true := bne_iff_ne.2 he
          have hV := HV.out
          rw [if_pos he] at hV
          obtain ⟨ao, cap, d0, d1, d2, d3, d4, d5, hrow⟩ := HS.out.cells
          have hct : ∀ x : Ex wr, (convert 29 9 (.slice ao t.out.length cap)).run Tryz.prog x.w = .ok (.string (txt t.out)) x.w := fun x => run_row_text (row_keep x.ext hrow)
          have e1 : ∀ x : Ex wr, x.w.cell? ⟨ub, 1, none⟩ = some (.slice ao t.out.length cap) := fun x => x.cell d1
          have e3 : ∀ x : Ex wr, x.w.cell? ⟨ub, 3, none⟩ = some (.int .i64 t.e) := fun x => x.cell d3
          have HX := Lib.hid HS.out.ext
          generalize txt t.out = TX at *
          generalize t.e = te at *
          have HV2 := Lib.hid hV
          clear hV
          clear d1 d2 d4 d5 hrow he HS
          go_wp2_with fail
          refine wp_region_ext (by kernel_rfl) (by kernel_rfl) ?_
          repeat (go_big_quiet_step (fail))
          refine wpQuiet_nil ?_
          rintro _ ⟨x, rfl⟩
          clear hct e1 e3
          go_wp2_with fail
          refine bodyPost_ret (results_tmp3 rfl _ _ _) rfl ⟨by rw [← HV2.out]; rfl, HX.out.trans x.ext⟩
        · have j1 : ((l : Int) == 0) = false := beq_eq_false_iff_ne.2 (by omega)
          have j1' : (l == 0) = false := beq_eq_false_iff_ne.2 hl0
          clear hl0
          have j0 : (t.e != 0) = true := bne_iff_ne.2 he
          have hV := HV.out
          rw [if_pos he] at hV
          obtain ⟨ao, cap, d0, d1, d2, d3, d4, d5, hrow⟩ := HS.out.cells
          have hct : ∀ x : Ex wr, (convert 29 9 (.slice ao t.out.length cap)).run Tryz.prog x.w = .ok (.string (txt t.out)) x.w := fun x => run_row_text (row_keep x.ext hrow)
          have e1 : ∀ x : Ex wr, x.w.cell? ⟨ub, 1, none⟩ = some (.slice ao t.out.length cap) := fun x => x.cell d1
          have e3 : ∀ x : Ex wr, x.w.cell? ⟨ub, 3, none⟩ = some (.int .i64 t.e) := fun x => x.cell d3
          have HX := Lib.hid HS.out.ext
          generalize txt t.out = TX at *
          generalize t.e = te at *
          have HV2 := Lib.hid hV
          clear hV
          clear d1 d2 d4 d5 hrow he HS
          go_wp2_with fail
          refine wp_region_ext (by kernel_rfl) (by kernel_rfl) ?_
          repeat (go_big_quiet_step (fail))
          refine wpQuiet_nil ?_
          rintro _ ⟨x, rfl⟩
          clear hct e1 e3
          go_wp2_with fail
          refine bodyPost_ret (results_tmp3 rfl _ _ _) rfl ⟨by rw [← HV2.out]; rfl, HX.out.trans x.ext⟩
set_option maxRecDepth 100000 in
set_option maxHeartbeats 4000000 in
theorem drun_neg (s : ByteArray) (B : Int) (w : World) (hB : B < 0) :
    Calls Tryz.prog 9 #[.string s, .int .i64 B] w fun e w' => e = .returned (.tuple #[.string ⟨#[]⟩, .int .i64 0, .int .i64 2]) ∧ Ext [] w w' := by
  go_enter Tryz.func9, Tryz.ntmps9
  go_wp2_with fail
  exact bodyPost_ret (results_tmp3 rfl _ _ _) rfl ⟨rfl, Ext.refl _ _⟩
end Go.Proofs.YtapcfffmgdpmcaaGreat.If
