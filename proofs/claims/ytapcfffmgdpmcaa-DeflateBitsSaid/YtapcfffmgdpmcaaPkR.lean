/-
  IpA, IpB, IpC, IpD, IpE, IpF, IpG, IpH, IpI, in one text.
-/
import Derived.Test.YtapcfffmgdpmcaaPkQ
import Derived.Deep.DeepCutAuto
/-! IpA: inflate: the document's run, plain: every step as a function of the place, the bytes, the first error; it tells what InA tells. -/
namespace Go.Proofs.Ytapcfffmgdpmcaa.If
open Bt Hu

/-- the place read to, the bytes so far, the first error -/
structure St where
  p : Nat
  out : List Nat
  e : Int
def dfail (x : Int) (t : St) : St := if t.e = 0 then ⟨t.p, t.out, x⟩ else t
section
variable (s : ByteArray) (B : Nat)
def dget (n : Nat) (t : St) : Nat × St := if t.e ≠ 0 then (0, t) else if t.p + n ≤ 8 * s.size then (getv s false t.p n, ⟨t.p + n, t.out, 0⟩) else (0, ⟨t.p, t.out, 8⟩)
def dput (b : Nat) (t : St) : St := if t.e ≠ 0 then t else if B ≤ t.out.length then ⟨t.p, t.out, 3⟩ else ⟨t.p, t.out ++ [b], 0⟩
def dsym (D : List Int) (t : St) : Nat × St :=
  if t.e ≠ 0 then (0, t) else ((readN D (bit s false) (8 * s.size) t.p).1, ⟨(readN D (bit s false) (8 * s.size) t.p).2.2, t.out, (readN D (bit s false) (8 * s.size) t.p).2.1⟩)
def dstoreL : Nat → St → St
  | 0, t => t
  | n + 1, t => if t.e ≠ 0 then t else dstoreL n (dput B (dget s 8 t).1 (dget s 8 t).2)
def dstB2 (n m : Nat) (t : St) : St := dstoreL s B n (if (m : Int) ≠ 65535 - (n : Int) then dfail 4 t else t)
def dstA (n : Nat) (t : St) : St := dstB2 s B n (dget s 16 t).1 (dget s 16 t).2
def dstored (t : St) : St := dstA s B (dget s 16 ⟨t.p + gap t.p, t.out, t.e⟩).1 (dget s 16 ⟨t.p + gap t.p, t.out, t.e⟩).2
def dcopyL (back : Nat) : Nat → St → St
  | 0, t => t
  | n + 1, t => if t.e ≠ 0 then t else dcopyL back n (dput B (t.out.getD (t.out.length - back) 0) t)
def dagC (n d v : Nat) (t : St) : St := if t.e = 0 ∧ t.out.length < dstB d + v then dfail 4 t else dcopyL B (dstB d + v) n t
def dagB (n d : Nat) (t : St) : St := if t.e = 0 ∧ 29 < d then dfail 4 t else dagC B n d (dget s (dstX d) t).1 (dget s (dstX d) t).2
def dagA (D : List Int) (n : Nat) (t : St) : St := dagB s B n (dsym s D t).1 (dsym s D t).2
def dag (x : Nat) (D : List Int) (t : St) : St := dagA s B D (lenB x + (dget s (lenX x) t).1) (dget s (lenX x) t).2
def dcodX (D2 : List Int) (k : St → St) (x : Nat) (t : St) : St := if t.e ≠ 0 ∨ x = 256 then t else if x < 256 then k (dput B x t) else if 285 < x then dfail 4 t else k (dag s B x D2 t)
def dcodedF (D1 D2 : List Int) : Nat → St → St
  | 0, t => t
  | g + 1, t => if t.e ≠ 0 then t else dcodX s B D2 (dcodedF D1 D2 g) (dsym s D1 t).1 (dsym s D1 t).2
def dlenX (k : List Int → St → List Int × St) (l : List Int) (x : Nat) (t : St) : List Int × St :=
  if x = 16 then (if l.length = 0 ∧ t.e = 0 then (l, dfail 4 t) else k (l ++ List.replicate ((dget s 2 t).1 + 3) (if 0 < l.length then l.getD (l.length - 1) 0 else 0)) (dget s 2 t).2)
  else if x = 17 then k (l ++ List.replicate ((dget s 3 t).1 + 3) 0) (dget s 3 t).2
  else if x = 18 then k (l ++ List.replicate ((dget s 7 t).1 + 11) 0) (dget s 7 t).2
  else k (l ++ [(x : Int)]) t
def dlenF (D : List Int) (n : Nat) : Nat → List Int → St → List Int × St
  | 0, l, t => (l, t)
  | g + 1, l, t => if l.length < n ∧ t.e = 0 then dlenX s (dlenF D n g) l (dsym s D t).1 (dsym s D t).2 else (l, t)
def dlenE (n : Nat) (R : List Int × St) : List Int × St := (R.1, if n < R.1.length then dfail 4 R.2 else R.2)
def dlengths (D : List Int) (n : Nat) (t : St) : List Int × St := dlenE n (dlenF s D n (8 * s.size - t.p + 2) [] t)
def down : Nat → Nat → List Int → St → List Int × St
  | 0, _, own, t => (own, t)
  | k + 1, i, own, t => down k (i + 1) (own.set (ordN.getD i 0) ((dget s 3 t).1 : Int)) (dget s 3 t).2
def someN9 (l : List Int) : Nat := l.countP fun x => decide (0 < x)
def oneN9 (l : List Int) : Nat := l.countP fun x => decide (x = 1)
def distB (l : List Int) : Bool := decide ((stateN l).1 = 0) || (decide (someN9 l = 0) || (decide (someN9 l = 1) && decide (oneN9 l = 1)))
def badT (l : List Int) (a : Nat) : Bool := decide ((stateN (l.take a)).1 ≠ 0) || (decide (l.getD 256 0 = 0) || !distB (l.drop a))
def dtabL (a : Nat) (l : List Int) (t : St) : Option (List Int × List Int) × St :=
  if t.e ≠ 0 then (none, t) else if badT l a = true then (none, dfail 4 t) else (some (l.take a, l.drop a), t)
def dtabO (a b : Nat) (own : List Int) (t : St) : Option (List Int × List Int) × St :=
  if t.e ≠ 0 then (none, t) else if (stateN own).1 ≠ 0 then (none, dfail 4 t) else dtabL (a + 257) (dlengths s own (a + 257 + (b + 1)) t).1 (dlengths s own (a + 257 + (b + 1)) t).2
def dtabC (a b c : Nat) (t : St) : Option (List Int × List Int) × St := dtabO s a b (down s (c + 4) 0 (zers 19) (if t.e = 0 ∧ (286 < a + 257 ∨ 30 < b + 1) then dfail 4 t else t)).1 (down s (c + 4) 0 (zers 19) (if t.e = 0 ∧ (286 < a + 257 ∨ 30 < b + 1) then dfail 4 t else t)).2
def dtabB (a b : Nat) (t : St) : Option (List Int × List Int) × St := dtabC s a b (dget s 4 t).1 (dget s 4 t).2
def dtabA (a : Nat) (t : St) : Option (List Int × List Int) × St := dtabB s a (dget s 5 t).1 (dget s 5 t).2
def dtabs (t : St) : Option (List Int × List Int) × St := dtabA s (dget s 5 t).1 (dget s 5 t).2
def dcoded (D1 D2 : List Int) (t : St) : St := dcodedF s B D1 D2 (8 * s.size - t.p + 1) t
def ddyn (T : Option (List Int × List Int) × St) : St := match T with
  | (none, t) => t
  | (some (a, b), t) => dcoded s B a b t
def dblock (kind : Nat) (t : St) : St :=
  if kind = 0 then dstored s B t else if kind = 1 then dcoded s B fixL fixD t else if kind = 2 then ddyn s B (dtabs s t) else dfail 4 t
def drunB (k : St → St) (last kind : Nat) (t : St) : St := if t.e ≠ 0 then t else if last = 0 ∧ (dblock s B kind t).e = 0 then k (dblock s B kind t) else dblock s B kind t
def drunA (k : St → St) (last : Nat) (t : St) : St := drunB s B k last (dget s 2 t).1 (dget s 2 t).2
def drunF : Nat → St → St
  | 0, t => t
  | g + 1, t => drunA s B (drunF g) (dget s 1 t).1 (dget s 1 t).2
def drun : St := drunF s B (8 * s.size + 1) ⟨0, [], 0⟩
end
/-! ### behind an error nothing more is done -/
section
variable {s : ByteArray} {B : Nat} {t : St} (h : t.e ≠ 0)
include h
theorem dfail_dead (x : Int) : dfail x t = t := if_neg h
theorem dget_dead (n : Nat) : dget s n t = (0, t) := if_pos h
theorem dput_dead (b : Nat) : dput B b t = t := if_pos h
theorem dsym_dead (D : List Int) : dsym s D t = (0, t) := if_pos h
theorem dstoreL_dead (n : Nat) : dstoreL s B n t = t := by cases n with | zero => rfl | succ n => exact if_pos h
theorem dcopyL_dead (b n : Nat) : dcopyL B b n t = t := by cases n with | zero => rfl | succ n => exact if_pos h
theorem dstB2_dead (n m : Nat) : dstB2 s B n m t = t := by unfold dstB2; rw [dfail_dead h, ite_self, dstoreL_dead h]
theorem dstA_dead (n : Nat) : dstA s B n t = t := by unfold dstA; rw [dget_dead h, dstB2_dead h]
theorem dagC_dead (n d v : Nat) : dagC B n d v t = t := by unfold dagC; rw [if_neg (fun x => h x.1), dcopyL_dead h]
theorem dagB_dead (n d : Nat) : dagB s B n d t = t := by unfold dagB; rw [if_neg (fun x => h x.1), dget_dead h, dagC_dead h]
theorem dagA_dead (D : List Int) (n : Nat) : dagA s B D n t = t := by unfold dagA; rw [dsym_dead h, dagB_dead h]
theorem dcodedF_dead (D1 D2 : List Int) (g : Nat) : dcodedF s B D1 D2 g t = t := by cases g with | zero => rfl | succ n => exact if_pos h
theorem dcodX_dead (D2 : List Int) (k : St → St) (x : Nat) : dcodX s B D2 k x t = t := if_pos (.inl h)
theorem dlenF_dead (D : List Int) (n g : Nat) (l : List Int) : dlenF s D n g l t = (l, t) := by cases g with | zero => rfl | succ n => exact if_neg (fun x => h x.2)
theorem dlenE_dead (n : Nat) (l : List Int) : (dlenE n (l, t)).2 = t := by unfold dlenE; rw [dfail_dead h, ite_self]
theorem down_dead : ∀ (k i : Nat) (own : List Int), (down s k i own t).2 = t
  | 0, _, _ => rfl
  | k + 1, i, own => by rw [down, dget_dead h, down_dead k]
theorem dtabL_dead (a : Nat) (l : List Int) : dtabL a l t = (none, t) := if_pos h
theorem dtabO_dead (a b : Nat) (own : List Int) : dtabO s a b own t = (none, t) := if_pos h
theorem dtabC_dead (a b c : Nat) : dtabC s a b c t = (none, t) := by unfold dtabC; rw [if_neg (fun x => h x.1), down_dead h, dtabO_dead h]
theorem dtabB_dead (a b : Nat) : dtabB s a b t = (none, t) := by unfold dtabB; rw [dget_dead h, dtabC_dead h]
theorem dtabA_dead (a : Nat) : dtabA s a t = (none, t) := by unfold dtabA; rw [dget_dead h, dtabB_dead h]
theorem drunB_dead (k : St → St) (a b : Nat) : drunB s B k a b t = t := if_pos h
theorem drunA_dead (k : St → St) (a : Nat) : drunA s B k a t = t := by unfold drunA; rw [dget_dead h, drunB_dead h]
end
/-! ### it tells what InA tells -/
theorem live9 {α : Type} {p : Nat} {out : List Nat} {x y : α} : (if (⟨p, out, 0⟩ : St).e ≠ 0 then x else y) = y := if_neg (fun h => h rfl)
def Rl {α : Type} (R : Rs α) (a : α) (t : St) : Prop :=
  match R with
  | .ok b p o => a = b ∧ t = ⟨p, o, 0⟩
  | .er e o => e ≠ 0 ∧ t.e = e ∧ t.out = o
section
variable {s : ByteArray} {B : Nat}
theorem rl_get (n p : Nat) (out : List Nat) : Rl (getR s n p out) (dget s n ⟨p, out, 0⟩).1 (dget s n ⟨p, out, 0⟩).2 := by
  unfold getR dget
  rw [live9]
  by_cases h : p + n ≤ 8 * s.size
  · rw [if_pos h, if_pos h]; exact ⟨rfl, rfl⟩
  · rw [if_neg h, if_neg h]; exact ⟨by decide, rfl, rfl⟩
theorem rl_put (b p : Nat) (out : List Nat) : Rl (putR B b p out) () (dput B b ⟨p, out, 0⟩) := by
  unfold putR dput
  rw [live9]
  by_cases h : B ≤ out.length
  · rw [if_pos h, if_pos h]; exact ⟨by decide, rfl, rfl⟩
  · rw [if_neg h, if_neg h]; exact ⟨rfl, rfl⟩
theorem rl_sym (D : List Int) (p : Nat) (out : List Nat) : Rl (symR s D p out) (dsym s D ⟨p, out, 0⟩).1 (dsym s D ⟨p, out, 0⟩).2 := by
  unfold symR dsym
  rw [live9]
  by_cases h : (readN D (bit s false) (8 * s.size) p).2.1 = 0
  · rw [if_pos h]; exact ⟨rfl, by simp only [h]⟩
  · rw [if_neg h]; exact ⟨h, rfl, rfl⟩
/-- one step, then the others -/
theorem Rl.bind {α β : Type} {R : Rs α} {f : α → Nat → List Nat → Rs β} {a : α} {t : St} {b : β} {u : St} (h : Rl R a t) (hk : ∀ p o, R = .ok a p o → t = ⟨p, o, 0⟩ → Rl (f a p o) b u) (hd : t.e ≠ 0 → u = t) : Rl (R.bind f) b u := by
  cases R with
  | ok a' p o =>
    obtain ⟨rfl, rfl⟩ := h
    exact hk p o rfl rfl
  | er e o =>
    obtain ⟨he, h1, h2⟩ := h
    rw [hd (by rw [h1]; exact he)]
    exact ⟨he, h1, h2⟩
theorem rl_fail {α : Type} (a : α) (p : Nat) (out : List Nat) : Rl (.er 4 out : Rs α) a (dfail 4 ⟨p, out, 0⟩) := by
  unfold dfail; rw [if_pos rfl]; exact ⟨by decide, rfl, rfl⟩
theorem rl_storeL : ∀ (n p : Nat) (out : List Nat), Rl (storeL s B n p out) () (dstoreL s B n ⟨p, out, 0⟩)
  | 0, p, out => ⟨rfl, rfl⟩
  | n + 1, p, out => by
    rw [storeL, dstoreL, live9]
    refine (rl_get 8 p out).bind (fun p1 o1 _ e1 => ?_) (fun h => by rw [dput_dead h, dstoreL_dead h])
    rw [e1]
    refine (rl_put _ p1 o1).bind (fun p2 o2 _ e2 => ?_) (fun h => dstoreL_dead h _)
    rw [e2]
    exact rl_storeL n p2 o2
theorem rl_stored (p : Nat) (out : List Nat) : Rl (storedR s B p out) () (dstored s B ⟨p, out, 0⟩) := by
  unfold storedR dstored
  refine (rl_get 16 (p + gap p) out).bind (fun p1 o1 h1 e1 => ?_) (fun h => dstA_dead h _)
  simp only at e1 ⊢
  rw [e1]
  obtain ⟨hn, _⟩ := getR_ok h1
  have hn2 := getv8 s (p + gap p) 16 (by omega)
  rw [← hn] at hn2
  unfold dstA
  refine (rl_get 16 p1 o1).bind (fun p2 o2 h2 e2 => ?_) (fun h => dstB2_dead h _ _)
  rw [e2]
  generalize (dget s 16 ⟨p1, o1, 0⟩).1 = m
  generalize (dget s 16 ⟨p + gap p, out, 0⟩).1 = n at hn2 ⊢
  unfold dstB2
  by_cases hm : m = 65535 - n
  · rw [if_pos hm, if_neg (by omega)]
    exact rl_storeL n p2 o2
  · rw [if_neg hm, if_pos (by omega)]
    have : (dfail 4 ⟨p2, o2, 0⟩).e ≠ 0 := by unfold dfail; simp
    rw [dstoreL_dead this]
    exact rl_fail _ _ _
theorem rl_copyL (back : Nat) : ∀ (n p : Nat) (out : List Nat), Rl (copyL B back n p out) () (dcopyL B back n ⟨p, out, 0⟩)
  | 0, p, out => ⟨rfl, rfl⟩
  | n + 1, p, out => by
    rw [copyL, dcopyL, live9]
    refine (rl_put _ p out).bind (fun p1 o1 _ e1 => ?_) (fun h => dcopyL_dead h _ _)
    rw [e1]
    exact rl_copyL back n p1 o1
theorem rl_again (x : Nat) (D : List Int) (p : Nat) (out : List Nat) : Rl (againR s B x D p out) () (dag s B x D ⟨p, out, 0⟩) := by
  unfold againR dag
  refine (rl_get (lenX x) p out).bind (fun p1 o1 _ e1 => ?_) (fun h => dagA_dead h _ _)
  rw [e1]
  generalize (dget s (lenX x) ⟨p, out, 0⟩).1 = u
  unfold dagA
  refine (rl_sym D p1 o1).bind (fun p2 o2 _ e2 => ?_) (fun h => dagB_dead h _ _)
  rw [e2]
  generalize (dsym s D ⟨p1, o1, 0⟩).1 = d
  unfold dagB
  by_cases hd : d ≤ 29
  · rw [if_pos hd, if_neg (by omega)]
    refine (rl_get (dstX d) p2 o2).bind (fun p3 o3 _ e3 => ?_) (fun h => dagC_dead h _ _ _)
    rw [e3]
    generalize (dget s (dstX d) ⟨p2, o2, 0⟩).1 = v
    unfold dagC
    by_cases hb : dstB d + v ≤ o3.length
    · rw [if_pos hb, if_neg (show ¬ ((0 : Int) = 0 ∧ o3.length < dstB d + v) by omega)]
      exact rl_copyL _ _ p3 o3
    · rw [if_neg hb, if_pos (show (0 : Int) = 0 ∧ o3.length < dstB d + v by omega)]
      exact rl_fail _ _ _
  · rw [if_neg hd, if_pos (show (0 : Int) = 0 ∧ 29 < d by omega)]
    exact rl_fail _ _ _
theorem rl_codedF (D1 D2 : List Int) : ∀ (g p : Nat) (out : List Nat), p ≤ 8 * s.size → 8 * s.size + 1 ≤ p + g → Rl (codedF s B D1 D2 g p out) () (dcodedF s B D1 D2 g ⟨p, out, 0⟩)
  | 0, p, out, hp, hg => by omega
  | g + 1, p, out, hp, hg => by
    rw [codedF, dcodedF, live9]
    refine (rl_sym D1 p out).bind (fun p1 o1 z1 e1 => ?_) (fun h => dcodX_dead h _ _ _)
    rw [e1]
    obtain ⟨z2, z3, _, _⟩ := symR_ok z1
    clear z1
    generalize (dsym s D1 ⟨p, out, 0⟩).1 = x
    unfold dcodX
    by_cases h1 : x < 256
    · rw [if_pos h1, if_neg (by simp; omega), if_pos h1]
      refine (rl_put x p1 o1).bind (fun p2 o2 z4 e2 => ?_) (fun h => dcodedF_dead h _ _ _)
      rw [e2]
      obtain ⟨rfl, _, _⟩ := putR_ok z4
      exact rl_codedF D1 D2 g _ o2 (by omega) (by omega)
    · by_cases h2 : x = 256
      · rw [if_neg h1, if_pos h2, if_pos (.inr h2)]
        exact ⟨rfl, rfl⟩
      · by_cases h3 : x ≤ 285
        · rw [if_neg h1, if_neg h2, if_pos h3, if_neg (by simp; omega), if_neg h1, if_neg (by omega)]
          refine (rl_again x D2 p1 o1).bind (fun p2 o2 z4 e2 => ?_) (fun h => dcodedF_dead h _ _ _)
          rw [e2]
          have z5 := againR_ok z4
          exact rl_codedF D1 D2 g p2 o2 (by omega) (by omega)
        · rw [if_neg h1, if_neg h2, if_neg h3, if_neg (by simp; omega), if_neg h1, if_pos (by omega)]
          exact rl_fail _ _ _
theorem rl_coded (D1 D2 : List Int) (p : Nat) (out : List Nat) (hp : p ≤ 8 * s.size) : Rl (codedR s B D1 D2 p out) () (dcoded s B D1 D2 ⟨p, out, 0⟩) := rl_codedF D1 D2 _ p out hp (by omega)
/-- what is told of a row read by the document's way -/
theorem rl_rowF (D : List Int) (n : Nat) : ∀ (g : Nat) (l : List Int) (p : Nat) (out : List Nat), p ≤ 8 * s.size → 8 * s.size + 1 ≤ p + g → Rl (rowF s D n g l p out) (dlenE n (dlenF s D n g l ⟨p, out, 0⟩)).1 (dlenE n (dlenF s D n g l ⟨p, out, 0⟩)).2
  | 0, l, p, out, hp, hg => by omega
  | g + 1, l, p, out, hp, hg => by
    rw [rowF, dlenF]
    by_cases hl : l.length < n
    · rw [if_pos hl, if_pos ⟨hl, rfl⟩]
      refine Rl.bind (a := (dsym s D ⟨p, out, 0⟩).1) (t := (dsym s D ⟨p, out, 0⟩).2) (rl_sym D p out) (fun p1 o1 z1 e1 => ?_) (fun h => ?_)
      · rw [e1]
        obtain ⟨z2, z3, _, _⟩ := symR_ok z1
        clear z1
        generalize (dsym s D ⟨p, out, 0⟩).1 = x
        unfold dlenX
        by_cases h16 : x = 16
        · rw [if_pos h16, if_pos h16]
          by_cases h0 : l.length = 0
          · rw [if_pos h0, if_pos ⟨h0, rfl⟩]
            unfold dlenE
            rw [if_neg (by simp only; omega)]
            exact rl_fail _ _ _
          · rw [if_neg h0, if_neg (show ¬ (l.length = 0 ∧ (0 : Int) = 0) from fun h => h0 h.1), if_pos (show 0 < l.length by omega)]
            refine Rl.bind (rl_get 2 p1 o1) (fun p2 o2 z4 e2 => ?_) (fun h => by rw [dlenF_dead h, dlenE_dead h])
            rw [e2]
            obtain ⟨_, rfl, rfl, _⟩ := getR_ok z4
            exact rl_rowF D n g _ _ _ (by omega) (by omega)
        · rw [if_neg h16, if_neg h16]
          by_cases h17 : x = 17
          · rw [if_pos h17, if_pos h17]
            refine Rl.bind (rl_get 3 p1 o1) (fun p2 o2 z4 e2 => ?_) (fun h => by rw [dlenF_dead h, dlenE_dead h])
            rw [e2]
            obtain ⟨_, rfl, rfl, _⟩ := getR_ok z4
            exact rl_rowF D n g _ _ _ (by omega) (by omega)
          · rw [if_neg h17, if_neg h17]
            by_cases h18 : x = 18
            · rw [if_pos h18, if_pos h18]
              refine Rl.bind (rl_get 7 p1 o1) (fun p2 o2 z4 e2 => ?_) (fun h => by rw [dlenF_dead h, dlenE_dead h])
              rw [e2]
              obtain ⟨_, rfl, rfl, _⟩ := getR_ok z4
              exact rl_rowF D n g _ _ _ (by omega) (by omega)
            · rw [if_neg h18, if_neg h18]
              exact rl_rowF D n g _ _ _ (by omega) (by omega)
      · have e1 : ∀ k : List Int → St → List Int × St, (∀ l', k l' (dsym s D ⟨p, out, 0⟩).2 = (l', (dsym s D ⟨p, out, 0⟩).2)) → ∃ l', dlenX s k l (dsym s D ⟨p, out, 0⟩).1 (dsym s D ⟨p, out, 0⟩).2 = (l', (dsym s D ⟨p, out, 0⟩).2) := fun k hk => by
          unfold dlenX
          rw [dget_dead h, dget_dead h, dget_dead h, dfail_dead h, if_neg (show ¬ (l.length = 0 ∧ (dsym s D ⟨p, out, 0⟩).2.e = 0) from fun x => h x.2), hk, hk, hk, hk]
          split
          · exact ⟨_, rfl⟩
          · split
            · exact ⟨_, rfl⟩
            · split <;> exact ⟨_, rfl⟩
        obtain ⟨l', hl'⟩ := e1 (dlenF s D n g) (fun l' => dlenF_dead h _ _ _ _)
        rw [hl', dlenE_dead h]
    · rw [if_neg hl, if_neg (show ¬ (l.length < n ∧ (0 : Int) = 0) from fun h => hl h.1)]
      by_cases h1 : l.length = n
      · rw [if_pos h1]
        unfold dlenE
        rw [if_neg (by simp only; omega)]
        exact ⟨rfl, rfl⟩
      · rw [if_neg h1]
        unfold dlenE
        rw [if_pos (by simp only; omega)]
        exact rl_fail _ _ _
theorem rl_own : ∀ (k i : Nat) (own : List Int) (p : Nat) (out : List Nat), Rl (ownL s k i own p out) (down s k i own ⟨p, out, 0⟩).1 (down s k i own ⟨p, out, 0⟩).2
  | 0, _, own, p, out => ⟨rfl, rfl⟩
  | k + 1, i, own, p, out => by
    rw [ownL, down]
    refine (rl_get 3 p out).bind (fun p1 o1 _ e1 => ?_) (fun h => down_dead h _ _ _)
    rw [e1]
    exact rl_own k (i + 1) _ p1 o1
end
end Go.Proofs.Ytapcfffmgdpmcaa.If

/-! IpB: inflate: the document's run, plain: tables, blocks, all. -/
namespace Go.Proofs.Ytapcfffmgdpmcaa.If
open Bt Hu

theorem sum_some : ∀ l : List Int, (∀ x ∈ l, 0 ≤ x) → (someN9 l : Int) ≤ l.sum ∧ oneN9 l ≤ someN9 l ∧ (someN9 l = 0 → l.sum = 0) ∧ (someN9 l = 1 → oneN9 l = 1 → l.sum = 1) ∧ (l.sum = 1 → oneN9 l = 1)
  | [], _ => by simp [someN9, oneN9]
  | x :: l, h => by
    obtain ⟨h1, h2, h3, h4, h5⟩ := sum_some l (fun y hy => h y (by simp [hy]))
    have hx := h x (by simp)
    have e1 : someN9 (x :: l) = someN9 l + if 0 < x then 1 else 0 := by unfold someN9; rw [List.countP_cons]; simp
    have e2 : oneN9 (x :: l) = oneN9 l + if x = 1 then 1 else 0 := by unfold oneN9; rw [List.countP_cons]; simp
    have e3 : (x :: l).sum = x + l.sum := by simp
    rw [e1, e2, e3]
    by_cases a : 0 < x
    · rw [if_pos a]
      by_cases b : x = 1
      · rw [if_pos b]
        refine ⟨by omega, by omega, by omega, fun u _ => ?_, fun u => ?_⟩
        · have := h3 (by omega); omega
        · have : someN9 l = 0 := by omega
          omega
      · rw [if_neg b]
        refine ⟨by omega, by omega, by omega, fun u v => ?_, fun u => by omega⟩
        omega
    · rw [if_neg a, if_neg (by omega)]
      obtain rfl : x = 0 := by omega
      simp only [Nat.add_zero, Int.zero_add]
      exact ⟨h1, h2, h3, h4, h5⟩
theorem few_dist (l : List Int) (h : ∀ x ∈ l, 0 ≤ x) : fewB l = (decide (someN9 l = 0) || (decide (someN9 l = 1) && decide (oneN9 l = 1))) := by
  obtain ⟨h1, h2, h3, h4, h5⟩ := sum_some l h
  unfold fewB
  rw [Bool.eq_iff_iff]
  simp only [decide_eq_true_eq, Bool.or_eq_true, Bool.and_eq_true]
  constructor
  · intro hs
    by_cases h0 : someN9 l = 0
    · exact .inl h0
    · have := h5 (by omega)
      exact .inr ⟨by omega, this⟩
  · rintro (h0 | ⟨ha, hb⟩)
    · rw [h3 h0]; decide
    · rw [h4 ha hb]; decide
def Small (l : List Int) : Prop := ∀ x ∈ l, 0 ≤ x ∧ x ≤ 15
theorem small_bad {l : List Int} (h : Small l) (hl : l.length ≤ 288) : badL l = false := by
  unfold badL
  rw [Bool.or_eq_false_iff, List.any_eq_false]
  refine ⟨decide_eq_false (by omega), fun x hx => ?_⟩
  have := h x hx
  simp
  omega
theorem small_full {l : List Int} (h : Small l) (hl : l.length ≤ 288) : fullB l = decide ((stateN l).1 = 0) := by
  have : (stateN l).2 = 0 := by unfold stateN; rw [small_bad h hl]; rfl
  unfold fullB
  rw [Bool.eq_iff_iff]
  simp only [decide_eq_true_eq]
  constructor
  · intro h; rw [h]
  · intro h; exact Prod.ext h this
theorem Small.take {l : List Int} (h : Small l) (n : Nat) : Small (l.take n) := fun x hx => h x (List.mem_of_mem_take hx)
theorem Small.drop {l : List Int} (h : Small l) (n : Nat) : Small (l.drop n) := fun x hx => h x (List.mem_of_mem_drop hx)
theorem Small.app {l m : List Int} (h : Small l) (h' : Small m) : Small (l ++ m) := fun x hx => (List.mem_append.1 hx).elim (h x) (h' x)
theorem Small.rep (k : Nat) {x : Int} (hx : 0 ≤ x ∧ x ≤ 15) : Small (List.replicate k x) := fun y hy => by rw [(List.mem_replicate.1 hy).2]; exact hx
theorem Small.get {l : List Int} (h : Small l) (k : Nat) : 0 ≤ l.getD k 0 ∧ l.getD k 0 ≤ 15 := by
  rw [List.getD_eq_getElem?_getD]
  cases hx : l[k]? with
  | none => simp
  | some x => exact h x (List.mem_of_getElem? hx)
theorem bad_dyn {l : List Int} {a : Nat} (h : Small l) (ha : a ≤ 286) (hl : l.length ≤ a + 30) : badT l a = !dynB l a := by
  have h1 : (l.take a).length ≤ 288 := by rw [List.length_take]; omega
  have h2 : (l.drop a).length ≤ 288 := by rw [List.length_drop]; omega
  have hg := h.get 256
  unfold badT dynB distB
  rw [small_full (h.take a) h1, small_full (h.drop a) h2, few_dist _ (fun x hx => (h.drop a x hx).1)]
  have e : decide (l.getD 256 0 = 0) = !decide (0 < l.getD 256 0) := by
    by_cases hz : l.getD 256 0 = 0
    · rw [hz]; rfl
    · rw [decide_eq_false hz, decide_eq_true (show 0 < l.getD 256 0 by omega)]; rfl
  rw [e]
  have e2 : decide ((stateN (l.take a)).1 ≠ 0) = !decide ((stateN (l.take a)).1 = 0) := by simp
  rw [e2]
  simp only [Bool.not_and, Bool.not_or, Bool.or_assoc]
section
variable {s : ByteArray} {B : Nat}
theorem own_small : ∀ (k i : Nat) (own : List Int) (p : Nat) (out : List Nat) {a : List Int} {q : Nat} {o : List Nat}, Small own → ownL s k i own p out = .ok a q o → Small a
  | 0, i, own, p, out, a, q, o, hs, h => by rw [ownL] at h; injection h with h1 _ _; rw [← h1]; exact hs
  | k + 1, i, own, p, out, a, q, o, hs, h => by
    rw [ownL] at h
    cases h1 : getR s 3 p out with
    | er e o1 => rw [h1, Rs.bind_er] at h; cases h
    | ok b p1 o1 =>
      obtain ⟨rfl, rfl, rfl, _⟩ := getR_ok h1
      rw [h1, Rs.bind_ok] at h
      refine own_small k _ _ _ _ (fun x hx => ?_) h
      rcases List.mem_or_eq_of_mem_set hx with hx | rfl
      · exact hs x hx
      · have := getv_lt s false p 3
        omega
theorem row_small {D : List Int} {n : Nat} (hD : D.length ≤ 19) : ∀ (g : Nat) (l : List Int) (p : Nat) (out : List Nat) {a : List Int} {q : Nat} {o : List Nat}, Small l → rowF s D n g l p out = .ok a q o → Small a
  | 0, l, p, out, a, q, o, _, h => by rw [rowF] at h; cases h
  | g + 1, l, p, out, a, q, o, hs, h => by
    have fwd : ∀ (k p1 : Nat) (o1 : List Nat) (f : Nat → List Int), (∀ k, Small (f k)) → ((getR s k p1 o1).bind fun k p out => rowF s D n g (f k) p out) = .ok a q o → Small a := fun k p1 o1 f hf h => by
      cases h2 : getR s k p1 o1 with
      | er e o => rw [h2, Rs.bind_er] at h; cases h
      | ok k p2 o2 =>
        rw [h2, Rs.bind_ok] at h
        exact row_small hD g _ _ _ (hf _) h
    rw [rowF] at h
    split at h
    · cases h1 : symR s D p out with
      | er e o => rw [h1, Rs.bind_er] at h; cases h
      | ok x p1 o1 =>
        obtain ⟨_, _, hx, rfl⟩ := symR_ok h1
        rw [h1, Rs.bind_ok] at h
        split at h
        · split at h
          · cases h
          · exact fwd 2 p1 o1 _ (fun k => hs.app (Small.rep _ (hs.get _))) h
        · split at h
          · exact fwd 3 p1 o1 _ (fun k => hs.app (Small.rep _ (by omega))) h
          · split at h
            · exact fwd 7 p1 o1 _ (fun k => hs.app (Small.rep _ (by omega))) h
            · refine row_small hD g _ _ _ (hs.app (fun y hy => ?_)) h
              rw [List.mem_singleton.1 hy]
              omega
    · split at h
      · injection h with h1 _ _
        rw [← h1]; exact hs
      · cases h
theorem rl_dyn (p : Nat) (out : List Nat) : Rl (dynR s B p out) () (ddyn s B (dtabs s ⟨p, out, 0⟩)) := by
  unfold dynR dtabs
  refine (rl_get 5 p out).bind (fun p1 o1 z1 e1 => ?_) (fun h => by rw [dtabA_dead h]; rfl)
  rw [e1]
  obtain ⟨_, _, _, _⟩ := getR_ok z1
  clear z1
  generalize (dget s 5 ⟨p, out, 0⟩).1 = a
  unfold dtabA
  refine (rl_get 5 p1 o1).bind (fun p2 o2 z1 e2 => ?_) (fun h => by rw [dtabB_dead h]; rfl)
  rw [e2]
  clear z1
  generalize (dget s 5 ⟨p1, o1, 0⟩).1 = b
  unfold dtabB
  refine (rl_get 4 p2 o2).bind (fun p3 o3 z1 e3 => ?_) (fun h => by rw [dtabC_dead h]; rfl)
  rw [e3]
  obtain ⟨_, _, _, hp3⟩ := getR_ok z1
  generalize (dget s 4 ⟨p2, o2, 0⟩).1 = c at z1 ⊢
  have hp3 : p3 ≤ 8 * s.size := by obtain ⟨_, h, _, h'⟩ := getR_ok z1; omega
  clear z1
  unfold dtabC
  by_cases hab : a + 257 ≤ 286 ∧ b + 1 ≤ 30
  · rw [if_pos hab, if_neg (by omega)]
    refine (rl_own (c + 4) 0 (zers 19) p3 o3).bind (fun p4 o4 z4 e4 => ?_) (fun h => by rw [dtabO_dead h]; rfl)
    rw [e4]
    obtain ⟨hp4, hol⟩ := own_ok' _ _ _ _ _ hp3 z4
    have hos := own_small _ _ _ _ _ (Small.rep 19 (by omega)) z4
    clear z4
    generalize (down s (c + 4) 0 (zers 19) ⟨p3, o3, 0⟩).1 = own at hol hos ⊢
    have hol : own.length = 19 := by rw [hol]; rfl
    unfold dtabO dynK
    rw [live9, small_full hos (by omega)]
    by_cases hf : (stateN own).1 = 0
    · rw [if_pos (decide_eq_true hf), if_neg (fun h => h hf)]
      refine (rl_rowF own _ _ [] p4 o4 hp4 (by omega)).bind (fun p5 o5 z5 e5 => ?_) (fun h => by unfold dlengths; rw [dtabL_dead h]; rfl)
      unfold dlengths
      simp only at e5 ⊢
      rw [e5]
      have hls := row_small (by omega) _ _ _ _ (fun x hx => by cases hx) z5
      have hll := rowF_ok _ _ _ _ hp4 (by omega) (fun x hx => by cases hx) z5
      generalize (dlenE (a + 257 + (b + 1)) (dlenF s own (a + 257 + (b + 1)) (8 * s.size - p4 + 2) [] ⟨p4, o4, 0⟩)).1 = l at hls hll ⊢
      unfold dtabL dynT
      rw [live9, bad_dyn hls (by omega) (by rw [hll.1]; omega)]
      cases hd : dynB l (a + 257) with
      | true =>
        rw [if_pos rfl, if_neg (show ¬ ((!true) = true) by decide)]
        exact rl_coded _ _ p5 o5 hll.2.2.1
      | false =>
        rw [if_neg (show ¬ (false = true) by decide), if_pos (show (!false) = true from rfl)]
        exact rl_fail _ _ _
    · rw [if_neg (by simpa using hf), if_pos hf]
      exact rl_fail _ _ _
  · rw [if_neg hab, if_pos ⟨rfl, by omega⟩]
    have : (dfail 4 ⟨p3, o3, 0⟩).e ≠ 0 := by unfold dfail; simp
    have hd : dtabO s a b (down s (c + 4) 0 (zers 19) (dfail 4 ⟨p3, o3, 0⟩)).1 (down s (c + 4) 0 (zers 19) (dfail 4 ⟨p3, o3, 0⟩)).2 = (none, dfail 4 ⟨p3, o3, 0⟩) := by
      rw [down_dead this, dtabO_dead this]
    rw [hd]
    exact rl_fail _ _ _
theorem rl_block (kind p : Nat) (out : List Nat) (hp : p ≤ 8 * s.size) : Rl (blockR s B kind p out) () (dblock s B kind ⟨p, out, 0⟩) := by
  unfold blockR dblock
  by_cases h0 : kind = 0
  · rw [if_pos h0, if_pos h0]; exact rl_stored p out
  · rw [if_neg h0, if_neg h0]
    by_cases h1 : kind = 1
    · rw [if_pos h1, if_pos h1]; exact rl_coded _ _ p out hp
    · rw [if_neg h1, if_neg h1]
      by_cases h2 : kind = 2
      · rw [if_pos h2, if_pos h2, dyn_eq]; exact rl_dyn p out
      · rw [if_neg h2, if_neg h2]; exact rl_fail _ _ _
theorem rl_all : ∀ (g p : Nat) (out : List Nat), p ≤ 8 * s.size → 8 * s.size + 1 ≤ p + g → Rl (allF s B g p out) () (drunF s B g ⟨p, out, 0⟩)
  | 0, p, out, hp, hg => by omega
  | g + 1, p, out, hp, hg => by
    rw [allF, drunF]
    refine (rl_get 1 p out).bind (fun p1 o1 z1 e1 => ?_) (fun h => drunA_dead h _ _)
    rw [e1]
    obtain ⟨_, hp1, _, hp1'⟩ := getR_ok z1
    clear z1
    generalize (dget s 1 ⟨p, out, 0⟩).1 = last
    unfold drunA
    refine (rl_get 2 p1 o1).bind (fun p2 o2 z2 e2 => ?_) (fun h => drunB_dead h _ _ _)
    rw [e2]
    obtain ⟨_, hp2, _, hp2'⟩ := getR_ok z2
    clear z2
    generalize (dget s 2 ⟨p1, o1, 0⟩).1 = kind
    unfold drunB
    rw [live9]
    have hb := rl_block (s := s) (B := B) kind p2 o2 (by omega)
    refine hb.bind (fun p3 o3 z3 e3 => ?_) (fun h => by rw [if_neg (fun x => h x.2)])
    rw [e3]
    have hp3 := blockR_ok z3
    by_cases hl : last = 0
    · rw [if_pos hl, if_pos ⟨hl, rfl⟩]
      exact rl_all g p3 o3 (by omega) (by omega)
    · rw [if_neg hl, if_neg (fun x => hl x.1)]
      exact ⟨rfl, rfl⟩
end
/-- what the document's run tells is what Run tells -/
theorem drun_runV (s : ByteArray) (B : Nat) : runV s B = if (drun s B).e ≠ 0 then .tuple #[.string (txt (drun s B).out), .int .i64 0, .int .i64 (drun s B).e] else .tuple #[.string (txt (drun s B).out), .int .i64 (((drun s B).p + 7) / 8 : Nat), .int .i64 0] := by
  have h := rl_all (s := s) (B := B) (8 * s.size + 1) 0 [] (by omega) (by omega)
  have h : Rl (runR s B) () (drun s B) := h
  unfold runV
  cases hr : runR s B with
  | ok a p o =>
    rw [hr] at h
    obtain ⟨_, h⟩ := h
    rw [h, if_neg (by simp)]
  | er e o =>
    rw [hr] at h
    obtain ⟨h0, h1, h2⟩ := h
    rw [h1, h2, if_pos h0]
end Go.Proofs.Ytapcfffmgdpmcaa.If

/-! IpC: inflate: the document's run in memory; fail, get, put, symbol walked. -/
namespace Go.Proofs.Ytapcfffmgdpmcaa.If
open Go.RowKit Bt Hu

section
variable {w0 w : World} {ub rb : Nat} {Fr' : List Nat} {s : ByteArray} {B : Nat} {t : St} {L : List Ob}
theorem dget_lt (n : Nat) (hn : n ≤ 16) (t : St) : (dget s n t).1 < 65536 := by
  unfold dget
  split
  · exact Nat.zero_lt_succ _
  · split
    · exact getv8 s _ n hn
    · exact Nat.zero_lt_succ _
theorem dget_lt2 (n : Nat) (t : St) : (dget s n t).1 < 2 ^ n := by
  have : 0 < 2 ^ n := Nat.two_pow_pos n
  unfold dget
  split
  · exact this
  · split
    · exact getv_lt s false _ n
    · exact this
theorem rdD_zero (l : List Int) (bt : Nat → Nat) (N : Nat) : ∀ g k code p, (rdD l bt N g k code p).2.1 ≠ 0 → (rdD l bt N g k code p).1 = 0
  | 0, k, code, p, _ => rfl
  | g + 1, k, code, p, h => by
    rw [rdD] at h ⊢
    split at h
    · rename_i h1
      rw [if_pos h1]
      cases hf : fndD l k (2 * code + bt p) with
      | some x => rw [hf] at h; exact absurd rfl h
      | none => rw [hf] at h; exact rdD_zero l bt N g _ _ _ h
    · rename_i h1
      rw [if_neg h1]
theorem dsym_zero (D : List Int) (t : St) (h : (dsym s D t).2.e ≠ 0) : (dsym s D t).1 = 0 := by
  unfold dsym at h ⊢
  by_cases h0 : t.e ≠ 0
  · rw [if_pos h0]
  · rw [if_neg h0] at h ⊢
    simp only at h ⊢
    rw [read_doc] at h ⊢
    exact rdD_zero _ _ _ _ _ _ _ h
theorem rdD_len (l : List Int) (bt : Nat → Nat) (N : Nat) : ∀ g k code p, (rdD l bt N g k code p).1 < l.length ∨ (rdD l bt N g k code p).1 = 0
  | 0, k, code, p => .inr rfl
  | g + 1, k, code, p => by
    rw [rdD]
    split
    · cases hf : fndD l k (2 * code + bt p) with
      | some x =>
        refine .inl ?_
        unfold fndD at hf
        exact List.mem_range.1 (List.mem_of_find?_eq_some hf)
      | none => exact rdD_len l bt N g _ _ _
    · exact .inr rfl
theorem dsym_lt (D : List Int) (t : St) : (dsym s D t).1 < D.length ∨ (dsym s D t).1 = 0 := by
  unfold dsym
  split
  · exact .inr rfl
  · simp only
    rw [read_doc]
    exact rdD_len _ _ _ _ _ _ _
theorem rdD_place (l : List Int) (bt : Nat → Nat) (N : Nat) : ∀ g k code p, p ≤ N → p ≤ (rdD l bt N g k code p).2.2 ∧ (rdD l bt N g k code p).2.2 ≤ N
  | 0, k, code, p, h => ⟨Nat.le_refl _, h⟩
  | g + 1, k, code, p, h => by
    rw [rdD]
    by_cases hp : p < N
    · rw [if_pos hp]
      split
      · exact ⟨Nat.le_succ p, hp⟩
      · have := rdD_place l bt N g (k + 1) (2 * code + bt p) (p + 1) (by omega)
        exact ⟨by omega, this.2⟩
    · rw [if_neg hp]
      exact ⟨Nat.le_refl _, h⟩
end
end Go.Proofs.Ytapcfffmgdpmcaa.If

/-! IpD: inflate: the document's Length, Distance, LengthOf, DistanceOf, Order, dists, Fixed walked. -/
namespace Go.Proofs.Ytapcfffmgdpmcaa.If
open Go.RowKit Bt Hu

theorem len_step : ∀ k, k < 19 → lenB (265 + (k + 1)) = lenB (265 + k) + 2 ^ ((4 + k) / 4) ∧ (4 + k) / 4 ≤ 5 ∧ lenX (265 + k) = (4 + k) / 4 ∧ lenB (265 + k) ≤ 258 := by decide +kernel
theorem len_last : lenX 284 = 5 ∧ lenB 284 = 227 := by decide
theorem dst_step : ∀ k, k < 25 → dstB (4 + (k + 1)) = dstB (4 + k) + 2 ^ ((2 + k) / 2) ∧ (2 + k) / 2 ≤ 13 ∧ dstX (4 + k) = (2 + k) / 2 ∧ dstB (4 + k) ≤ 24577 := by decide +kernel
theorem dst_last : dstX 29 = 13 ∧ dstB 29 = 24577 := by decide
set_option maxRecDepth 100000 in
set_option maxHeartbeats 4000000 in
theorem dlength_walk (x : Int) (w : World) : Calls Try.prog 17 #[.int .i64 x] w fun e w' => e = .returned (.tuple #[.int .i64 (lenBZ x), .int .i64 (lenXZ x)]) ∧ w = w' := by
  by_cases h1 : x < 257
  · have e1 : lenBZ x = 0 := by unfold lenBZ; rw [if_pos (.inl h1)]
    have e2 : lenXZ x = 0 := by unfold lenXZ; rw [if_pos (.inl h1)]
    rw [e1, e2]
    clear e1 e2
    go_enter Try.func17, Try.ntmps17
    go_wp2_with fail
    exact bodyPost_ret (results_tmp2 rfl _ _ _) rfl ⟨rfl, rfl⟩
  by_cases h2 : 285 < x
  · have e1 : lenBZ x = 0 := by unfold lenBZ; rw [if_pos (.inr h2)]
    have e2 : lenXZ x = 0 := by unfold lenXZ; rw [if_pos (.inr h2)]
    rw [e1, e2]
    clear e1 e2
    go_enter Try.func17, Try.ntmps17
    go_wp2_with fail
    exact bodyPost_ret (results_tmp2 rfl _ _ _) rfl ⟨rfl, rfl⟩
  by_cases h3 : x = 285
  · subst h3
    have e1 : lenBZ 285 = 258 := by decide
    have e2 : lenXZ 285 = 0 := by decide
    rw [e1, e2]
    clear e1 e2
    go_enter Try.func17, Try.ntmps17
    go_wp2_with fail
    exact bodyPost_ret (results_tmp2 rfl _ _ _) rfl ⟨rfl, rfl⟩
  have z3 : (x == 285) = false := beq_eq_false_iff_ne.2 h3
  by_cases h4 : x < 265
  · obtain ⟨n, rfl⟩ : ∃ n : Nat, x = n := ⟨x.toNat, by omega⟩
    have e1 : ((lenBZ n : Nat) : Int) = (n : Int) - 254 := by
      rw [(lenBZ_at n (by omega) (by omega)).1]
      unfold lenB
      rw [if_neg (by omega), if_pos (by omega)]
      omega
    have e2 : lenXZ n = 0 := by
      rw [(lenBZ_at n (by omega) (by omega)).2]
      unfold lenX
      rw [if_neg (by omega), if_pos (by omega)]
    rw [e1, e2]
    clear e1 e2
    go_enter Try.func17, Try.ntmps17
    go_wp2_with fail
    exact bodyPost_ret (results_tmp2 rfl _ _ _) rfl ⟨rfl, rfl⟩
  obtain ⟨n, rfl⟩ : ∃ n : Nat, x = ((265 + n : Nat) : Int) := ⟨(x - 265).toNat, by omega⟩
  have hn : n ≤ 19 := by omega
  rw [(lenBZ_at (265 + n) (by omega) (by omega)).1, (lenBZ_at (265 + n) (by omega) (by omega)).2]
  have e2 : ((lenX (265 + n) : Nat) : Int) = (4 + (n : Int)) / 4 := by
    by_cases hn19 : n = 19
    · subst hn19; rw [len_last.1]; rfl
    · rw [(len_step n (by omega)).2.2.1]; omega
  rw [e2]
  clear e2
  obtain ⟨R, hR⟩ : ∃ R, lenB (265 + n) = R := ⟨_, rfl⟩
  rw [hR]
  have HR := Lib.hid hR
  clear hR z3
  obtain ⟨x, hx⟩ : ∃ x : Int, x = ((265 + n : Nat) : Int) := ⟨_, rfl⟩
  rw [← hx]
  have hxq : (x - 261) / 4 = (4 + (n : Int)) / 4 := by omega
  have z1 : ¬ x < 257 := by omega
  have z2 : ¬ 285 < x := by omega
  have z3 : (x == 285) = false := beq_eq_false_iff_ne.2 (by omega)
  have z4 : ¬ x < 265 := by omega
  have z5 : x ≤ 284 := by omega
  have z6 : 265 ≤ x := by omega
  clear h1 h2 h3 h4
  rw [← hxq]
  clear hxq
  go_enter Try.func17, Try.ntmps17
  go_wp2_with fail
  clear z1 z2 z3 z4
  go_loopg [4, 5] n (fun g bv sv wr => ∃ k : Nat, g + k = n ∧ bv = .int .i64 (lenB (265 + k) : Nat) ∧ sv = .int .i64 ((265 + k : Nat) : Int) ∧ w = wr)
  case atStart => exact ⟨0, by omega, by have : lenB (265 + 0) = 11 := by decide
                                         rw [this]; rfl, rfl, rfl⟩
  case round =>
    obtain ⟨k, hk, rfl, rfl, rfl⟩ := hrel
    cases gk with
    | zero =>
      obtain rfl : k = n := by omega
      have hR := HR.out
      clear HR
      rw [hR]
      subst hx
      clear hR
      go_wp2_with fail
      exact bodyPost_ret (results_tmp2 rfl _ _ _) rfl ⟨by push_cast; rfl, rfl⟩
    | succ g =>
      obtain ⟨s1, s2, _, s4⟩ := len_step k (by omega)
      have HS1 := Lib.hid s1
      obtain ⟨P, hP⟩ : ∃ P, lenB (265 + k) = P := ⟨_, rfl⟩
      obtain ⟨X, hX⟩ : ∃ X, (4 + k) / 4 = X := ⟨_, rfl⟩
      rw [hP] at s4 HS1 ⊢
      rw [hX] at s2 HS1
      obtain ⟨Z, hZ⟩ : ∃ Z : Nat, 2 ^ X = Z := ⟨_, rfl⟩
      have hZ32 : Z ≤ 32 := by rw [← hZ]; exact Nat.le_trans (Nat.pow_le_pow_right (by omega) s2) (by decide)
      have yz : (2 : Int) ^ X = (Z : Int) := by rw [← hZ]; push_cast; rfl
      rw [hZ] at HS1
      obtain ⟨q, hq⟩ : ∃ q : Int, q = ((265 + k : Nat) : Int) := ⟨_, rfl⟩
      rw [← hq]
      have y1 : q < x := by omega
      have y2 : (q - 261) / 4 = (X : Int) := by omega
      have y3 : 265 ≤ q := by omega
      have HQ := Lib.hid (⟨hq, hk⟩ : _ ∧ _)
      clear s1 hP hX hZ hq
      go_wp2_with fail
      go_roundg g
      case measure => omega
      case rel => exact ⟨k + 1, by have := HQ.out.2; omega, by rw [HS1.out]; go_num, by have := HQ.out.1; go_num, rfl⟩
set_option maxRecDepth 100000 in
set_option maxHeartbeats 4000000 in
theorem ddistance_walk (x : Int) (w : World) : Calls Try.prog 18 #[.int .i64 x] w fun e w' => e = .returned (.tuple #[.int .i64 (dstBZ x), .int .i64 (dstXZ x)]) ∧ w = w' := by
  by_cases h1 : x < 0
  · have e1 : dstBZ x = 0 := by unfold dstBZ; rw [if_pos (.inl h1)]
    have e2 : dstXZ x = 0 := by unfold dstXZ; rw [if_pos (.inl h1)]
    rw [e1, e2]
    clear e1 e2
    go_enter Try.func18, Try.ntmps18
    go_wp2_with fail
    exact bodyPost_ret (results_tmp2 rfl _ _ _) rfl ⟨rfl, rfl⟩
  by_cases h2 : 29 < x
  · have e1 : dstBZ x = 0 := by unfold dstBZ; rw [if_pos (.inr h2)]
    have e2 : dstXZ x = 0 := by unfold dstXZ; rw [if_pos (.inr h2)]
    rw [e1, e2]
    clear e1 e2
    go_enter Try.func18, Try.ntmps18
    go_wp2_with fail
    exact bodyPost_ret (results_tmp2 rfl _ _ _) rfl ⟨rfl, rfl⟩
  by_cases h4 : x < 4
  · obtain ⟨n, rfl⟩ : ∃ n : Nat, x = n := ⟨x.toNat, by omega⟩
    have e1 : ((dstBZ n : Nat) : Int) = (n : Int) + 1 := by
      rw [(dstBZ_at n (by omega)).1]
      unfold dstB
      rw [if_pos (by omega)]
      omega
    have e2 : dstXZ n = 0 := by
      rw [(dstBZ_at n (by omega)).2]
      unfold dstX
      rw [if_pos (by omega)]
    rw [e1, e2]
    clear e1 e2
    go_enter Try.func18, Try.ntmps18
    go_wp2_with fail
    exact bodyPost_ret (results_tmp2 rfl _ _ _) rfl ⟨rfl, rfl⟩
  obtain ⟨n, rfl⟩ : ∃ n : Nat, x = ((4 + n : Nat) : Int) := ⟨(x - 4).toNat, by omega⟩
  have hn : n ≤ 25 := by omega
  rw [(dstBZ_at (4 + n) (by omega)).1, (dstBZ_at (4 + n) (by omega)).2]
  have e2 : ((dstX (4 + n) : Nat) : Int) = (2 + (n : Int)) / 2 := by
    by_cases hn25 : n = 25
    · subst hn25; rw [dst_last.1]; rfl
    · rw [(dst_step n (by omega)).2.2.1]; omega
  rw [e2]
  clear e2
  obtain ⟨R, hR⟩ : ∃ R, dstB (4 + n) = R := ⟨_, rfl⟩
  rw [hR]
  have HR := Lib.hid hR
  clear hR
  obtain ⟨x, hx⟩ : ∃ x : Int, x = ((4 + n : Nat) : Int) := ⟨_, rfl⟩
  rw [← hx]
  have hxq : (x - 2) / 2 = (2 + (n : Int)) / 2 := by omega
  have z1 : ¬ x < 0 := by omega
  have z2 : ¬ 29 < x := by omega
  have z4 : ¬ x < 4 := by omega
  have z5 : x ≤ 29 := by omega
  have z6 : 4 ≤ x := by omega
  clear h1 h2 h4
  rw [← hxq]
  clear hxq
  go_enter Try.func18, Try.ntmps18
  go_wp2_with fail
  clear z1 z2 z4
  go_loopg [4, 5] n (fun g bv sv wr => ∃ k : Nat, g + k = n ∧ bv = .int .i64 (dstB (4 + k) : Nat) ∧ sv = .int .i64 ((4 + k : Nat) : Int) ∧ w = wr)
  case atStart => exact ⟨0, by omega, by have : dstB (4 + 0) = 5 := by decide
                                         rw [this]; rfl, rfl, rfl⟩
  case round =>
    obtain ⟨k, hk, rfl, rfl, rfl⟩ := hrel
    cases gk with
    | zero =>
      obtain rfl : k = n := by omega
      have hR := HR.out
      clear HR
      rw [hR]
      subst hx
      clear hR
      go_wp2_with fail
      exact bodyPost_ret (results_tmp2 rfl _ _ _) rfl ⟨by push_cast; rfl, rfl⟩
    | succ g =>
      obtain ⟨s1, s2, _, s4⟩ := dst_step k (by omega)
      have HS1 := Lib.hid s1
      obtain ⟨P, hP⟩ : ∃ P, dstB (4 + k) = P := ⟨_, rfl⟩
      obtain ⟨X, hX⟩ : ∃ X, (2 + k) / 2 = X := ⟨_, rfl⟩
      rw [hP] at s4 HS1 ⊢
      rw [hX] at s2 HS1
      obtain ⟨Z, hZ⟩ : ∃ Z : Nat, 2 ^ X = Z := ⟨_, rfl⟩
      have hZ32 : Z ≤ 8192 := by rw [← hZ]; exact Nat.le_trans (Nat.pow_le_pow_right (by omega) s2) (by decide)
      have yz : (2 : Int) ^ X = (Z : Int) := by rw [← hZ]; push_cast; rfl
      rw [hZ] at HS1
      obtain ⟨q, hq⟩ : ∃ q : Int, q = ((4 + k : Nat) : Int) := ⟨_, rfl⟩
      rw [← hq]
      have y1 : q < x := by omega
      have y2 : (q - 2) / 2 = (X : Int) := by omega
      have y3 : 4 ≤ q := by omega
      have HQ := Lib.hid (⟨hq, hk⟩ : _ ∧ _)
      clear s1 hP hX hZ hq
      go_wp2_with fail
      go_roundg g
      case measure => omega
      case rel => exact ⟨k + 1, by have := HQ.out.2; omega, by rw [HS1.out]; go_num, by have := HQ.out.1; go_num, rfl⟩
theorem last_is (f : Nat → Nat) (n lo j : Nat) : ∀ k, j ≤ k → f (lo + j) ≤ n → (∀ i, j < i → i ≤ k → n < f (lo + i)) → lastF f n lo k = lo + j
  | 0, h1, _, _ => by rw [lastF, show j = 0 by omega]; rfl
  | k + 1, h1, h2, h3 => by
    rw [lastF]
    by_cases hj : j = k + 1
    · subst hj; rw [if_pos h2]
    · rw [if_neg (by have := h3 (k + 1) (by omega) (Nat.le_refl _); omega)]
      exact last_is f n lo j k (by omega) h2 (fun i a b => h3 i a (by omega))
theorem len_mono : ∀ i, i < 29 → ∀ j, j < 29 → i ≤ j → lenB (257 + i) ≤ lenB (257 + j) := by decide +kernel
theorem dst_mono : ∀ i, i < 30 → ∀ j, j < 30 → i ≤ j → dstB (0 + i) ≤ dstB (0 + j) := by decide +kernel
set_option maxRecDepth 100000 in
set_option maxHeartbeats 4000000 in
theorem dlenof_walk (n : Int) (w : World) : Calls Try.prog 15 #[.int .i64 n] w fun e w' => e = .returned (.int .i64 (lenOfZ n)) ∧ w = w' := by
  by_cases h1 : n < 3
  · have e1 : lenOfZ n = -1 := by unfold lenOfZ; rw [if_pos (.inl h1)]
    rw [e1]
    clear e1
    go_enter Try.func15, Try.ntmps15
    go_wp2_with fail
    go_ret
    exact ⟨rfl, rfl⟩
  by_cases h2 : 258 < n
  · have e1 : lenOfZ n = -1 := by unfold lenOfZ; rw [if_pos (.inr h2)]
    rw [e1]
    clear e1
    go_enter Try.func15, Try.ntmps15
    go_wp2_with fail
    go_ret
    exact ⟨rfl, rfl⟩
  by_cases h3 : n = 258
  · subst h3
    have e1 : lenOfZ 258 = 285 := by decide
    rw [e1]
    clear e1
    go_enter Try.func15, Try.ntmps15
    go_wp2_with fail
    go_ret
    exact ⟨rfl, rfl⟩
  obtain ⟨m, rfl⟩ : ∃ m : Nat, n = m := ⟨n.toNat, by omega⟩
  have z3 : ((m : Int) == 258) = false := beq_eq_false_iff_ne.2 (by omega)
  have e1 : lenOfZ (m : Int) = (lastF lenB m 257 28 : Nat) := by unfold lenOfZ; rw [if_neg (by omega), Int.toNat_natCast]
  have h285 : lenB (257 + 28) = 258 := by decide
  have h257 : lenB (257 + 0) = 3 := by decide
  rw [e1]
  obtain ⟨R, hR⟩ : ∃ R, lastF lenB m 257 28 = R := ⟨_, rfl⟩
  rw [hR]
  have HR := Lib.hid hR
  clear hR e1
  go_enter Try.func15, Try.ntmps15
  go_wp2_with fail
  clear z3
  go_loopg [3] 28 (fun g sv wr => ∃ k : Nat, g + k = 28 ∧ k ≤ 27 ∧ sv = .int .i64 ((257 + k : Nat) : Int) ∧ lenB (257 + k) ≤ m ∧ w = wr)
  case atStart => exact ⟨0, by omega, by omega, rfl, by omega, rfl⟩
  case round =>
    obtain ⟨k, hk, hk27, rfl, hle, rfl⟩ := hrel
    by_cases hk9 : k = 27
    · subst hk9
      have hR := HR.out
      rw [last_is lenB m 257 27 28 (by omega) hle (fun i a b => by (have e : i = 28 := by omega); subst e; omega)] at hR
      subst hR
      go_wp2_with fail
      go_ret
      exact ⟨rfl, rfl⟩
    · have hlw := dlength_walk ((257 + (k + 1) : Nat) : Int) w
      rw [(lenBZ_at (257 + (k + 1)) (by omega) (by omega)).1, (lenBZ_at (257 + (k + 1)) (by omega) (by omega)).2] at hlw
      have ht := len_table (257 + (k + 1)) (by omega)
      have hfin : m < lenB (257 + (k + 1)) → R = 257 + k := fun h => by
        rw [← HR.out]
        exact last_is lenB m 257 k 28 (by omega) hle (fun i a b => Nat.lt_of_lt_of_le h (len_mono (k + 1) (by omega) i (by omega) (by omega)))
      obtain ⟨P, hP⟩ : ∃ P, lenB (257 + (k + 1)) = P := ⟨_, rfl⟩
      obtain ⟨X, hX⟩ : ∃ X, lenX (257 + (k + 1)) = X := ⟨_, rfl⟩
      rw [hP] at hfin
      rw [hP, hX] at hlw ht
      obtain ⟨q, hq⟩ : ∃ q : Int, q = ((257 + k : Nat) : Int) := ⟨_, rfl⟩
      have hq1 : ((257 + (k + 1) : Nat) : Int) = q + 1 := by omega
      rw [hq1] at hlw
      rw [← hq]
      have HLW := Lib.hid hlw
      have hq2 : q < 284 := by omega
      have hq3 : 257 ≤ q := by omega
      have HQ := Lib.hid (⟨hq, hk, hP, hfin⟩ : _ ∧ _ ∧ _ ∧ _)
      clear hlw hP hX hq hk hq1 hle hfin
      by_cases hgt : m < P
      · have hgt' : (m : Int) < (P : Int) := by omega
        go_wp2_with fail
        refine HLW.out.mono ?_
        clear HLW
        rintro e w1 ⟨rfl, rfl⟩
        go_wp2_with fail
        go_ret
        have e9 : ((R : Nat) : Int) = q := by rw [HQ.out.2.2.2 hgt, HQ.out.1]
        exact ⟨by rw [e9]; rfl, rfl⟩
      · have hgt' : ¬ (m : Int) < (P : Int) := by omega
        go_wp2_with fail
        refine HLW.out.mono ?_
        clear HLW
        rintro e w1 ⟨rfl, rfl⟩
        go_wp2_with fail
        go_roundg (28 - (k + 1))
        case measure => have := HQ.out.2.1; omega
        case rel => exact ⟨k + 1, by have := HQ.out.2.1; omega, by omega, by have := HQ.out.1; go_num, by rw [HQ.out.2.2.1]; omega, rfl⟩
set_option maxRecDepth 100000 in
set_option maxHeartbeats 4000000 in
theorem ddstof_walk (n : Int) (w : World) : Calls Try.prog 16 #[.int .i64 n] w fun e w' => e = .returned (.int .i64 (dstOfZ n)) ∧ w = w' := by
  by_cases h1 : n < 1
  · have e1 : dstOfZ n = -1 := by unfold dstOfZ; rw [if_pos (.inl h1)]
    rw [e1]
    clear e1
    go_enter Try.func16, Try.ntmps16
    go_wp2_with fail
    go_ret
    exact ⟨rfl, rfl⟩
  by_cases h2 : 32768 < n
  · have e1 : dstOfZ n = -1 := by unfold dstOfZ; rw [if_pos (.inr h2)]
    rw [e1]
    clear e1
    go_enter Try.func16, Try.ntmps16
    go_wp2_with fail
    go_ret
    exact ⟨rfl, rfl⟩
  obtain ⟨m, rfl⟩ : ∃ m : Nat, n = m := ⟨n.toNat, by omega⟩
  have e1 : dstOfZ (m : Int) = (lastF dstB m 0 29 : Nat) := by unfold dstOfZ; rw [if_neg (by omega), Int.toNat_natCast]
  have h0 : dstB (0 + 0) = 1 := by decide
  rw [e1]
  obtain ⟨R, hR⟩ : ∃ R, lastF dstB m 0 29 = R := ⟨_, rfl⟩
  rw [hR]
  have HR := Lib.hid hR
  clear hR e1
  go_enter Try.func16, Try.ntmps16
  go_wp2_with fail
  go_loopg [3] 30 (fun g sv wr => ∃ k : Nat, g + k = 30 ∧ k ≤ 29 ∧ sv = .int .i64 ((0 + k : Nat) : Int) ∧ dstB (0 + k) ≤ m ∧ w = wr)
  case atStart => exact ⟨0, by omega, by omega, rfl, by omega, rfl⟩
  case round =>
    obtain ⟨k, hk, hk27, rfl, hle, rfl⟩ := hrel
    by_cases hk9 : k = 29
    · subst hk9
      have hR := HR.out
      rw [last_is dstB m 0 29 29 (by omega) hle (fun i a b => by omega)] at hR
      subst hR
      go_wp2_with fail
      go_ret
      exact ⟨rfl, rfl⟩
    · have hlw := ddistance_walk ((0 + (k + 1) : Nat) : Int) w
      rw [(dstBZ_at (0 + (k + 1)) (by omega)).1, (dstBZ_at (0 + (k + 1)) (by omega)).2] at hlw
      have ht := dst_table (0 + (k + 1)) (by omega)
      have hfin : m < dstB (0 + (k + 1)) → R = 0 + k := fun h => by
        rw [← HR.out]
        exact last_is dstB m 0 k 29 (by omega) hle (fun i a b => Nat.lt_of_lt_of_le h (dst_mono (k + 1) (by omega) i (by omega) (by omega)))
      obtain ⟨P, hP⟩ : ∃ P, dstB (0 + (k + 1)) = P := ⟨_, rfl⟩
      obtain ⟨X, hX⟩ : ∃ X, dstX (0 + (k + 1)) = X := ⟨_, rfl⟩
      rw [hP] at hfin
      rw [hP, hX] at hlw ht
      obtain ⟨q, hq⟩ : ∃ q : Int, q = ((0 + k : Nat) : Int) := ⟨_, rfl⟩
      have hq1 : ((0 + (k + 1) : Nat) : Int) = q + 1 := by omega
      rw [hq1] at hlw
      rw [← hq]
      have HLW := Lib.hid hlw
      have hq2 : q < 29 := by omega
      have hq3 : 0 ≤ q := by omega
      have HQ := Lib.hid (⟨hq, hk, hP, hfin⟩ : _ ∧ _ ∧ _ ∧ _)
      clear hlw hP hX hq hk hq1 hle hfin
      by_cases hgt : m < P
      · have hgt' : (m : Int) < (P : Int) := by omega
        go_wp2_with fail
        refine HLW.out.mono ?_
        clear HLW
        rintro e w1 ⟨rfl, rfl⟩
        go_wp2_with fail
        go_ret
        have e9 : ((R : Nat) : Int) = q := by rw [HQ.out.2.2.2 hgt, HQ.out.1]
        exact ⟨by rw [e9]; rfl, rfl⟩
      · have hgt' : ¬ (m : Int) < (P : Int) := by omega
        go_wp2_with fail
        refine HLW.out.mono ?_
        clear HLW
        rintro e w1 ⟨rfl, rfl⟩
        go_wp2_with fail
        go_roundg (30 - (k + 1))
        case measure => have := HQ.out.2.1; omega
        case rel => exact ⟨k + 1, by have := HQ.out.2.1; omega, by omega, by have := HQ.out.1; go_num, by rw [HQ.out.2.2.1]; omega, rfl⟩
end Go.Proofs.Ytapcfffmgdpmcaa.If

/-! IpE: inflate: the document's Order, dists, Fixed, stored walked; rows beside the run. -/
namespace Go.Proofs.Ytapcfffmgdpmcaa.If
open Go.RowKit Bt Hu

/-- the first of three objects put third -/
theorem Sep.third {w0 w : World} {o a b : Ob} {L : List Ob} (h : Sep w0 w (o :: a :: b :: L)) : Sep w0 w (a :: b :: o :: L) := by
  have hm : ∀ c, c ∈ a :: b :: o :: L → c ∈ o :: a :: b :: L := fun c hc => by
    simp only [List.mem_cons] at hc ⊢
    rcases hc with h | h | h | h
    · exact .inr (.inl h)
    · exact .inr (.inr (.inl h))
    · exact .inl h
    · exact .inr (.inr (.inr h))
  let f : Nat → Nat := fun i => if i = 0 then 1 else if i = 1 then 2 else if i = 2 then 0 else i
  have hf : ∀ i c, (a :: b :: o :: L)[i]? = some c → (o :: a :: b :: L)[f i]? = some c := fun i c hi => by
    match i with
    | 0 => exact hi
    | 1 => exact hi
    | 2 => exact hi
    | n + 3 =>
      have e : f (n + 3) = n + 3 := by simp only [f]; rw [if_neg (by omega), if_neg (by omega), if_neg (by omega)]
      rw [e]
      simpa using hi
  have fi : ∀ i j, f i = f j → i = j := fun i j e => by
    simp only [f] at e
    split at e <;> split at e <;> (try split at e) <;> (try split at e) <;> (try split at e) <;> (try split at e) <;> omega
  exact ⟨h.ext, fun c hc => h.each c (hm c hc), fun c hc => h.base c (hm c hc), fun i j c d hi hj hij => h.apart (f i) (f j) c d (hf i c hi) (hf j d hj) (fun e => hij (fi i j e))⟩
section
variable {w0 w : World} {ub rb : Nat} {Fr' : List Nat} {s : ByteArray} {B : Nat} {t : St} {L : List Ob}
end
theorem some_snoc (l : List Int) (x : Int) : someN9 (l ++ [x]) = someN9 l + if 0 < x then 1 else 0 := by unfold someN9; rw [List.countP_append, List.countP_singleton]; simp
theorem one_snoc (l : List Int) (x : Int) : oneN9 (l ++ [x]) = oneN9 l + if x = 1 then 1 else 0 := by unfold oneN9; rw [List.countP_append, List.countP_singleton]; simp
theorem fix_at8 : ∀ i, i < 288 → fixL[i]? = some (if i < 144 then 8 else if i ≤ 255 then 9 else if i ≤ 279 then 7 else 8) := by decide +kernel
theorem fix_take (k : Nat) (h : k < 288) : fixL.take (k + 1) = fixL.take k ++ [if k < 144 then 8 else if k ≤ 255 then 9 else if k ≤ 279 then 7 else 8] := take_snoc10 _ _ _ (fix_at8 k h)
theorem fixD_take (k : Nat) (h : k < 30) : fixD.take (k + 1) = fixD.take k ++ [5] := take_snoc10 _ _ _ (by unfold fixD; rw [List.getElem?_replicate, if_pos h])
set_option maxRecDepth 100000 in
set_option maxHeartbeats 16000000 in
theorem dfixed_walk (w : World) : Calls Try.prog 14 #[] w (NewPair w fixL fixD) := by
  have hL : fixL.length = 288 := by decide +kernel
  have hDl : fixD.length = 30 := by decide +kernel
  obtain ⟨i0, hif, hz0, hz1, hz2⟩ := info_parts infoInt7
  have HS := Lib.hid ((Sep.start w).new (Ext.refl _ _) (oIn none 0 []) (World.ownsRow_nil _ _ _ _) (by simp [oIn, oSl, Value.ownBlock]))
  go_enter Try.func14, Try.ntmps14
  go_wp2_with fail
  go_loopg [2, 4] 288 (fun g lv iv wr => ∃ (k : Nat) (ao : Option Addr) (cap : Nat) (l : List Int), g + k = 288 ∧ l.length = k ∧ l = fixL.take k ∧ lv = .slice ao l.length cap ∧ iv = .int .i64 k ∧ Sep w wr [oIn ao cap l])
  case atStart => exact ⟨0, none, 0, [], by omega, rfl, rfl, rfl, rfl, HS.out⟩
  case round =>
    clear HS
    obtain ⟨k, ao, cap, l, hk, hlk, hl, rfl, rfl, S⟩ := hrel
    have hown : wr.ownsRow 0 3 1 (.slice ao l.length cap) l.length (l.map iz) := S.get 0 rfl
    have HS := Lib.hid S
    have HL := Lib.hid hl
    have HLK := Lib.hid hlk
    have hlb : l.length ≤ 288 := by omega
    clear S hl hlk
    by_cases hlt : k < 288
    · have hft := fix_take k hlt
      have hk8 : (k : Int) < 288 := by omega
      by_cases g1 : k < 144
      · rw [if_pos g1] at hft
        have g1' : (k : Int) < 144 := by omega
        rw [← HL.out] at hft
        have HFT := Lib.hid hft
        clear hft HL
        go_wp2_with (at_builtin; refine wpList_append_lies _ rfl _ _ 25 rfl 0 3 i0 _ 1 8 Try.underlying25 hif hz0 hz1 hz2 rfl (by decide) (.slice ao l.length cap) l.length (l.map iz) rfl (World.ownsRow.alloc hown _) ⟨wr.heap.size, 0, none⟩ 1 1 [iz 8] rfl rfl (cell_one_new _ _ _) (by simp [Value.oneCell']) (by decide) (by unfold maxLen; omega) (by omega) (by omega) (wr.heap.size + 1) (by simp) ?_; intro g1 cap1 w2 hown1 hgrow1 hat1 hlt1; have P1 := push_local (cap := cap1) (n := l.length + 1) hgrow1 hat1; have S2 := HS.out.upd 0 (oSl 3 1 (.slice (some ⟨g1, 0, none⟩) (l.length + 1) cap1) (l ++ [8]).length ((l ++ [8]).map iz)) rfl P1.1 P1.2 (by rw [List.map_append, List.length_append]; exact hown1); have H2 := Lib.hid S2; clear S2 P1 hown1 hgrow1 hat1 hown)
        go_roundg (288 - (k + 1))
        case measure => omega
        case rel => exact ⟨k + 1, _, cap1, l ++ [8], by omega, by rw [List.length_append, HLK.out]; rfl, HFT.out.symm, by rw [List.length_append]; rfl, by go_num, by have S := H2.out; simpa only [oIn, List.length_append, List.length_singleton, List.set_cons_zero] using S⟩
      · rw [if_neg g1] at hft
        have g1' : (144 : Int) ≤ (k : Int) := by omega
        by_cases g2 : k ≤ 255
        · rw [if_pos g2] at hft
          have g2' : (k : Int) ≤ 255 := by omega
          rw [← HL.out] at hft
          have HFT := Lib.hid hft
          clear hft HL
          go_wp2_with (at_builtin; refine wpList_append_lies _ rfl _ _ 25 rfl 0 3 i0 _ 1 8 Try.underlying25 hif hz0 hz1 hz2 rfl (by decide) (.slice ao l.length cap) l.length (l.map iz) rfl (World.ownsRow.alloc hown _) ⟨wr.heap.size, 0, none⟩ 1 1 [iz 9] rfl rfl (cell_one_new _ _ _) (by simp [Value.oneCell']) (by decide) (by unfold maxLen; omega) (by omega) (by omega) (wr.heap.size + 1) (by simp) ?_; intro g1 cap1 w2 hown1 hgrow1 hat1 hlt1; have P1 := push_local (cap := cap1) (n := l.length + 1) hgrow1 hat1; have S2 := HS.out.upd 0 (oSl 3 1 (.slice (some ⟨g1, 0, none⟩) (l.length + 1) cap1) (l ++ [9]).length ((l ++ [9]).map iz)) rfl P1.1 P1.2 (by rw [List.map_append, List.length_append]; exact hown1); have H2 := Lib.hid S2; clear S2 P1 hown1 hgrow1 hat1 hown)
          go_roundg (288 - (k + 1))
          case measure => omega
          case rel => exact ⟨k + 1, _, cap1, l ++ [9], by omega, by rw [List.length_append, HLK.out]; rfl, HFT.out.symm, by rw [List.length_append]; rfl, by go_num, by have S := H2.out; simpa only [oIn, List.length_append, List.length_singleton, List.set_cons_zero] using S⟩
        · rw [if_neg g2] at hft
          have g2' : (256 : Int) ≤ (k : Int) := by omega
          by_cases g3 : k ≤ 279
          · rw [if_pos g3] at hft
            have g3' : (k : Int) ≤ 279 := by omega
            rw [← HL.out] at hft
            have HFT := Lib.hid hft
            clear hft HL
            go_wp2_with (at_builtin; refine wpList_append_lies _ rfl _ _ 25 rfl 0 3 i0 _ 1 8 Try.underlying25 hif hz0 hz1 hz2 rfl (by decide) (.slice ao l.length cap) l.length (l.map iz) rfl (World.ownsRow.alloc hown _) ⟨wr.heap.size, 0, none⟩ 1 1 [iz 7] rfl rfl (cell_one_new _ _ _) (by simp [Value.oneCell']) (by decide) (by unfold maxLen; omega) (by omega) (by omega) (wr.heap.size + 1) (by simp) ?_; intro g1 cap1 w2 hown1 hgrow1 hat1 hlt1; have P1 := push_local (cap := cap1) (n := l.length + 1) hgrow1 hat1; have S2 := HS.out.upd 0 (oSl 3 1 (.slice (some ⟨g1, 0, none⟩) (l.length + 1) cap1) (l ++ [7]).length ((l ++ [7]).map iz)) rfl P1.1 P1.2 (by rw [List.map_append, List.length_append]; exact hown1); have H2 := Lib.hid S2; clear S2 P1 hown1 hgrow1 hat1 hown)
            go_roundg (288 - (k + 1))
            case measure => omega
            case rel => exact ⟨k + 1, _, cap1, l ++ [7], by omega, by rw [List.length_append, HLK.out]; rfl, HFT.out.symm, by rw [List.length_append]; rfl, by go_num, by have S := H2.out; simpa only [oIn, List.length_append, List.length_singleton, List.set_cons_zero] using S⟩
          · rw [if_neg g3] at hft
            have g3' : (280 : Int) ≤ (k : Int) := by omega
            rw [← HL.out] at hft
            have HFT := Lib.hid hft
            clear hft HL
            go_wp2_with (at_builtin; refine wpList_append_lies _ rfl _ _ 25 rfl 0 3 i0 _ 1 8 Try.underlying25 hif hz0 hz1 hz2 rfl (by decide) (.slice ao l.length cap) l.length (l.map iz) rfl (World.ownsRow.alloc hown _) ⟨wr.heap.size, 0, none⟩ 1 1 [iz 8] rfl rfl (cell_one_new _ _ _) (by simp [Value.oneCell']) (by decide) (by unfold maxLen; omega) (by omega) (by omega) (wr.heap.size + 1) (by simp) ?_; intro g1 cap1 w2 hown1 hgrow1 hat1 hlt1; have P1 := push_local (cap := cap1) (n := l.length + 1) hgrow1 hat1; have S2 := HS.out.upd 0 (oSl 3 1 (.slice (some ⟨g1, 0, none⟩) (l.length + 1) cap1) (l ++ [8]).length ((l ++ [8]).map iz)) rfl P1.1 P1.2 (by rw [List.map_append, List.length_append]; exact hown1); have H2 := Lib.hid S2; clear S2 P1 hown1 hgrow1 hat1 hown)
            go_roundg (288 - (k + 1))
            case measure => omega
            case rel => exact ⟨k + 1, _, cap1, l ++ [8], by omega, by rw [List.length_append, HLK.out]; rfl, HFT.out.symm, by rw [List.length_append]; rfl, by go_num, by have S := H2.out; simpa only [oIn, List.length_append, List.length_singleton, List.set_cons_zero] using S⟩
    · obtain rfl : k = 288 := by omega
      have hl := HL.out
      rw [List.take_of_length_le (by omega)] at hl
      clear HL
      have hlk := HLK.out
      clear HLK hlb
      clear hown
      have HS1 := Lib.hid HS.out
      have HS := Lib.hid (HS1.out.new (Ext.refl _ _) (oIn none 0 []) (World.ownsRow_nil _ _ _ _) (by simp [oIn, oSl, Value.ownBlock]))
      have HLL := Lib.hid (⟨hl, hlk⟩ : _ ∧ _)
      clear hl hlk HS1
      obtain ⟨LL, hLL⟩ : ∃ LL, l = LL := ⟨_, rfl⟩
      subst hLL
      obtain ⟨LL, hLL⟩ : ∃ LL, LL = l := ⟨_, rfl⟩
      rw [← hLL] at HS HLL ⊢
      clear hLL
      go_wp2_with fail
      go_loopg [3, 6] 30 (fun g dv jv wr => ∃ (k : Nat) (ao2 : Option Addr) (cap2 : Nat) (l : List Int), g + k = 30 ∧ l.length = k ∧ l = fixD.take k ∧ dv = .slice ao2 l.length cap2 ∧ jv = .int .i64 k ∧ Sep w wr [oIn ao2 cap2 l, oIn ao cap LL])
      case atStart => exact ⟨0, none, 0, [], by omega, rfl, rfl, rfl, rfl, HS.out⟩
      case round =>
        clear HS
        obtain ⟨k, ao2, cap2, l, hk, hlk, hl, rfl, rfl, S⟩ := hrel
        have hown : wr.ownsRow 0 3 1 (.slice ao2 l.length cap2) l.length (l.map iz) := S.get 0 rfl
        have HS := Lib.hid S
        have HL := Lib.hid hl
        have HLK := Lib.hid hlk
        have hlb : l.length ≤ 30 := by omega
        clear S hl hlk
        by_cases hlt : k < 30
        · have hft := fixD_take k hlt
          have hk8 : (k : Int) < 30 := by omega
          rw [← HL.out] at hft
          have HFT := Lib.hid hft
          clear hft HL
          go_wp2_with (at_builtin; refine wpList_append_lies _ rfl _ _ 25 rfl 0 3 i0 _ 1 8 Try.underlying25 hif hz0 hz1 hz2 rfl (by decide) (.slice ao2 l.length cap2) l.length (l.map iz) rfl (World.ownsRow.alloc hown _) ⟨wr.heap.size, 0, none⟩ 1 1 [iz 5] rfl rfl (cell_one_new _ _ _) (by simp [Value.oneCell']) (by decide) (by unfold maxLen; omega) (by omega) (by omega) (wr.heap.size + 1) (by simp) ?_; intro g1 cap1 w2 hown1 hgrow1 hat1 hlt1; have P1 := push_local (cap := cap1) (n := l.length + 1) hgrow1 hat1; have S2 := HS.out.upd 0 (oSl 3 1 (.slice (some ⟨g1, 0, none⟩) (l.length + 1) cap1) (l ++ [5]).length ((l ++ [5]).map iz)) rfl P1.1 P1.2 (by rw [List.map_append, List.length_append]; exact hown1); have H2 := Lib.hid S2; clear S2 P1 hown1 hgrow1 hat1 hown)
          go_roundg (30 - (k + 1))
          case measure => omega
          case rel => exact ⟨k + 1, _, cap1, l ++ [5], by omega, by rw [List.length_append, HLK.out]; rfl, HFT.out.symm, by rw [List.length_append]; rfl, by go_num, by have S := H2.out; simpa only [oIn, List.length_append, List.length_singleton, List.set_cons_zero] using S⟩
        · obtain rfl : k = 30 := by omega
          have hl := HL.out
          rw [List.take_of_length_le (by omega)] at hl
          clear HL hown
          go_wp2_with fail
          have S := HS.out
          have e1 := HLL.out.1
          subst e1 hl
          refine bodyPost_ret (results_tmp2 rfl _ _ _) rfl ?_
          refine ⟨ao, cap, ao2, cap2, by rw [hL]; rfl, S.ext, S.get 1 rfl, S.get 0 rfl, fun q hq => S.base (oIn ao cap fixL) (by simp) q hq, fun q hq => S.base (oIn ao2 cap2 fixD) (by simp) q hq⟩
end Go.Proofs.Ytapcfffmgdpmcaa.If

/-! IpF: inflate: the document's coded walked. -/
namespace Go.Proofs.Ytapcfffmgdpmcaa.If
open Go.RowKit Bt Hu

theorem dput_p (B b : Nat) (t : St) : (dput B b t).p = t.p := by
  unfold dput
  split
  · rfl
  · split <;> rfl
theorem dput_len (B b : Nat) (t : St) : t.out.length ≤ (dput B b t).out.length := by
  unfold dput
  split
  · exact Nat.le_refl _
  · split
    · exact Nat.le_refl _
    · simp only [List.length_append]; omega
theorem dget_p (s : ByteArray) (n : Nat) (t : St) : t.p ≤ (dget s n t).2.p ∧ (dget s n t).2.out = t.out := by
  unfold dget
  split
  · exact ⟨Nat.le_refl _, rfl⟩
  · split
    · exact ⟨by simp, rfl⟩
    · exact ⟨Nat.le_refl _, rfl⟩
theorem dsym_p (s : ByteArray) (D : List Int) (t : St) (hp : t.p ≤ 8 * s.size) : t.p ≤ (dsym s D t).2.p ∧ (dsym s D t).2.out = t.out ∧ ((dsym s D t).2.e = 0 → t.p < (dsym s D t).2.p) := by
  unfold dsym
  by_cases h0 : t.e ≠ 0
  · rw [if_pos h0]
    exact ⟨Nat.le_refl _, rfl, fun h => absurd h h0⟩
  · rw [if_neg h0]
    simp only
    rw [read_doc]
    exact ⟨(rdD_place D (bit s false) (8 * s.size) 15 1 0 t.p hp).1, trivial, fun h => (rdD_ok D (bit s false) (8 * s.size) 15 1 0 t.p (by omega) h).1⟩
section
variable {w0 w : World} {ub rb : Nat} {Fr' : List Nat} {s : ByteArray} {B : Nat} {t : St} {L : List Ob}
end
end Go.Proofs.Ytapcfffmgdpmcaa.If

/-! IpG: inflate: the document's lengths walked. -/
namespace Go.Proofs.Ytapcfffmgdpmcaa.If
open Go.RowKit Bt Hu

theorem dlenF_stop (s : ByteArray) (D : List Int) (n g : Nat) (l : List Int) (t : St) (h : ¬ (l.length < n ∧ t.e = 0)) : dlenF s D n g l t = (l, t) := by
  cases g with
  | zero => rfl
  | succ g => exact if_neg h
section
variable {w0 w : World} {ub rb : Nat} {Fr' : List Nat} {s : ByteArray} {B : Nat} {t : St} {L : List Ob}
end
end Go.Proofs.Ytapcfffmgdpmcaa.If

/-! IpH: inflate: the document's tables walked. -/
namespace Go.Proofs.Ytapcfffmgdpmcaa.If
open Go.RowKit Bt Hu

/-- the third of the objects left out -/
theorem Sep.drop3 {w0 w : World} {o a b : Ob} {L : List Ob} (h : Sep w0 w (a :: b :: o :: L)) : Sep w0 w (a :: b :: L) := by
  let f : Nat → Nat := fun i => if i ≤ 1 then i else i + 1
  have hf : ∀ i c, (a :: b :: L)[i]? = some c → (a :: b :: o :: L)[f i]? = some c := fun i c hi => by
    match i with
    | 0 => exact hi
    | 1 => exact hi
    | n + 2 =>
      have e : f (n + 2) = n + 3 := by simp only [f]; rw [if_neg (by omega)]
      rw [e]
      simpa using hi
  have fi : ∀ i j, f i = f j → i = j := fun i j e => by
    simp only [f] at e
    split at e <;> split at e <;> omega
  have hm : ∀ c, c ∈ a :: b :: L → c ∈ a :: b :: o :: L := fun c hc => by
    simp only [List.mem_cons] at hc ⊢
    rcases hc with h | h | h
    · exact .inl h
    · exact .inr (.inl h)
    · exact .inr (.inr (.inr h))
  exact ⟨h.ext, fun c hc => h.each c (hm c hc), fun c hc => h.base c (hm c hc), fun i j c d hi hj hij => h.apart (f i) (f j) c d (hf i c hi) (hf j d hj) (fun e => hij (fi i j e))⟩
section
variable {w0 w : World} {ub rb : Nat} {Fr' : List Nat} {s : ByteArray} {B : Nat} {t : St} {L : List Ob}
def oOrd7 (g : Nat) : Ob := Ob.one g (.cells ord19 3 (0, 0))
theorem down_facts : ∀ (k i : Nat) (own : List Int) (t : St), Small own → Small (down s k i own t).1 ∧ (down s k i own t).1.length = own.length
  | 0, _, own, t, h => ⟨h, rfl⟩
  | k + 1, i, own, t, h => by
    rw [down]
    have := down_facts k (i + 1) (own.set (ordN.getD i 0) ((dget s 3 t).1 : Int)) (dget s 3 t).2 (fun x hx => by
      rcases List.mem_or_eq_of_mem_set hx with hx | rfl
      · exact h x hx
      · have := dget_lt2 (s := s) 3 t
        omega)
    rw [List.length_set] at this
    exact this
theorem dlen_facts {D : List Int} (hD : D.length ≤ 19) (n : Nat) {t : St} (h0 : t.e = 0) (hp : t.p ≤ 8 * s.size) (he : (dlengths s D n t).2.e = 0) : (dlengths s D n t).1.length = n ∧ Small (dlengths s D n t).1 := by
  obtain ⟨p, out, e⟩ := t
  obtain rfl : e = 0 := h0
  have hr := rl_rowF (s := s) D n (8 * s.size - p + 2) [] p out hp (by omega)
  unfold dlengths at he ⊢
  simp only at he ⊢
  cases h1 : rowF s D n (8 * s.size - p + 2) [] p out with
  | er e o =>
    rw [h1] at hr
    obtain ⟨a, b, _⟩ := hr
    rw [b] at he
    exact absurd he a
  | ok l q o =>
    rw [h1] at hr
    obtain ⟨a, _⟩ := hr
    rw [a]
    exact ⟨(rowF_ok _ _ _ _ hp (by omega) (fun x hx => by cases hx) h1).1, row_small hD _ _ _ _ (fun x hx => by cases hx) h1⟩
end
end Go.Proofs.Ytapcfffmgdpmcaa.If

/-! IpI: inflate: the document's Run walked; the law InflateCalls. -/
namespace Go.Proofs.Ytapcfffmgdpmcaa.If
open Go.RowKit Bt Hu

theorem dtabs_none {s : ByteArray} {t : St} (h : (dtabs s t).1 = none) : (dtabs s t).2.e ≠ 0 := by
  have hf : ∀ t : St, (dfail 4 t).e ≠ 0 := fun t => by
    unfold dfail
    split
    · simp
    · assumption
  unfold dtabs dtabA dtabB dtabC at h ⊢
  generalize (down s _ 0 (zers 19) _).1 = own at h ⊢
  generalize (down s _ 0 (zers 19) _).2 = t1 at h ⊢
  unfold dtabO at h ⊢
  by_cases h1 : t1.e ≠ 0
  · rw [if_pos h1]; exact h1
  · rw [if_neg h1] at h ⊢
    by_cases h2 : (stateN own).1 ≠ 0
    · rw [if_pos h2]; exact hf _
    · rw [if_neg h2] at h ⊢
      generalize (dlengths s own _ t1).1 = l at h ⊢
      generalize (dlengths s own _ t1).2 = t2 at h ⊢
      unfold dtabL at h ⊢
      by_cases h3 : t2.e ≠ 0
      · rw [if_pos h3]; exact h3
      · rw [if_neg h3] at h ⊢
        by_cases h4 : badT l ((dget s 5 t).1 + 257) = true
        · rw [if_pos h4]; exact hf _
        · rw [if_neg h4] at h
          cases h
theorem dblock_p {s : ByteArray} {B kind : Nat} {t : St} (hp : t.p ≤ 8 * s.size) (h0 : t.e = 0) (h : (dblock s B kind t).e = 0) : t.p ≤ (dblock s B kind t).p := by
  obtain ⟨p, out, e⟩ := t
  obtain rfl : e = 0 := h0
  have hr := rl_block (s := s) (B := B) kind p out hp
  cases h1 : blockR s B kind p out with
  | er e o =>
    rw [h1] at hr
    obtain ⟨a, b, _⟩ := hr
    rw [b] at h
    exact absurd h a
  | ok u q o =>
    rw [h1] at hr
    rw [hr.2]
    exact (blockR_ok h1).1
end Go.Proofs.Ytapcfffmgdpmcaa.If
