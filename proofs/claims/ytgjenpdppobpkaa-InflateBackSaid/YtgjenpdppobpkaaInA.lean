/-
  inflate: what unpacking answers, plain; no program is in sight here but for the readers' words.
-/
import Derived.Test.YtgjenpdppobpkaaHwG
namespace Go.Proofs.Ytgjenpdppobpkaa.If
open Bt Hu

/-- an answer, with the place read to and the bytes so far; or an error, with the bytes so far -/
inductive Rs (α : Type) where
  | ok (a : α) (p : Nat) (out : List Nat)
  | er (e : Int) (out : List Nat)
namespace Rs
def bind {α β : Type} (r : Rs α) (f : α → Nat → List Nat → Rs β) : Rs β :=
  match r with
  | .ok a p o => f a p o
  | .er e o => .er e o
theorem bind_ok {α β : Type} (a : α) (p : Nat) (o : List Nat) (f : α → Nat → List Nat → Rs β) : (Rs.ok a p o).bind f = f a p o := rfl
theorem bind_er {α β : Type} (e : Int) (o : List Nat) (f : α → Nat → List Nat → Rs β) : (Rs.er e o : Rs α).bind f = .er e o := rfl
end Rs
section
variable (s : ByteArray) (B : Nat)
def getR (n p : Nat) (out : List Nat) : Rs Nat := if p + n ≤ 8 * s.size then .ok (getv s false p n) (p + n) out else .er 8 out
def symR (D : List Int) (p : Nat) (out : List Nat) : Rs Nat :=
  if (readN D (bit s false) (8 * s.size) p).2.1 = 0 then .ok (readN D (bit s false) (8 * s.size) p).1 (readN D (bit s false) (8 * s.size) p).2.2 out else .er (readN D (bit s false) (8 * s.size) p).2.1 out
def putR (b p : Nat) (out : List Nat) : Rs Unit := if B ≤ out.length then .er 3 out else .ok () p (out ++ [b])
def storeL : Nat → Nat → List Nat → Rs Unit
  | 0, p, out => .ok () p out
  | n + 1, p, out => (getR s 8 p out).bind fun b p out => (putR B b p out).bind fun _ p out => storeL n p out
def storedR (p : Nat) (out : List Nat) : Rs Unit :=
  (getR s 16 (p + gap p) out).bind fun n p out => (getR s 16 p out).bind fun m p out => if m = 65535 - n then storeL s B n p out else .er 4 out
def lenX (x : Nat) : Nat := if x = 285 then 0 else if x - 257 < 8 then 0 else (x - 257) / 4 - 1
def lenB (x : Nat) : Nat := if x = 285 then 258 else if x - 257 < 8 then x - 257 + 3 else (4 + (x - 257) % 4) * 2 ^ ((x - 257) / 4 - 1) + 3
def dstX (d : Nat) : Nat := if d < 4 then 0 else d / 2 - 1
def dstB (d : Nat) : Nat := if d < 4 then d + 1 else (2 + d % 2) * 2 ^ (d / 2 - 1) + 1
def copyL (back : Nat) : Nat → Nat → List Nat → Rs Unit
  | 0, p, out => .ok () p out
  | n + 1, p, out => (putR B (out.getD (out.length - back) 0) p out).bind fun _ p out => copyL back n p out
def againR (x : Nat) (D : List Int) (p : Nat) (out : List Nat) : Rs Unit :=
  (getR s (lenX x) p out).bind fun u p out => (symR s D p out).bind fun d p out =>
    if d ≤ 29 then (getR s (dstX d) p out).bind fun v p out => if dstB d + v ≤ out.length then copyL B (dstB d + v) (lenB x + u) p out else .er 4 out else .er 4 out
def codedF (D1 D2 : List Int) : Nat → Nat → List Nat → Rs Unit
  | 0, _, out => .er 0 out
  | g + 1, p, out => (symR s D1 p out).bind fun x p out =>
    if x < 256 then (putR B x p out).bind fun _ p out => codedF D1 D2 g p out
    else if x = 256 then .ok () p out
    else if x ≤ 285 then (againR s B x D2 p out).bind fun _ p out => codedF D1 D2 g p out
    else .er 4 out
def codedR (D1 D2 : List Int) (p : Nat) (out : List Nat) : Rs Unit := codedF s B D1 D2 (8 * s.size - p + 1) p out
def rowF (D : List Int) (n : Nat) : Nat → List Int → Nat → List Nat → Rs (List Int)
  | 0, _, _, out => .er 0 out
  | g + 1, l, p, out =>
    if l.length < n then (symR s D p out).bind fun x p out =>
      if x = 16 then (if l.length = 0 then .er 4 out else (getR s 2 p out).bind fun k p out => rowF D n g (l ++ List.replicate (k + 3) (l.getD (l.length - 1) 0)) p out)
      else if x = 17 then (getR s 3 p out).bind fun k p out => rowF D n g (l ++ List.replicate (k + 3) 0) p out
      else if x = 18 then (getR s 7 p out).bind fun k p out => rowF D n g (l ++ List.replicate (k + 11) 0) p out
      else rowF D n g (l ++ [(x : Int)]) p out
    else if l.length = n then .ok l p out else .er 4 out
def ordN : List Nat := [16, 17, 18, 0, 8, 7, 9, 6, 10, 5, 11, 4, 12, 3, 13, 2, 14, 1, 15]
def ownL : Nat → Nat → List Int → Nat → List Nat → Rs (List Int)
  | 0, _, own, p, out => .ok own p out
  | k + 1, i, own, p, out => (getR s 3 p out).bind fun v p out => ownL k (i + 1) (own.set (ordN.getD i 0) (v : Int)) p out
def fullB (l : List Int) : Bool := decide (stateN l = (0, 0))
def fewB (l : List Int) : Bool := decide (l.sum ≤ 1)
def dynB (l : List Int) (a : Nat) : Bool := fullB (l.take a) && decide (0 < l.getD 256 0) && (fullB (l.drop a) || fewB (l.drop a))
def tabsR (p : Nat) (out : List Nat) : Rs (List Int × List Int) :=
  (getR s 5 p out).bind fun a p out => (getR s 5 p out).bind fun b p out => (getR s 4 p out).bind fun c p out =>
    if a + 257 ≤ 286 ∧ b + 1 ≤ 30 then (ownL s (c + 4) 0 (zers 19) p out).bind fun own p out =>
      if fullB own = true then (rowF s own (a + 257 + (b + 1)) (8 * s.size - p + 2) [] p out).bind fun l p out =>
        if dynB l (a + 257) = true then .ok (l.take (a + 257), l.drop (a + 257)) p out else .er 4 out
      else .er 4 out
    else .er 4 out
def fixL : List Int := List.replicate 144 8 ++ (List.replicate 112 9 ++ (List.replicate 24 7 ++ List.replicate 8 8))
def fixD : List Int := List.replicate 30 5
def blockR (kind p : Nat) (out : List Nat) : Rs Unit :=
  if kind = 0 then storedR s B p out
  else if kind = 1 then codedR s B fixL fixD p out
  else if kind = 2 then (tabsR s p out).bind fun t p out => codedR s B t.1 t.2 p out
  else .er 4 out
def allF : Nat → Nat → List Nat → Rs Unit
  | 0, _, out => .er 0 out
  | g + 1, p, out => (getR s 1 p out).bind fun last p out => (getR s 2 p out).bind fun kind p out => (blockR s B kind p out).bind fun _ p out => if last = 0 then allF g p out else .ok () p out
def runR : Rs Unit := allF s B (8 * s.size + 1) 0 []
end
/-! ### places -/
theorem getR_ok {s : ByteArray} {n p : Nat} {out : List Nat} {a q : Nat} {o : List Nat} (h : getR s n p out = .ok a q o) : a = getv s false p n ∧ q = p + n ∧ o = out ∧ p + n ≤ 8 * s.size := by
  unfold getR at h
  split at h
  · injection h with h1 h2 h3
    exact ⟨h1.symm, h2.symm, h3.symm, ‹_›⟩
  · cases h
theorem rdD_ok (l : List Int) (bt : Nat → Nat) (N : Nat) : ∀ g k code p, k + g = 16 → (rdD l bt N g k code p).2.1 = 0 → p < (rdD l bt N g k code p).2.2 ∧ (rdD l bt N g k code p).2.2 ≤ N ∧ (rdD l bt N g k code p).1 < l.length
  | 0, k, code, p, _, h => by rw [rdD] at h; cases h
  | g + 1, k, code, p, hk, h => by
    rw [rdD] at h ⊢
    by_cases hp : p < N
    · rw [if_pos hp] at h ⊢
      cases hf : fndD l k (2 * code + bt p) with
      | some s =>
        rw [hf] at h
        refine ⟨Nat.lt_succ_self p, hp, ?_⟩
        unfold fndD at hf
        exact List.mem_range.1 (List.mem_of_find?_eq_some hf)
      | none =>
        rw [hf] at h
        have := rdD_ok l bt N g (k + 1) (2 * code + bt p) (p + 1) (by omega) h
        exact ⟨Nat.lt_trans (Nat.lt_succ_self p) this.1, this.2⟩
    · rw [if_neg hp] at h
      cases h
theorem symR_ok {s : ByteArray} {D : List Int} {p : Nat} {out : List Nat} {a q : Nat} {o : List Nat} (h : symR s D p out = .ok a q o) : p < q ∧ q ≤ 8 * s.size ∧ a < D.length ∧ o = out := by
  unfold symR at h
  split at h
  · rename_i h0
    rw [read_doc] at h h0
    injection h with h1 h2 h3
    have := rdD_ok D (bit s false) (8 * s.size) 15 1 0 p (by omega) h0
    rw [h1, h2] at this
    exact ⟨this.1, this.2.1, this.2.2, h3.symm⟩
  · cases h
theorem rdD_er (l : List Int) (bt : Nat → Nat) (N : Nat) : ∀ g k code p, (rdD l bt N g k code p).2.1 = 0 ∨ (rdD l bt N g k code p).2.1 = 4 ∨ (rdD l bt N g k code p).2.1 = 8
  | 0, k, code, p => .inr (.inl rfl)
  | g + 1, k, code, p => by
    rw [rdD]
    split
    · split
      · exact .inl rfl
      · exact rdD_er l bt N g (k + 1) _ (p + 1)
    · exact .inr (.inr rfl)
theorem symR_er {s : ByteArray} {D : List Int} {p : Nat} {out : List Nat} {e : Int} {o : List Nat} (h : symR s D p out = .er e o) : (e = 4 ∨ e = 8) ∧ o = out := by
  unfold symR at h
  split at h
  · cases h
  · rename_i h0
    injection h with h1 h2
    have := rdD_er D (bit s false) (8 * s.size) 15 1 0 p
    rw [← read_doc, h1] at this
    rw [h1] at h0
    exact ⟨this.resolve_left h0, h2.symm⟩
theorem getv8 (s : ByteArray) (p n : Nat) (h : n ≤ 16) : getv s false p n < 65536 :=
  Nat.lt_of_lt_of_le (getv_lt s false p n) (Nat.pow_le_pow_right (n := 2) (by omega) h)
end Go.Proofs.Ytgjenpdppobpkaa.If
