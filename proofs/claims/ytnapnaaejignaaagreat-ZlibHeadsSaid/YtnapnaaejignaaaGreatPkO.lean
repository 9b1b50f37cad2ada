/-
  InA, InB, InC, InD, InE, InF, InG, InH, InI, InJ, InK, InL, InM, InN, in one text.
-/
import Derived.Test.YtnapnaaejignaaaGreatPkN
import Derived.WalkLawsBesides
import Derived.IntWalk
import Derived.Lib.AppendZerosOnto
import Derived.Laws.OwnMore
/-! InA: inflate: what unpacking answers, plain; no program is in sight here but for the readers' words. -/
namespace Go.Proofs.YtnapnaaejignaaaGreat.If
open Bt Hu

/-- an answer, with the place read to and the bytes so far; or an error, with the bytes so far -/
inductive Rs (α : Type) where
  | ok (a : α) (p : Nat) (out : List Nat)
  | er (e : Int) (out : List Nat)
namespace Rs
def bind {α β : Type} (r : Rs α) (f : α → Nat → List Nat → Rs β) : Rs β :=
  match r with
  | .ok a p o => f a p o
  | .er e o => .er e o
theorem bind_ok {α β : Type} (a : α) (p : Nat) (o : List Nat) (f : α → Nat → List Nat → Rs β) : (Rs.ok a p o).bind f = f a p o := rfl
theorem bind_er {α β : Type} (e : Int) (o : List Nat) (f : α → Nat → List Nat → Rs β) : (Rs.er e o : Rs α).bind f = .er e o := rfl
end Rs
section
variable (s : ByteArray) (B : Nat)
def getR (n p : Nat) (out : List Nat) : Rs Nat := if p + n ≤ 8 * s.size then .ok (getv s false p n) (p + n) out else .er 8 out
def symR (D : List Int) (p : Nat) (out : List Nat) : Rs Nat :=
  if (readN D (bit s false) (8 * s.size) p).2.1 = 0 then .ok (readN D (bit s false) (8 * s.size) p).1 (readN D (bit s false) (8 * s.size) p).2.2 out else .er (readN D (bit s false) (8 * s.size) p).2.1 out
def putR (b p : Nat) (out : List Nat) : Rs Unit := if B ≤ out.length then .er 3 out else .ok () p (out ++ [b])
def storeL : Nat → Nat → List Nat → Rs Unit
  | 0, p, out => .ok () p out
  | n + 1, p, out => (getR s 8 p out).bind fun b p out => (putR B b p out).bind fun _ p out => storeL n p out
def storedR (p : Nat) (out : List Nat) : Rs Unit :=
  (getR s 16 (p + gap p) out).bind fun n p out => (getR s 16 p out).bind fun m p out => if m = 65535 - n then storeL s B n p out else .er 4 out
def lenX (x : Nat) : Nat := if x = 285 then 0 else if x - 257 < 8 then 0 else (x - 257) / 4 - 1
def lenB (x : Nat) : Nat := if x = 285 then 258 else if x - 257 < 8 then x - 257 + 3 else (4 + (x - 257) % 4) * 2 ^ ((x - 257) / 4 - 1) + 3
def dstX (d : Nat) : Nat := if d < 4 then 0 else d / 2 - 1
def dstB (d : Nat) : Nat := if d < 4 then d + 1 else (2 + d % 2) * 2 ^ (d / 2 - 1) + 1
def copyL (back : Nat) : Nat → Nat → List Nat → Rs Unit
  | 0, p, out => .ok () p out
  | n + 1, p, out => (putR B (out.getD (out.length - back) 0) p out).bind fun _ p out => copyL back n p out
def againR (x : Nat) (D : List Int) (p : Nat) (out : List Nat) : Rs Unit :=
  (getR s (lenX x) p out).bind fun u p out => (symR s D p out).bind fun d p out =>
    if d ≤ 29 then (getR s (dstX d) p out).bind fun v p out => if dstB d + v ≤ out.length then copyL B (dstB d + v) (lenB x + u) p out else .er 4 out else .er 4 out
def codedF (D1 D2 : List Int) : Nat → Nat → List Nat → Rs Unit
  | 0, _, out => .er 0 out
  | g + 1, p, out => (symR s D1 p out).bind fun x p out =>
    if x < 256 then (putR B x p out).bind fun _ p out => codedF D1 D2 g p out
    else if x = 256 then .ok () p out
    else if x ≤ 285 then (againR s B x D2 p out).bind fun _ p out => codedF D1 D2 g p out
    else .er 4 out
def codedR (D1 D2 : List Int) (p : Nat) (out : List Nat) : Rs Unit := codedF s B D1 D2 (8 * s.size - p + 1) p out
def rowF (D : List Int) (n : Nat) : Nat → List Int → Nat → List Nat → Rs (List Int)
  | 0, _, _, out => .er 0 out
  | g + 1, l, p, out =>
    if l.length < n then (symR s D p out).bind fun x p out =>
      if x = 16 then (if l.length = 0 then .er 4 out else (getR s 2 p out).bind fun k p out => rowF D n g (l ++ List.replicate (k + 3) (l.getD (l.length - 1) 0)) p out)
      else if x = 17 then (getR s 3 p out).bind fun k p out => rowF D n g (l ++ List.replicate (k + 3) 0) p out
      else if x = 18 then (getR s 7 p out).bind fun k p out => rowF D n g (l ++ List.replicate (k + 11) 0) p out
      else rowF D n g (l ++ [(x : Int)]) p out
    else if l.length = n then .ok l p out else .er 4 out
def ordN : List Nat := [16, 17, 18, 0, 8, 7, 9, 6, 10, 5, 11, 4, 12, 3, 13, 2, 14, 1, 15]
def ownL : Nat → Nat → List Int → Nat → List Nat → Rs (List Int)
  | 0, _, own, p, out => .ok own p out
  | k + 1, i, own, p, out => (getR s 3 p out).bind fun v p out => ownL k (i + 1) (own.set (ordN.getD i 0) (v : Int)) p out
def fullB (l : List Int) : Bool := decide (stateN l = (0, 0))
def fewB (l : List Int) : Bool := decide (l.sum ≤ 1)
def dynB (l : List Int) (a : Nat) : Bool := fullB (l.take a) && decide (0 < l.getD 256 0) && (fullB (l.drop a) || fewB (l.drop a))
def tabsR (p : Nat) (out : List Nat) : Rs (List Int × List Int) :=
  (getR s 5 p out).bind fun a p out => (getR s 5 p out).bind fun b p out => (getR s 4 p out).bind fun c p out =>
    if a + 257 ≤ 286 ∧ b + 1 ≤ 30 then (ownL s (c + 4) 0 (zers 19) p out).bind fun own p out =>
      if fullB own = true then (rowF s own (a + 257 + (b + 1)) (8 * s.size - p + 2) [] p out).bind fun l p out =>
        if dynB l (a + 257) = true then .ok (l.take (a + 257), l.drop (a + 257)) p out else .er 4 out
      else .er 4 out
    else .er 4 out
def fixL : List Int := List.replicate 144 8 ++ (List.replicate 112 9 ++ (List.replicate 24 7 ++ List.replicate 8 8))
def fixD : List Int := List.replicate 30 5
def blockR (kind p : Nat) (out : List Nat) : Rs Unit :=
  if kind = 0 then storedR s B p out
  else if kind = 1 then codedR s B fixL fixD p out
  else if kind = 2 then (tabsR s p out).bind fun t p out => codedR s B t.1 t.2 p out
  else .er 4 out
def allF : Nat → Nat → List Nat → Rs Unit
  | 0, _, out => .er 0 out
  | g + 1, p, out => (getR s 1 p out).bind fun last p out => (getR s 2 p out).bind fun kind p out => (blockR s B kind p out).bind fun _ p out => if last = 0 then allF g p out else .ok () p out
def runR : Rs Unit := allF s B (8 * s.size + 1) 0 []
end
/-! ### places -/
theorem getR_ok {s : ByteArray} {n p : Nat} {out : List Nat} {a q : Nat} {o : List Nat} (h : getR s n p out = .ok a q o) : a = getv s false p n ∧ q = p + n ∧ o = out ∧ p + n ≤ 8 * s.size := by
  unfold getR at h
  split at h
  · injection h with h1 h2 h3
    exact ⟨h1.symm, h2.symm, h3.symm, ‹_›⟩
  · cases h
theorem rdD_ok (l : List Int) (bt : Nat → Nat) (N : Nat) : ∀ g k code p, k + g = 16 → (rdD l bt N g k code p).2.1 = 0 → p < (rdD l bt N g k code p).2.2 ∧ (rdD l bt N g k code p).2.2 ≤ N ∧ (rdD l bt N g k code p).1 < l.length
  | 0, k, code, p, _, h => by rw [rdD] at h; cases h
  | g + 1, k, code, p, hk, h => by
    rw [rdD] at h ⊢
    by_cases hp : p < N
    · rw [if_pos hp] at h ⊢
      cases hf : fndD l k (2 * code + bt p) with
      | some s =>
        rw [hf] at h
        refine ⟨Nat.lt_succ_self p, hp, ?_⟩
        unfold fndD at hf
        exact List.mem_range.1 (List.mem_of_find?_eq_some hf)
      | none =>
        rw [hf] at h
        have := rdD_ok l bt N g (k + 1) (2 * code + bt p) (p + 1) (by omega) h
        exact ⟨Nat.lt_trans (Nat.lt_succ_self p) this.1, this.2⟩
    · rw [if_neg hp] at h
      cases h
theorem symR_ok {s : ByteArray} {D : List Int} {p : Nat} {out : List Nat} {a q : Nat} {o : List Nat} (h : symR s D p out = .ok a q o) : p < q ∧ q ≤ 8 * s.size ∧ a < D.length ∧ o = out := by
  unfold symR at h
  split at h
  · rename_i h0
    rw [read_doc] at h h0
    injection h with h1 h2 h3
    have := rdD_ok D (bit s false) (8 * s.size) 15 1 0 p (by omega) h0
    rw [h1, h2] at this
    exact ⟨this.1, this.2.1, this.2.2, h3.symm⟩
  · cases h
theorem rdD_er (l : List Int) (bt : Nat → Nat) (N : Nat) : ∀ g k code p, (rdD l bt N g k code p).2.1 = 0 ∨ (rdD l bt N g k code p).2.1 = 4 ∨ (rdD l bt N g k code p).2.1 = 8
  | 0, k, code, p => .inr (.inl rfl)
  | g + 1, k, code, p => by
    rw [rdD]
    split
    · split
      · exact .inl rfl
      · exact rdD_er l bt N g (k + 1) _ (p + 1)
    · exact .inr (.inr rfl)
theorem symR_er {s : ByteArray} {D : List Int} {p : Nat} {out : List Nat} {e : Int} {o : List Nat} (h : symR s D p out = .er e o) : (e = 4 ∨ e = 8) ∧ o = out := by
  unfold symR at h
  split at h
  · cases h
  · rename_i h0
    injection h with h1 h2
    have := rdD_er D (bit s false) (8 * s.size) 15 1 0 p
    rw [← read_doc, h1] at this
    rw [h1] at h0
    exact ⟨this.resolve_left h0, h2.symm⟩
theorem getv8 (s : ByteArray) (p n : Nat) (h : n ≤ 16) : getv s false p n < 65536 :=
  Nat.lt_of_lt_of_le (getv_lt s false p n) (Nat.pow_le_pow_right (n := 2) (by omega) h)
end Go.Proofs.YtnapnaaejignaaaGreat.If

/-! InB: inflate: the run in memory; check, must, get, put, symbol walked. -/
namespace Go.Proofs.YtnapnaaejignaaaGreat.If
open Go.RowKit Bt Hu

/-- what an error panics with -/
def giveV (e : Int) : PanicEntry := { v := .iface 53 (.agg #[.int .i64 e]), recovered := false }
def runC (rb : Nat) (v : Value) (B : Nat) : Obj := .cells #[.pointer (some ⟨rb, 0, none⟩), v, .int .i64 B] 51
/-- block ub is a run over the text s, whose reader is block rb, read to p, with the bytes out, of the budget B; it owns the blocks F -/
structure RunO (w : World) (ub rb : Nat) (F : List Nat) (s : ByteArray) (B p : Nat) (out : List Nat) : Prop where
  ex : ∃ v, w.heap[ub]? = some (runC rb v B) ∧ w.ownsRow 0 5 1 v out.length (out.map b8) ∧ F = ub :: rb :: v.ownBlock.toList ∧ v.ownBlock ≠ some ub ∧ v.ownBlock ≠ some rb
  rd : w.heap[rb]? = some (rdr s p false)
  ne : ub ≠ rb
theorem RunO.ext {w w' : World} {ub rb : Nat} {F : List Nat} {s : ByteArray} {B p : Nat} {out : List Nat} {S : List Nat} (h : RunO w ub rb F s B p out) (hx : Ext S w w') (hS : ∀ k ∈ F, k ∉ S) : RunO w' ub rb F s B p out := by
  obtain ⟨⟨v, h1, h2, rfl, h4, h5⟩, hr, hn⟩ := h
  exact ⟨⟨v, hx.keep h1 (hS ub (by simp)), ownsRow_ext h2 hx (fun g hg => hS g (by simp [hg])), rfl, h4, h5⟩, hx.keep hr (hS rb (by simp)), hn⟩
/-- the reader alone was moved -/
theorem RunO.read {w w' : World} {ub rb : Nat} {F : List Nat} {s : ByteArray} {B p q : Nat} {out : List Nat} (h : RunO w ub rb F s B p out) (hx : Ext [rb] w w') (hr : w'.heap[rb]? = some (rdr s q false)) : RunO w' ub rb F s B q out := by
  obtain ⟨⟨v, h1, h2, rfl, h4, h5⟩, _, hn⟩ := h
  refine ⟨⟨v, hx.keep h1 (by simpa using hn), ownsRow_ext h2 hx (fun g hg => ?_), rfl, h4, h5⟩, hr, hn⟩
  intro hm
  rw [List.mem_singleton] at hm
  subst hm
  exact h5 hg
def oRun (ub rb : Nat) (F : List Nat) (s : ByteArray) (B p : Nat) (out : List Nat) : Ob where
  F := F
  P := fun w => RunO w ub rb F s B p out
  ok := fun h hx hS => h.ext hx hS
  lt := fun h => by
    obtain ⟨⟨v, h1, h2, rfl, _, _⟩, hr, _⟩ := h
    intro k hk
    rcases List.mem_cons.1 hk with rfl | hk
    · exact lt_of_block h1
    · rcases List.mem_cons.1 hk with rfl | hk
      · exact lt_of_block hr
      · exact (h2.lt k (by simpa using hk)).2
/-- what a call on the run leaves: an answer, or a panic -/
def Pst {α : Type} (w0 : World) (L : List Ob) (j ub rb : Nat) (s : ByteArray) (B : Nat) (enc : α → Value) (R : Rs α) (e : Ending) (w' : World) : Prop :=
  match R with
  | .ok a p out => e = .returned (enc a) ∧ ∃ F, Sep w0 w' (L.set j (oRun ub rb F s B p out))
  | .er er out => e = .panicked [giveV er] ∧ ∃ F p, Sep w0 w' (L.set j (oRun ub rb F s B p out))
theorem Pst.ok {α : Type} {w0 w' : World} {L : List Ob} {j ub rb : Nat} {s : ByteArray} {B : Nat} {enc : α → Value} {R : Rs α} {a : α} {p : Nat} {out : List Nat} {e : Ending} (hR : R = .ok a p out) (he : e = .returned (enc a)) (F : List Nat) (S : Sep w0 w' (L.set j (oRun ub rb F s B p out))) : Pst w0 L j ub rb s B enc R e w' := by
  subst hR; exact ⟨he, F, S⟩
theorem Pst.er {α : Type} {w0 w' : World} {L : List Ob} {j ub rb : Nat} {s : ByteArray} {B : Nat} {enc : α → Value} {R : Rs α} {er : Int} {p : Nat} {out : List Nat} {e : Ending} (hR : R = .er er out) (he : e = .panicked [giveV er]) (F : List Nat) (S : Sep w0 w' (L.set j (oRun ub rb F s B p out))) : Pst w0 L j ub rb s B enc R e w' := by
  subst hR; exact ⟨he, F, p, S⟩
def unit9 : Unit → Value := fun _ => .tuple #[]
theorem check_ok (w : World) : Calls Tryz.prog 67 #[.int .i64 0] w fun e w' => e = .returned (.tuple #[]) ∧ w = w' := by
  go_enter Tryz.func67, Tryz.ntmps67
  go_wp2_with fail
  go_end0
  exact ⟨rfl, rfl⟩
theorem check_er (er : Int) (h : (er != 0) = true) (w : World) : Calls Tryz.prog 67 #[.int .i64 er] w fun e w' => e = .panicked [giveV er] ∧ w = w' := by
  go_enter Tryz.func67, Tryz.ntmps67
  go_wp2_with fail
  exact ⟨rfl, rfl, rfl⟩
theorem must_ok (w : World) : Calls Tryz.prog 72 #[.bool true] w fun e w' => e = .returned (.tuple #[]) ∧ w = w' := by
  go_enter Tryz.func72, Tryz.ntmps72
  go_wp2_with fail
  go_end0
  exact ⟨rfl, rfl⟩
theorem must_er (w : World) : Calls Tryz.prog 72 #[.bool false] w fun e w' => e = .panicked [giveV 4] ∧ w = w' := by
  go_enter Tryz.func72, Tryz.ntmps72
  go_wp2_with fail
  refine (check_er 4 rfl w).mono ?_
  rintro e w' ⟨rfl, rfl⟩
  go_wp2_with fail
  exact ⟨rfl, rfl, rfl⟩
end Go.Proofs.YtnapnaaejignaaaGreat.If

/-! InC: inflate: get, put, symbol walked. -/
namespace Go.Proofs.YtnapnaaejignaaaGreat.If
open Go.RowKit Bt Hu

def izN : Nat → Value := fun a => .int .i64 (a : Int)
theorem RunO.cells {w : World} {ub rb : Nat} {F : List Nat} {s : ByteArray} {B p : Nat} {out : List Nat} (h : RunO w ub rb F s B p out) :
    ∃ ao cap, w.cell? ⟨ub, 0, none⟩ = some (.pointer (some ⟨rb, 0, none⟩)) ∧ w.cell? ⟨ub, 1, none⟩ = some (.slice ao out.length cap) ∧ w.cell? ⟨ub, 2, none⟩ = some (.int .i64 B) ∧ w.frozen? ⟨ub, 1, none⟩ = false ∧ w.ownsRow 0 5 1 (.slice ao out.length cap) out.length (out.map b8) := by
  obtain ⟨⟨v, h1, h2, _⟩, _⟩ := h
  obtain ⟨ao, cap, rfl⟩ := own_slice h2
  exact ⟨ao, cap, cellOf h1 0, cellOf h1 1, cellOf h1 2, freeOf h1 1, h2⟩
/-- an object taken apart in two -/
theorem Sep.cut {w0 w : World} {L : List Ob} {j : Nat} {o : Ob} (h : Sep w0 w L) (hj : L[j]? = some o) (a b : Ob) (ha : ∀ k ∈ a.F, k ∈ o.F) (hb : ∀ k ∈ b.F, k ∈ o.F) (hab : ∀ k ∈ a.F, k ∉ b.F) (pa : a.P w) (pb : b.P w) : Sep w0 w (a :: L.set j b) := by
  have hjl : j < L.length := (List.getElem?_eq_some_iff.1 hj).1
  have hget : ∀ i c, (L.set j b)[i]? = some c → (i = j ∧ c = b) ∨ (i ≠ j ∧ L[i]? = some c) := fun i c hi => by
    by_cases hij : i = j
    · subst hij; rw [List.getElem?_set_self hjl] at hi; exact .inl ⟨rfl, (Option.some.inj hi).symm⟩
    · rw [List.getElem?_set_ne (Ne.symm hij)] at hi; exact .inr ⟨hij, hi⟩
  have hbase : ∀ k ∈ o.F, w0.heap.size ≤ k := h.base o (List.mem_of_getElem? hj)
  have far : ∀ i c, i ≠ j → L[i]? = some c → ∀ k ∈ o.F, k ∉ c.F := fun i c hij hi => h.apart j i o c hj hi (Ne.symm hij)
  have one : ∀ (i : Nat) (c : Ob), (L.set j b)[i]? = some c → ∀ k ∈ a.F, k ∉ c.F := fun i c hi k hk => by
    rcases hget i c hi with ⟨_, rfl⟩ | ⟨hij, hc⟩
    · exact hab k hk
    · exact far i c hij hc k (ha k hk)
  refine ⟨h.ext, fun c hc => ?_, fun c hc k hk => ?_, fun x y c d hx hy hxy k hk hkd => ?_⟩
  · rcases List.mem_cons.1 hc with rfl | hc
    · exact pa
    · obtain ⟨i, hi⟩ := List.getElem?_of_mem hc
      rcases hget i c hi with ⟨_, rfl⟩ | ⟨_, hc⟩
      · exact pb
      · exact h.each c (List.mem_of_getElem? hc)
  · rcases List.mem_cons.1 hc with rfl | hc
    · exact hbase k (ha k hk)
    · obtain ⟨i, hi⟩ := List.getElem?_of_mem hc
      rcases hget i c hi with ⟨_, rfl⟩ | ⟨_, hc⟩
      · exact hbase k (hb k hk)
      · exact h.base c (List.mem_of_getElem? hc) k hk
  · cases x with
    | zero =>
      obtain rfl : a = c := by simpa using hx
      cases y with
      | zero => exact hxy rfl
      | succ y => exact one y d (by simpa using hy) k hk hkd
    | succ x =>
      cases y with
      | zero =>
        obtain rfl : a = d := by simpa using hy
        exact one x c (by simpa using hx) k hkd hk
      | succ y =>
        have hx' : (L.set j b)[x]? = some c := by simpa using hx
        have hy' : (L.set j b)[y]? = some d := by simpa using hy
        rcases hget x c hx' with ⟨rfl, rfl⟩ | ⟨hxj, hc⟩
        · rcases hget y d hy' with ⟨rfl, _⟩ | ⟨hyj, hd⟩
          · exact hxy rfl
          · exact far y d hyj hd k (hb k hk) hkd
        · rcases hget y d hy' with ⟨rfl, rfl⟩ | ⟨hyj, hd⟩
          · exact far x c hxj hc k (hb k hkd) hk
          · exact h.apart x y c d hc hd (by omega) k hk hkd
/-- two objects taken as one -/
theorem Sep.glue {w0 w : World} {L : List Ob} {j : Nat} {a b : Ob} (h : Sep w0 w (a :: L)) (hj : L[j]? = some b) (o : Ob) (ho : ∀ k ∈ o.F, k ∈ a.F ∨ k ∈ b.F) (po : o.P w) : Sep w0 w (L.set j o) := by
  have hjl : j < L.length := (List.getElem?_eq_some_iff.1 hj).1
  have hget : ∀ i c, (L.set j o)[i]? = some c → (i = j ∧ c = o) ∨ (i ≠ j ∧ L[i]? = some c) := fun i c hi => by
    by_cases hij : i = j
    · subst hij; rw [List.getElem?_set_self hjl] at hi; exact .inl ⟨rfl, (Option.some.inj hi).symm⟩
    · rw [List.getElem?_set_ne (Ne.symm hij)] at hi; exact .inr ⟨hij, hi⟩
  have far : ∀ i c, i ≠ j → L[i]? = some c → ∀ k ∈ o.F, k ∉ c.F := fun i c hij hi k hk => by
    rcases ho k hk with hk | hk
    · exact h.apart 0 (i + 1) a c (by simp) (by simpa using hi) (by omega) k hk
    · exact h.apart (j + 1) (i + 1) b c (by simpa using hj) (by simpa using hi) (by omega) k hk
  refine ⟨h.ext, fun c hc => ?_, fun c hc k hk => ?_, fun x y c d hx hy hxy k hk hkd => ?_⟩
  · obtain ⟨i, hi⟩ := List.getElem?_of_mem hc
    rcases hget i c hi with ⟨_, rfl⟩ | ⟨_, hc⟩
    · exact po
    · exact h.each c (List.mem_cons_of_mem _ (List.mem_of_getElem? hc))
  · obtain ⟨i, hi⟩ := List.getElem?_of_mem hc
    rcases hget i c hi with ⟨_, rfl⟩ | ⟨_, hc⟩
    · rcases ho k hk with hk | hk
      · exact h.base a (by simp) k hk
      · exact h.base b (List.mem_cons_of_mem _ (List.mem_of_getElem? hj)) k hk
    · exact h.base c (List.mem_cons_of_mem _ (List.mem_of_getElem? hc)) k hk
  · rcases hget x c hx with ⟨rfl, rfl⟩ | ⟨hxj, hc⟩
    · rcases hget y d hy with ⟨rfl, _⟩ | ⟨hyj, hd⟩
      · exact hxy rfl
      · exact far y d hyj hd k hk hkd
    · rcases hget y d hy with ⟨rfl, rfl⟩ | ⟨hyj, hd⟩
      · exact far x c hxj hc k hkd hk
      · exact h.apart (x + 1) (y + 1) c d (by simpa using hc) (by simpa using hd) (by omega) k hk hkd
/-- a run without its reader -/
def oRest (ub rb : Nat) (v : Value) (B : Nat) (out : List Nat) : Ob where
  F := ub :: v.ownBlock.toList
  P := fun w => w.heap[ub]? = some (runC rb v B) ∧ w.ownsRow 0 5 1 v out.length (out.map b8)
  ok := fun h hx hS => ⟨hx.keep h.1 (hS ub (by simp)), ownsRow_ext h.2 hx (fun g hg => hS g (by simp [hg]))⟩
  lt := fun h => by
    intro k hk
    rcases List.mem_cons.1 hk with rfl | hk
    · exact lt_of_block h.1
    · exact (h.2.lt k (by simpa using hk)).2
theorem run_cut {w0 w : World} {L : List Ob} {j ub rb : Nat} {F : List Nat} {s : ByteArray} {B p : Nat} {out : List Nat} (S : Sep w0 w L) (hL : L[j]? = some (oRun ub rb F s B p out)) :
    ∃ v, F = ub :: rb :: v.ownBlock.toList ∧ v.ownBlock ≠ some ub ∧ v.ownBlock ≠ some rb ∧ ub ≠ rb ∧ Sep w0 w (oR rb s p false :: L.set j (oRest ub rb v B out)) := by
  obtain ⟨⟨v, h1, h2, rfl, h4, h5⟩, hr, hn⟩ : RunO w ub rb F s B p out := S.get j hL
  refine ⟨v, rfl, h4, h5, hn, Sep.cut S hL _ _ (fun k hk => ?_) (fun k hk => ?_) (fun k hk hm => ?_) hr ⟨h1, h2⟩⟩
  · obtain rfl : k = rb := by simpa [oR, Ob.one] using hk
    simp [oRun]
  · rcases List.mem_cons.1 hk with rfl | hk
    · simp [oRun]
    · simp only [oRun, List.mem_cons]
      exact .inr (.inr hk)
  · obtain rfl : k = rb := by simpa [oR, Ob.one] using hk
    rcases List.mem_cons.1 hm with rfl | hm
    · exact hn rfl
    · exact h5 (by simpa using hm)
theorem run_glue {w0 w : World} {L : List Ob} {j ub rb : Nat} {v : Value} {s : ByteArray} {B p : Nat} {out : List Nat} (hj : j < L.length) (h4 : v.ownBlock ≠ some ub) (h5 : v.ownBlock ≠ some rb) (hn : ub ≠ rb) (S : Sep w0 w (oR rb s p false :: L.set j (oRest ub rb v B out))) :
    Sep w0 w (L.set j (oRun ub rb (ub :: rb :: v.ownBlock.toList) s B p out)) := by
  have hb : (L.set j (oRest ub rb v B out))[j]? = some (oRest ub rb v B out) := List.getElem?_set_self hj
  have h1 : w.heap[ub]? = some (runC rb v B) ∧ w.ownsRow 0 5 1 v out.length (out.map b8) := S.get (j + 1) (by simpa using hb)
  have h2 : w.heap[rb]? = some (rdr s p false) := S.get 0 rfl
  have := Sep.glue S hb (oRun ub rb (ub :: rb :: v.ownBlock.toList) s B p out) (fun k hk => by
    rcases List.mem_cons.1 hk with rfl | hk
    · exact .inr (by simp [oRest])
    · rcases List.mem_cons.1 hk with rfl | hk
      · exact .inl (by simp [oR, Ob.one])
      · exact .inr (List.mem_cons_of_mem _ hk)) ⟨⟨v, h1.1, h1.2, rfl, h4, h5⟩, h2, hn⟩
  rwa [List.set_set] at this
section
variable {w0 w : World} {L : List Ob} {j ub rb : Nat} {F : List Nat} {s : ByteArray} {B p : Nat} {out : List Nat}
set_option maxRecDepth 100000 in
set_option maxHeartbeats 4000000 in
theorem c_get (n : Nat) (S : Sep w0 w L) (hL : L[j]? = some (oRun ub rb F s B p out)) (hs : s.size ≤ 1048576) (hp : p ≤ 8 * s.size) (hn : n ≤ 16) :
    Calls Tryz.prog 43 #[.pointer (some ⟨ub, 0, none⟩), .int .i64 n] w (Pst w0 L j ub rb s B izN (getR s n p out)) := by
  have hO : RunO w ub rb F s B p out := S.get j hL
  obtain ⟨ao, cap, c0, _, _, _, _⟩ := hO.cells
  have HO := Lib.hid hO
  have HS := Lib.hid S
  have HL := Lib.hid hL
  clear hO S hL
  by_cases hm : p + n ≤ 8 * s.size
  · have hR : getR s n p out = .ok (getv s false p n) (p + n) out := by unfold getR; rw [if_pos hm]
    have hv := getv8 s p n hn
    have HR := Lib.hid hR
    clear hR
    go_enter Tryz.func43, Tryz.ntmps43
    go_wp2_with fail
    refine (get_ok rb s p n false w (by omega) (by omega) hm HO.out.rd).mono ?_
    rintro e w1 ⟨rfl, hr, hx⟩
    obtain ⟨v, hvv⟩ : ∃ v, getv s false p n = v := ⟨_, rfl⟩
    rw [hvv] at hv HR ⊢
    have HX := Lib.hid (⟨hr, hx⟩ : _ ∧ _)
    clear hr hx hvv c0
    go_wp2_with fail
    refine (check_ok w1).mono ?_
    rintro e w2 ⟨rfl, rfl⟩
    go_wp2_with fail
    go_ret
    have hFm : rb ∈ F := by obtain ⟨⟨_, _, _, rfl, _⟩, _⟩ := HO.out; simp
    refine Pst.ok HR.out (by unfold izN; rfl) F (HS.out.upd j _ HL.out (HX.out.2.mono (fun k _ hk => by rw [List.mem_singleton] at hk; subst hk; exact hFm)) (Fr.refl _ _) (HO.out.read HX.out.2 HX.out.1))
  · have hR : getR s n p out = .er 8 out := by unfold getR; rw [if_neg hm]
    have HR := Lib.hid hR
    clear hR
    go_enter Tryz.func43, Tryz.ntmps43
    go_wp2_with fail
    refine (get_more rb s p n false w (by omega) (by omega) hp (by omega) HO.out.rd).mono ?_
    rintro e w1 ⟨rfl, hx⟩
    have HX := Lib.hid hx
    clear hx c0
    go_wp2_with fail
    refine (check_er 8 rfl w1).mono ?_
    rintro e w2 ⟨rfl, rfl⟩
    go_wp2_with fail
    refine ⟨rfl, Pst.er HR.out rfl F (p := p) ?_⟩
    rw [set_same HL.out]
    exact HS.out.quiet HX.out
set_option maxRecDepth 100000 in
set_option maxHeartbeats 4000000 in
theorem c_sym (i : Nat) {tb : Nat} {Ft : List Nat} {D : List Int} (hij : i ≠ j) (S : Sep w0 w L) (hT : L[i]? = some (oTab tb Ft D)) (hL : L[j]? = some (oRun ub rb F s B p out)) (hD : D.length ≤ 288) (hs : s.size ≤ 1048576) (hp : p ≤ 8 * s.size) :
    Calls Tryz.prog 105 #[.pointer (some ⟨ub, 0, none⟩), .pointer (some ⟨tb, 0, none⟩)] w (Pst w0 L j ub rb s B izN (symR s D p out)) := by
  have hO : RunO w ub rb F s B p out := S.get j hL
  obtain ⟨ao, cap, c0, _, _, _, _⟩ := hO.cells
  obtain ⟨v, hF, h4, h5, hn, S1⟩ := run_cut S hL
  have hjl : j < L.length := (List.getElem?_eq_some_iff.1 hL).1
  have hT1 : (oR rb s p false :: L.set j (oRest ub rb v B out))[i + 1]? = some (oTab tb Ft D) := by
    rw [List.getElem?_cons_succ, List.getElem?_set_ne (Ne.symm hij)]; exact hT
  have hrd := sTRead (i + 1) 0 (by omega) S1 hT1 rfl hD (by omega) hp
  obtain ⟨R, hR⟩ : ∃ R, readN D (bit s false) (8 * s.size) p = R := ⟨_, rfl⟩
  have hsy : symR s D p out = if R.2.1 = 0 then .ok R.1 R.2.2 out else .er R.2.1 out := by unfold symR; rw [hR]
  rw [hR] at hrd
  obtain ⟨r1, r2, r3⟩ := R
  simp only at hrd hsy
  have HRD := Lib.hid hrd
  have HF := Lib.hid (⟨hF, h4, h5, hn⟩ : _ ∧ _ ∧ _ ∧ _)
  have HSY := Lib.hid hsy
  clear hO S hL hT S1 hT1 hrd hR hsy hF h4 h5 hn
  go_enter Tryz.func105, Tryz.ntmps105
  go_wp2_with fail
  refine HRD.out.mono ?_
  rintro e w1 ⟨rfl, S⟩
  have HS := Lib.hid (run_glue hjl HF.out.2.1 HF.out.2.2.1 HF.out.2.2.2 S)
  clear S HRD c0
  by_cases h0 : r2 = 0
  · subst h0
    go_wp2_with fail
    refine (check_ok w1).mono ?_
    rintro e w2 ⟨rfl, rfl⟩
    go_wp2_with fail
    go_ret
    exact Pst.ok (a := r1) (by rw [HSY.out]; simp) (by unfold izN; rfl) _ HS.out
  · have hb : (r2 != 0) = true := bne_iff_ne.2 h0
    have H0 := Lib.hid h0
    clear h0
    go_wp2_with fail
    refine (check_er r2 hb w1).mono ?_
    rintro e w2 ⟨rfl, rfl⟩
    clear hb
    go_wp2_with fail
    exact ⟨rfl, Pst.er (by rw [HSY.out, if_neg H0.out]) rfl _ HS.out⟩
end
end Go.Proofs.YtnapnaaejignaaaGreat.If

/-! InD: inflate: put, Length, Distance, again, stored, coded walked. -/
namespace Go.Proofs.YtnapnaaejignaaaGreat.If
open Go.RowKit Bt Hu

/-- a byte more -/
theorem RunO.push {w W w1 : World} {ub rb : Nat} {s : ByteArray} {B p b : Nat} {out : List Nat} {v : Value} {O : Obj} {g cap2 : Nat} (h1 : w.heap[ub]? = some (runC rb v B)) (h4 : v.ownBlock ≠ some ub) (h5 : v.ownBlock ≠ some rb) (hr : w.heap[rb]? = some (rdr s p false)) (hn : ub ≠ rb) (hx : Ext [] w W)
    (hown1 : w1.ownsRow 0 5 1 (.slice (some ⟨g, 0, none⟩) (out.length + 1) cap2) (out.length + 1) (out.map b8 ++ [.int .u8 (b : Int)])) (hgrow : (W.alloc O).grownBy w1 v.ownBlock) (hat : v.ownBlock = some g ∨ g = W.heap.size + 1) :
    RunO (w1.setCell ⟨ub, 1, none⟩ (.slice (some ⟨g, 0, none⟩) (out.length + 1) cap2)) ub rb [ub, rb, g] s B p (out ++ [b]) ∧ Ext (ub :: rb :: v.ownBlock.toList) w (w1.setCell ⟨ub, 1, none⟩ (.slice (some ⟨g, 0, none⟩) (out.length + 1) cap2)) ∧ Fr w (ub :: rb :: v.ownBlock.toList) [ub, rb, g] := by
  have hb : W.heap[ub]? = some (runC rb v B) := hx.keep h1 (by simp)
  have hrW : W.heap[rb]? = some (rdr s p false) := hx.keep hr (by simp)
  obtain ⟨q1, q2, q3, q4, q5⟩ := push_field hb h4 hown1 hgrow hat 1
  have hrb : rb ∉ ub :: v.ownBlock.toList := fun hm => by
    rcases List.mem_cons.1 hm with e | hm
    · exact hn e.symm
    · exact h5 (by simpa using hm)
  have hgr : g ≠ rb := fun e => by
    subst e
    rcases hat with h | h
    · exact h5 h
    · have := lt_of_block hrW; omega
  refine ⟨⟨⟨_, q1, ?_, rfl, fun e => q4 (by simpa [Value.ownBlock] using e), fun e => hgr (by simpa [Value.ownBlock] using e)⟩, q3.keep hrW hrb, hn⟩, ?_, fun k hk => ?_⟩
  · rw [List.length_append, List.map_append]
    exact q2
  · exact (hx.weak (S := ub :: rb :: v.ownBlock.toList)).trans (q3.mono (fun k _ hk => by
      rcases List.mem_cons.1 hk with rfl | hk
      · simp
      · simp [hk]))
  · rcases List.mem_cons.1 hk with rfl | hk
    · exact .inl (by simp)
    · rcases List.mem_cons.1 hk with rfl | hk
      · exact .inl (by simp)
      · obtain rfl : k = g := by simpa using hk
        rcases hat with h | h
        · exact .inl (by simp [h])
        · have := hx.size; exact .inr (by omega)
section
variable {w0 w : World} {L : List Ob} {j ub rb : Nat} {F : List Nat} {s : ByteArray} {B p : Nat} {out : List Nat}
set_option maxRecDepth 100000 in
set_option maxHeartbeats 4000000 in
theorem c_put (b : Nat) (S : Sep w0 w L) (hL : L[j]? = some (oRun ub rb F s B p out)) (hB : B ≤ 1099511627776) :
    Calls Tryz.prog 91 #[.pointer (some ⟨ub, 0, none⟩), .int .u8 b] w (Pst w0 L j ub rb s B unit9 (putR B b p out)) := by
  have hO : RunO w ub rb F s B p out := S.get j hL
  obtain ⟨i0, hif, hz0, hz1, hz2⟩ := info_parts infoByte
  obtain ⟨⟨v, h1, h2, hF, h4, h5⟩, hr, hn⟩ := hO
  obtain ⟨ao, cap, rfl⟩ := own_slice h2
  have c1 : ∀ x : Ex w, x.w.cell? ⟨ub, 1, none⟩ = some (.slice ao out.length cap) := fun x => cellOf (x.heap h1) 1
  have c2 : ∀ x : Ex w, x.w.cell? ⟨ub, 2, none⟩ = some (.int .i64 B) := fun x => cellOf (x.heap h1) 2
  have HH := Lib.hid (⟨h1, h2, hF, h4, h5, hr, hn⟩ : _ ∧ _ ∧ _ ∧ _ ∧ _ ∧ _ ∧ _)
  have HS := Lib.hid S
  have HL := Lib.hid hL
  clear h1 h2 hF h4 h5 hr hn S hL
  by_cases hfull : B ≤ out.length
  · have hR : putR B b p out = .er 3 out := by unfold putR; rw [if_pos hfull]
    have HR := Lib.hid hR
    have hf' : (B : Int) ≤ (out.length : Int) := by omega
    clear hR
    go_enter Tryz.func91, Tryz.ntmps91
    go_wp2_with fail
    refine wp_region_ext (by kernel_rfl) (by kernel_rfl) ?_
    repeat (go_big_quiet_step (fail))
    refine wpQuiet_nil ?_
    clear c1 c2
    rintro _ ⟨x, rfl⟩
    go_wp2_with fail
    refine (check_er 3 rfl x.w).mono ?_
    rintro e w2 ⟨rfl, rfl⟩
    go_wp2_with fail
    refine ⟨rfl, Pst.er HR.out rfl F (p := p) ?_⟩
    rw [set_same HL.out]
    exact HS.out.quiet x.ext
  · have hR : putR B b p out = .ok () p (out ++ [b]) := by unfold putR; rw [if_neg hfull]
    have HR := Lib.hid hR
    have hf' : ¬ (B : Int) ≤ (out.length : Int) := by omega
    clear hR
    go_enter Tryz.func91, Tryz.ntmps91
    go_wp2_with fail
    refine wp_region_ext (by kernel_rfl) (by kernel_rfl) ?_
    repeat (go_big_quiet_step (fail))
    refine wpQuiet_nil ?_
    rintro _ ⟨x, rfl⟩
    have d1 := c1 x
    clear c1 c2
    have hrow : x.w.ownsRow 0 5 1 (.slice ao out.length cap) out.length (out.map b8) := row_keep x.ext HH.out.2.1
    have hb : x.w.heap[ub]? = some (runC rb (.slice ao out.length cap) B) := x.ext.keep HH.out.1 (by simp)
    have HB := Lib.hid hb
    have HNE := Lib.hid HH.out.2.2.2.1
    clear hb
    obtain ⟨W, hW⟩ : ∃ W, x.w = W := ⟨_, rfl⟩
    have hxW : Ext [] w W := by rw [← hW]; exact x.ext
    rw [hW] at hrow d1 HB ⊢
    have HXW := Lib.hid hxW
    clear hW hxW x
    go_wp2_with (first | (at_builtin; refine wpList_append_lies _ rfl _ _ 28 rfl 0 5 i0 _ 1 1 Tryz.underlying28 hif hz0 hz1 hz2 rfl (by decide) (.slice ao out.length cap) out.length _ rfl (hrow.alloc _) ⟨W.heap.size, 0, none⟩ 1 1 [.int .u8 (b : Int)] rfl rfl (cell_one_new _ _ _) (by simp [Value.oneCell']) (by decide) (by unfold maxLen; omega) (by omega) (by omega) (W.heap.size + 1) (by simp) ?_; intro g cap2 w1 hown1 hgrow hat hlt; have k1 := grown_keep hgrow (heap_alloc_old _ HB.out) HNE.out; have k2 := freeOf k1 1; have k3 := cellOf k1 1))
    obtain ⟨h1, h2, hF, h4, h5, hr, hn⟩ := HH.out
    obtain ⟨q1, q2, q3⟩ := RunO.push (out := out) (b := b) h1 h4 h5 hr hn HXW.out hown1 hgrow hat
    go_end0
    rw [← hF] at q2 q3
    exact Pst.ok HR.out rfl _ (HS.out.upd j (oRun ub rb [ub, rb, g] s B p (out ++ [b])) HL.out q2 q3 q1)
end
end Go.Proofs.YtnapnaaejignaaaGreat.If

/-! InE: inflate: step, Length, Distance walked. -/
namespace Go.Proofs.YtnapnaaejignaaaGreat.If
open Go.RowKit Bt Hu

def stX (n few : Nat) : Nat := if n < 2 * few then 0 else n / few - 1
def stB (n few : Nat) : Nat := if n < 2 * few then n else (few + n % few) * 2 ^ (n / few - 1)
theorem step4_table : ∀ n, n < 28 → stX n 4 ≤ 6 ∧ stB n 4 ≤ 255 := by decide +kernel
theorem step2_table : ∀ n, n < 30 → stX n 2 ≤ 13 ∧ stB n 2 ≤ 24576 := by decide +kernel
set_option maxRecDepth 100000 in
set_option maxHeartbeats 4000000 in
theorem step4_walk (n : Nat) (hn : n < 28) (w : World) : Calls Tryz.prog 75 #[.int .i64 n, .int .i64 4] w fun e w' => e = .returned (.tuple #[.int .i64 (stB n 4), .int .i64 (stX n 4)]) ∧ w = w' := by
  by_cases h : n < 8
  · have e1 : stB n 4 = n := by unfold stB; rw [if_pos (by omega)]
    have e2 : stX n 4 = 0 := by unfold stX; rw [if_pos (by omega)]
    rw [e1, e2]
    have h' : (n : Int) < 8 := by omega
    clear e1 e2
    go_enter Tryz.func75, Tryz.ntmps75
    go_wp2_with fail
    exact bodyPost_ret (results_tmp2 rfl _ _ _) rfl ⟨rfl, rfl⟩
  · obtain ⟨x, hx⟩ : ∃ x, n / 4 - 1 = x := ⟨_, rfl⟩
    obtain ⟨r, hr⟩ : ∃ r, n % 4 = r := ⟨_, rfl⟩
    have e1 : stB n 4 = (4 + r) * 2 ^ x := by unfold stB; rw [if_neg (by omega), hr, hx]
    have e2 : stX n 4 = x := by unfold stX; rw [if_neg (by omega), hx]
    have ht := step4_table n hn
    rw [e1, e2] at ht ⊢
    obtain ⟨P, hP⟩ : ∃ P, (4 + r) * 2 ^ x = P := ⟨_, rfl⟩
    rw [hP] at ht ⊢
    have hPi : ((4 : Int) + (r : Int)) * 2 ^ x = (P : Int) := by rw [← hP]; push_cast; rfl
    have hq : (n : Int) / 4 = (x : Int) + 1 := by omega
    have hr2 : (n : Int) % 4 = (r : Int) := by omega
    have h' : ¬ (n : Int) < 8 := by omega
    have hx6 : x ≤ 6 := ht.1
    have hP2 : P ≤ 255 := ht.2
    have hr3 : r ≤ 3 := by omega
    clear e1 e2 ht hP hx hr h
    go_enter Tryz.func75, Tryz.ntmps75
    go_wp2_with fail
    exact bodyPost_ret (results_tmp2 rfl _ _ _) rfl ⟨rfl, rfl⟩
set_option maxRecDepth 100000 in
set_option maxHeartbeats 4000000 in
theorem step2_walk (n : Nat) (hn : n < 30) (w : World) : Calls Tryz.prog 75 #[.int .i64 n, .int .i64 2] w fun e w' => e = .returned (.tuple #[.int .i64 (stB n 2), .int .i64 (stX n 2)]) ∧ w = w' := by
  by_cases h : n < 4
  · have e1 : stB n 2 = n := by unfold stB; rw [if_pos (by omega)]
    have e2 : stX n 2 = 0 := by unfold stX; rw [if_pos (by omega)]
    rw [e1, e2]
    have h' : (n : Int) < 4 := by omega
    clear e1 e2
    go_enter Tryz.func75, Tryz.ntmps75
    go_wp2_with fail
    exact bodyPost_ret (results_tmp2 rfl _ _ _) rfl ⟨rfl, rfl⟩
  · obtain ⟨x, hx⟩ : ∃ x, n / 2 - 1 = x := ⟨_, rfl⟩
    obtain ⟨r, hr⟩ : ∃ r, n % 2 = r := ⟨_, rfl⟩
    have e1 : stB n 2 = (2 + r) * 2 ^ x := by unfold stB; rw [if_neg (by omega), hr, hx]
    have e2 : stX n 2 = x := by unfold stX; rw [if_neg (by omega), hx]
    have ht := step2_table n hn
    rw [e1, e2] at ht ⊢
    obtain ⟨P, hP⟩ : ∃ P, (2 + r) * 2 ^ x = P := ⟨_, rfl⟩
    rw [hP] at ht ⊢
    have hPi : ((2 : Int) + (r : Int)) * 2 ^ x = (P : Int) := by rw [← hP]; push_cast; rfl
    have hq : (n : Int) / 2 = (x : Int) + 1 := by omega
    have hr2 : (n : Int) % 2 = (r : Int) := by omega
    have h' : ¬ (n : Int) < 4 := by omega
    have hx6 : x ≤ 13 := ht.1
    have hP2 : P ≤ 24576 := ht.2
    have hr3 : r ≤ 1 := by omega
    clear e1 e2 ht hP hx hr h
    go_enter Tryz.func75, Tryz.ntmps75
    go_wp2_with fail
    exact bodyPost_ret (results_tmp2 rfl _ _ _) rfl ⟨rfl, rfl⟩
/-- a symbol's least length, of any number -/
def lenBZ (x : Int) : Nat := if x < 257 ∨ 285 < x then 0 else lenB x.toNat
def lenXZ (x : Int) : Nat := if x < 257 ∨ 285 < x then 0 else lenX x.toNat
def dstBZ (x : Int) : Nat := if x < 0 ∨ 29 < x then 0 else dstB x.toNat
def dstXZ (x : Int) : Nat := if x < 0 ∨ 29 < x then 0 else dstX x.toNat
set_option maxRecDepth 100000 in
set_option maxHeartbeats 4000000 in
theorem length_walk (x : Int) (w : World) : Calls Tryz.prog 49 #[.int .i64 x] w fun e w' => e = .returned (.tuple #[.int .i64 (lenBZ x), .int .i64 (lenXZ x)]) ∧ w = w' := by
  by_cases h1 : x < 257
  · have e1 : lenBZ x = 0 := by unfold lenBZ; rw [if_pos (.inl h1)]
    have e2 : lenXZ x = 0 := by unfold lenXZ; rw [if_pos (.inl h1)]
    rw [e1, e2]
    clear e1 e2
    go_enter Tryz.func49, Tryz.ntmps49
    go_wp2_with fail
    exact bodyPost_ret (results_tmp2 rfl _ _ _) rfl ⟨rfl, rfl⟩
  by_cases h2 : 285 < x
  · have e1 : lenBZ x = 0 := by unfold lenBZ; rw [if_pos (.inr h2)]
    have e2 : lenXZ x = 0 := by unfold lenXZ; rw [if_pos (.inr h2)]
    rw [e1, e2]
    clear e1 e2
    go_enter Tryz.func49, Tryz.ntmps49
    go_wp2_with fail
    exact bodyPost_ret (results_tmp2 rfl _ _ _) rfl ⟨rfl, rfl⟩
  by_cases h3 : x = 285
  · subst h3
    go_enter Tryz.func49, Tryz.ntmps49
    go_wp2_with fail
    exact bodyPost_ret (results_tmp2 rfl _ _ _) rfl ⟨rfl, rfl⟩
  obtain ⟨n, rfl⟩ : ∃ n : Nat, x = (n : Int) + 257 := ⟨(x - 257).toNat, by omega⟩
  have e1 : lenBZ ((n : Int) + 257) = stB n 4 + 3 := by
    unfold lenBZ lenB stB
    rw [if_neg (by omega), show ((n : Int) + 257).toNat = n + 257 by omega, if_neg (by omega), Nat.add_sub_cancel]
    by_cases h : n < 8
    · rw [if_pos h, if_pos (by omega)]
    · rw [if_neg h, if_neg (by omega)]
  have e2 : lenXZ ((n : Int) + 257) = stX n 4 := by
    unfold lenXZ lenX stX
    rw [if_neg (by omega), show ((n : Int) + 257).toNat = n + 257 by omega, if_neg (by omega), Nat.add_sub_cancel]
  have ht := step4_table n (by omega)
  rw [e1, e2]
  have HST := Lib.hid (step4_walk n (by omega) w)
  generalize stB n 4 = P at *
  generalize stX n 4 = X at *
  have hX := ht.1
  have hP := ht.2
  have hn28 : n ≤ 27 := by omega
  have h3' : ((n : Int) + 257 == 285) = false := beq_eq_false_iff_ne.2 h3
  clear e1 e2 ht h3
  go_enter Tryz.func49, Tryz.ntmps49
  go_wp2_with fail
  refine HST.out.mono ?_
  clear HST
  rintro e w1 ⟨rfl, rfl⟩
  go_wp2_with fail
  exact bodyPost_ret (results_tmp2 rfl _ _ _) rfl ⟨rfl, rfl⟩
set_option maxRecDepth 100000 in
set_option maxHeartbeats 4000000 in
theorem distance_walk (x : Int) (w : World) : Calls Tryz.prog 51 #[.int .i64 x] w fun e w' => e = .returned (.tuple #[.int .i64 (dstBZ x), .int .i64 (dstXZ x)]) ∧ w = w' := by
  by_cases h1 : x < 0
  · have e1 : dstBZ x = 0 := by unfold dstBZ; rw [if_pos (.inl h1)]
    have e2 : dstXZ x = 0 := by unfold dstXZ; rw [if_pos (.inl h1)]
    rw [e1, e2]
    clear e1 e2
    go_enter Tryz.func51, Tryz.ntmps51
    go_wp2_with fail
    exact bodyPost_ret (results_tmp2 rfl _ _ _) rfl ⟨rfl, rfl⟩
  by_cases h2 : 29 < x
  · have e1 : dstBZ x = 0 := by unfold dstBZ; rw [if_pos (.inr h2)]
    have e2 : dstXZ x = 0 := by unfold dstXZ; rw [if_pos (.inr h2)]
    rw [e1, e2]
    clear e1 e2
    go_enter Tryz.func51, Tryz.ntmps51
    go_wp2_with fail
    exact bodyPost_ret (results_tmp2 rfl _ _ _) rfl ⟨rfl, rfl⟩
  obtain ⟨n, rfl⟩ : ∃ n : Nat, x = (n : Int) := ⟨x.toNat, by omega⟩
  have e1 : dstBZ (n : Int) = stB n 2 + 1 := by
    unfold dstBZ dstB stB
    rw [if_neg (by omega), Int.toNat_natCast]
    by_cases h : n < 4
    · rw [if_pos h, if_pos (by omega)]
    · rw [if_neg h, if_neg (by omega)]
  have e2 : dstXZ (n : Int) = stX n 2 := by
    unfold dstXZ dstX stX
    rw [if_neg (by omega), Int.toNat_natCast]
  have ht := step2_table n (by omega)
  rw [e1, e2]
  have HST := Lib.hid (step2_walk n (by omega) w)
  generalize stB n 2 = P at *
  generalize stX n 2 = X at *
  have hX := ht.1
  have hP := ht.2
  clear e1 e2 ht
  go_enter Tryz.func51, Tryz.ntmps51
  go_wp2_with fail
  refine HST.out.mono ?_
  clear HST
  rintro e w1 ⟨rfl, rfl⟩
  go_wp2_with fail
  exact bodyPost_ret (results_tmp2 rfl _ _ _) rfl ⟨rfl, rfl⟩
end Go.Proofs.YtnapnaaejignaaaGreat.If

/-! InF: inflate: contracts on a run at a place of a list of objects; stored, again, coded walked. -/
namespace Go.Proofs.YtnapnaaejignaaaGreat.If
open Go.RowKit Bt Hu

theorem izN_eq (n : Nat) : izN n = .int .i64 (n : Int) := rfl
theorem Pst.set {α : Type} {w0 w' : World} {L : List Ob} {o : Ob} {j ub rb : Nat} {s : ByteArray} {B : Nat} {enc : α → Value} {R : Rs α} {e : Ending} (h : Pst w0 (L.set j o) j ub rb s B enc R e w') : Pst w0 L j ub rb s B enc R e w' := by
  unfold Pst at h ⊢
  cases R with
  | ok a p out => simpa only [List.set_set] using h
  | er e out => simpa only [List.set_set] using h
section
variable {w0 w : World} {L : List Ob} {j ub rb : Nat} {F : List Nat} {s : ByteArray} {B p : Nat} {out : List Nat}
theorem a_get (n : Nat) (hj : j < L.length) (S : Sep w0 w (L.set j (oRun ub rb F s B p out))) (hs : s.size ≤ 1048576) (hp : p ≤ 8 * s.size) (hn : n ≤ 16) :
    Calls Tryz.prog 43 #[.pointer (some ⟨ub, 0, none⟩), .int .i64 n] w (Pst w0 L j ub rb s B izN (getR s n p out)) :=
  (c_get n S (List.getElem?_set_self hj) hs hp hn).mono fun _ _ h => h.set
theorem a_sym (i : Nat) {tb : Nat} {Ft : List Nat} {D : List Int} (hij : i ≠ j) (hj : j < L.length) (hT : L[i]? = some (oTab tb Ft D)) (S : Sep w0 w (L.set j (oRun ub rb F s B p out))) (hD : D.length ≤ 288) (hs : s.size ≤ 1048576) (hp : p ≤ 8 * s.size) :
    Calls Tryz.prog 105 #[.pointer (some ⟨ub, 0, none⟩), .pointer (some ⟨tb, 0, none⟩)] w (Pst w0 L j ub rb s B izN (symR s D p out)) :=
  (c_sym i hij S (by rw [List.getElem?_set_ne (Ne.symm hij)]; exact hT) (List.getElem?_set_self hj) hD hs hp).mono fun _ _ h => h.set
theorem a_put (b : Nat) (hj : j < L.length) (S : Sep w0 w (L.set j (oRun ub rb F s B p out))) (hB : B ≤ 1099511627776) :
    Calls Tryz.prog 91 #[.pointer (some ⟨ub, 0, none⟩), .int .u8 b] w (Pst w0 L j ub rb s B unit9 (putR B b p out)) :=
  (c_put b S (List.getElem?_set_self hj) hB).mono fun _ _ h => h.set
theorem putR_ok {b q : Nat} {o : List Nat} {a : Unit} (h : putR B b p out = .ok a q o) : q = p ∧ o = out ++ [b] ∧ out.length < B := by
  unfold putR at h
  split at h
  · cases h
  · injection h with h1 h2 h3
    exact ⟨h2.symm, h3.symm, by omega⟩
theorem xor_full (n : Nat) (h : n < 65536) : bits .xor .i64 (n : Int) 65535 = ((65535 - n : Nat) : Int) := by
  have e : (65535 : Int) = ((65535 : Nat) : Int) := rfl
  have h2 : n ^^^ 65535 = 65535 - n := by
    have hb : ∀ i, (n ^^^ 65535).testBit i = (65535 - n).testBit i := fun i => by
      rw [Nat.testBit_xor]
      have e2 : 65535 - n = 2 ^ 16 - (n + 1) := by omega
      rw [e2, Nat.testBit_two_pow_sub_succ (by omega : n < 2 ^ 16), show (65535 : Nat) = 2 ^ 16 - 1 from rfl, Nat.testBit_two_pow_sub_one]
      by_cases hi : i < 16
      · simp [hi]
      · simp [hi]
        exact Nat.testBit_lt_two_pow (Nat.lt_of_lt_of_le (show n < 2 ^ 16 by omega) (Nat.pow_le_pow_right (by omega) (by omega)))
    exact Nat.eq_of_testBit_eq hb
  have key : (BitVec.ofInt 64 (n : Int) ^^^ BitVec.ofInt 64 65535).toNat = 65535 - n := by
    rw [BitVec.toNat_xor, BitVec.toNat_ofInt, BitVec.toNat_ofInt, ← h2]
    congr 1
    omega
  show IntKind.i64.wrap ((BitVec.ofInt 64 (n : Int) ^^^ BitVec.ofInt 64 65535).toNat : Nat) = _
  rw [key, IntKind.wrap_i64]
  omega
set_option maxRecDepth 100000 in
set_option maxHeartbeats 4000000 in
theorem a_align (hj : j < L.length) (S : Sep w0 w (L.set j (oRun ub rb F s B p out))) (hs : s.size ≤ 1048576) (hp : p ≤ 8 * s.size) :
    Calls Tryz.prog 90 #[.pointer (some ⟨rb, 0, none⟩)] w fun e w' => e = .returned (.int .i64 (gap p)) ∧ Sep w0 w' (L.set j (oRun ub rb F s B (p + gap p) out)) := by
  have hL : (L.set j (oRun ub rb F s B p out))[j]? = some (oRun ub rb F s B p out) := List.getElem?_set_self hj
  have hO : RunO w ub rb F s B p out := S.get j hL
  refine (align_any rb s p false w (by omega) hp hO.rd).mono ?_
  rintro e w1 ⟨rfl, hr, hx⟩
  have hFm : rb ∈ F := by obtain ⟨⟨_, _, _, rfl, _⟩, _⟩ := hO; simp
  refine ⟨rfl, ?_⟩
  have := S.upd j (oRun ub rb F s B (p + gap p) out) hL (hx.mono (fun k _ hk => by rw [List.mem_singleton] at hk; subst hk; exact hFm)) (Fr.refl _ _) (hO.read hx hr)
  rwa [List.set_set] at this
theorem gap_in (p N : Nat) (h : p ≤ 8 * N) : p + gap p ≤ 8 * N := by
  unfold gap
  omega
set_option maxRecDepth 100000 in
set_option maxHeartbeats 8000000 in
theorem a_stored (hj : j < L.length) (S : Sep w0 w (L.set j (oRun ub rb F s B p out))) (hs : s.size ≤ 1048576) (hp : p ≤ 8 * s.size) (hB : B ≤ 1099511627776) :
    Calls Tryz.prog 68 #[.pointer (some ⟨ub, 0, none⟩)] w (Pst w0 L j ub rb s B unit9 (storedR s B p out)) := by
  have hO : RunO w ub rb F s B p out := S.get j (List.getElem?_set_self hj)
  obtain ⟨ao, cap, c0, _, _, _, _⟩ := hO.cells
  have HS := Lib.hid S
  have hg := gap_in p s.size hp
  obtain ⟨R, hR⟩ : ∃ R, storedR s B p out = R := ⟨_, rfl⟩
  have HR := Lib.hid hR
  rw [hR]
  clear S hO hR
  go_enter Tryz.func68, Tryz.ntmps68
  go_wp2_with fail
  refine (a_align hj HS.out hs hp).mono ?_
  rintro e w1 ⟨rfl, S⟩
  have HS := Lib.hid S
  have hR := HR.out
  unfold storedR at hR
  obtain ⟨p1, hp1⟩ : ∃ p1, p + gap p = p1 := ⟨_, rfl⟩
  rw [hp1] at hR hg HS
  clear S c0 HR hp1
  cases h1 : getR s 16 p1 out with
  | er e1 o1 =>
    rw [h1, Rs.bind_er] at hR
    have HH := Lib.hid (⟨h1, hR⟩ : _ ∧ _)
    clear h1 hR
    go_wp2_with fail
    refine (a_get 16 hj HS.out hs hg (by omega)).mono ?_
    rw [HH.out.1]
    rintro e w2 ⟨rfl, F', p', S⟩
    go_wp2_with fail
    exact ⟨rfl, Pst.er HH.out.2.symm rfl F' S⟩
  | ok n p2 o2 =>
    obtain ⟨hn, rfl, rfl, hp2⟩ := getR_ok h1
    have hn16 := getv8 s p1 16 (Nat.le_refl _)
    rw [← hn] at hn16
    rw [h1, Rs.bind_ok] at hR
    have HH := Lib.hid (⟨h1, hR⟩ : _ ∧ _)
    clear h1 hR hn
    go_wp2_with fail
    refine (a_get 16 hj HS.out hs hg (by omega)).mono ?_
    rw [HH.out.1]
    rintro e w2 ⟨rfl, F', S⟩
    rw [izN_eq]
    have HS := Lib.hid S
    have hR := HH.out.2
    clear S HH
    cases h1 : getR s 16 (p1 + 16) o2 with
    | er e1 o1 =>
      rw [h1, Rs.bind_er] at hR
      have HH := Lib.hid (⟨h1, hR⟩ : _ ∧ _)
      clear h1 hR
      go_wp2_with fail
      refine (a_get 16 hj HS.out hs hp2 (by omega)).mono ?_
      rw [HH.out.1]
      rintro e w3 ⟨rfl, F2, p', S⟩
      go_wp2_with fail
      exact ⟨rfl, Pst.er HH.out.2.symm rfl F2 S⟩
    | ok m p3 o3 =>
      obtain ⟨hm, rfl, rfl, hp3⟩ := getR_ok h1
      rw [h1, Rs.bind_ok] at hR
      have HH := Lib.hid h1
      have hx := xor_full n hn16
      clear h1 hm
      go_wp2_with fail
      refine (a_get 16 hj HS.out hs hp2 (by omega)).mono ?_
      rw [HH.out]
      rintro e w3 ⟨rfl, F2, S⟩
      have HS := Lib.hid S
      rw [izN_eq]
      clear S HH
      obtain ⟨N, hN⟩ : ∃ N, 65535 - n = N := ⟨_, rfl⟩
      rw [hN] at hR hx
      by_cases hmN : m = N
      · rw [if_pos hmN] at hR
        subst hmN
        have HR := Lib.hid hR
        clear hR hN
        go_wp2_with fail
        refine (must_ok w3).mono ?_
        rintro e w4 ⟨rfl, rfl⟩
        clear hx
        go_wp2_with fail
        go_loopg [17] n (fun g iv wr => ∃ (k p : Nat) (F' out : List Nat), g + k = n ∧ iv = .int .i64 k ∧ p ≤ 8 * s.size ∧ storeL s B g p out = R ∧ Sep w0 wr (L.set j (oRun ub rb F' s B p out)))
        case atStart => exact ⟨0, _, _, _, by omega, rfl, hp3, HR.out, HS.out⟩
        case round =>
          clear HS HR
          obtain ⟨k, p, F', out, hk, rfl, hp, hR, S⟩ := hrel
          have HS := Lib.hid S
          clear S
          cases gk with
          | zero =>
            obtain rfl : k = n := by omega
            have HR := Lib.hid hR
            clear hR
            go_wp2_with fail
            go_end0
            exact Pst.ok HR.out.symm rfl F' HS.out
          | succ g =>
            have hkn : (k : Int) < (n : Int) := by omega
            rw [storeL] at hR
            cases h1 : getR s 8 p out with
            | er e1 o1 =>
              rw [h1, Rs.bind_er] at hR
              have HH := Lib.hid (⟨h1, hR⟩ : _ ∧ _)
              clear h1 hR
              go_wp2_with fail
              refine (a_get 8 hj HS.out hs hp (by omega)).mono ?_
              rw [HH.out.1]
              rintro e w2 ⟨rfl, F', p', S⟩
              go_wp2_with fail
              exact ⟨rfl, Pst.er HH.out.2.symm rfl F' S⟩
            | ok v p2 o2 =>
              obtain ⟨hv, rfl, rfl, hp2⟩ := getR_ok h1
              have hv8 : v < 256 := by rw [hv]; exact getv_lt s false p 8
              rw [h1, Rs.bind_ok] at hR
              have HH := Lib.hid h1
              clear h1 hv
              cases h2 : putR B v (p + 8) o2 with
              | er e1 o1 =>
                rw [h2, Rs.bind_er] at hR
                have H2 := Lib.hid (⟨h2, hR⟩ : _ ∧ _)
                clear h2 hR
                go_wp2_with fail
                refine (a_get 8 hj HS.out hs hp (by omega)).mono ?_
                rw [HH.out]
                rintro e w2 ⟨rfl, F', S⟩
                rw [izN_eq]
                go_wp2_with fail
                refine (a_put v hj S hB).mono ?_
                rw [H2.out.1]
                rintro e w3 ⟨rfl, F', p', S⟩
                go_wp2_with fail
                exact ⟨rfl, Pst.er H2.out.2.symm rfl F' S⟩
              | ok u p3 o3 =>
                obtain ⟨rfl, rfl, _⟩ := putR_ok h2
                rw [h2, Rs.bind_ok] at hR
                have H2 := Lib.hid (⟨h2, hR⟩ : _ ∧ _)
                clear h2 hR
                go_wp2_with fail
                refine (a_get 8 hj HS.out hs hp (by omega)).mono ?_
                rw [HH.out]
                rintro e w2 ⟨rfl, F', S⟩
                rw [izN_eq]
                go_wp2_with fail
                refine (a_put v hj S hB).mono ?_
                rw [H2.out.1]
                rintro e w3 ⟨rfl, F2, S⟩
                go_wp2_with fail
                go_roundg g
                case measure => omega
                case rel => exact ⟨k + 1, _, F2, _, by omega, by go_num, hp2, H2.out.2, S⟩
      · rw [if_neg hmN] at hR
        have HR := Lib.hid hR
        have j1 : ((m : Int) == (N : Int)) = false := beq_eq_false_iff_ne.2 (by omega)
        have j2 : (m == N) = false := beq_eq_false_iff_ne.2 hmN
        clear hR hmN hN
        go_wp2_with fail
        refine (must_er w3).mono ?_
        rintro e w4 ⟨rfl, rfl⟩
        go_wp2_with fail
        exact ⟨rfl, Pst.er HR.out.symm rfl F2 HS.out⟩
end
end Go.Proofs.YtnapnaaejignaaaGreat.If

/-! InG: inflate: again, coded walked. -/
namespace Go.Proofs.YtnapnaaejignaaaGreat.If
open Go.RowKit Bt Hu

theorem len_table : ∀ x, x < 286 → lenX x ≤ 5 ∧ lenB x ≤ 258 := by decide +kernel
theorem dst_table : ∀ d, d < 30 → dstX d ≤ 13 ∧ dstB d ≤ 24577 ∧ 1 ≤ dstB d := by decide +kernel
theorem lenBZ_at (x : Nat) (h1 : 257 ≤ x) (h2 : x ≤ 285) : lenBZ (x : Int) = lenB x ∧ lenXZ (x : Int) = lenX x := by
  unfold lenBZ lenXZ
  rw [if_neg (by omega), if_neg (by omega), Int.toNat_natCast]
  exact ⟨rfl, rfl⟩
theorem dstBZ_at (x : Nat) (h2 : x ≤ 29) : dstBZ (x : Int) = dstB x ∧ dstXZ (x : Int) = dstX x := by
  unfold dstBZ dstXZ
  rw [if_neg (by omega), if_neg (by omega), Int.toNat_natCast]
  exact ⟨rfl, rfl⟩
section
variable {w0 w : World} {L : List Ob} {j ub rb : Nat} {F : List Nat} {s : ByteArray} {B p : Nat} {out : List Nat}
set_option maxRecDepth 100000 in
set_option maxHeartbeats 8000000 in
theorem a_again (i : Nat) {tb : Nat} {Ft : List Nat} {D : List Int} (x : Nat) (hx1 : 257 ≤ x) (hx2 : x ≤ 285) (hij : i ≠ j) (hj : j < L.length) (hT : L[i]? = some (oTab tb Ft D)) (S : Sep w0 w (L.set j (oRun ub rb F s B p out))) (hD : D.length ≤ 288) (hs : s.size ≤ 1048576) (hp : p ≤ 8 * s.size) (hB : B ≤ 1099511627776) :
    Calls Tryz.prog 106 #[.pointer (some ⟨ub, 0, none⟩), .int .i64 x, .pointer (some ⟨tb, 0, none⟩)] w (Pst w0 L j ub rb s B unit9 (againR s B x D p out)) := by
  have HS := Lib.hid S
  have HT := Lib.hid hT
  obtain ⟨R, hR⟩ : ∃ R, againR s B x D p out = R := ⟨_, rfl⟩
  rw [hR]
  unfold againR at hR
  have ht := len_table x (by omega)
  have HLW := Lib.hid (by have := length_walk (x : Int) w; rw [(lenBZ_at x hx1 hx2).1, (lenBZ_at x hx1 hx2).2] at this; exact this : Calls Tryz.prog 49 #[.int .i64 (x : Int)] w fun e w' => e = .returned (.tuple #[.int .i64 (lenB x), .int .i64 (lenX x)]) ∧ w = w')
  generalize lenB x = bB at *
  generalize lenX x = bX at *
  have hbB := ht.2
  have hbX := ht.1
  clear S hT ht
  cases h1 : getR s bX p out with
  | er e1 o1 =>
    rw [h1, Rs.bind_er] at hR
    have HH := Lib.hid (⟨h1, hR⟩ : _ ∧ _)
    clear h1 hR
    go_enter Tryz.func106, Tryz.ntmps106
    go_wp2_with fail
    refine HLW.out.mono ?_
    clear HLW
    rintro e w1 ⟨rfl, rfl⟩
    go_wp2_with fail
    refine (a_get bX hj HS.out hs hp (by omega)).mono ?_
    rw [HH.out.1]
    rintro e w2 ⟨rfl, F', p', S⟩
    go_wp2_with fail
    exact ⟨rfl, Pst.er HH.out.2.symm rfl F' S⟩
  | ok u p2 o2 =>
    obtain ⟨hu, rfl, rfl, hp2⟩ := getR_ok h1
    have hu5 : u < 65536 := by rw [hu]; exact getv8 s p bX (by omega)
    rw [h1, Rs.bind_ok] at hR
    have HH := Lib.hid h1
    have HR := Lib.hid hR
    clear h1 hR hu
    go_enter Tryz.func106, Tryz.ntmps106
    go_wp2_with fail
    refine HLW.out.mono ?_
    clear HLW
    rintro e w1 ⟨rfl, rfl⟩
    go_wp2_with fail
    refine (a_get bX hj HS.out hs hp (by omega)).mono ?_
    rw [HH.out]
    rintro e w2 ⟨rfl, F2, S⟩
    rw [izN_eq]
    have HS := Lib.hid S
    have hR := HR.out
    clear S HR HH
    cases h1 : symR s D (p + bX) o2 with
    | er e1 o1 =>
      rw [h1, Rs.bind_er] at hR
      have HH := Lib.hid (⟨h1, hR⟩ : _ ∧ _)
      clear h1 hR
      go_wp2_with fail
      refine (a_sym i hij hj HT.out HS.out hD hs hp2).mono ?_
      rw [HH.out.1]
      rintro e w3 ⟨rfl, F3, p', S⟩
      go_wp2_with fail
      exact ⟨rfl, Pst.er HH.out.2.symm rfl F3 S⟩
    | ok d p3 o3 =>
      obtain ⟨hp3, hp4, hd288, rfl⟩ := symR_ok h1
      rw [h1, Rs.bind_ok] at hR
      have HH := Lib.hid h1
      have HR := Lib.hid hR
      clear h1 hR
      go_wp2_with fail
      refine (a_sym i hij hj HT.out HS.out hD hs hp2).mono ?_
      rw [HH.out]
      rintro e w3 ⟨rfl, F3, S⟩
      rw [izN_eq]
      have HS := Lib.hid S
      have hR := HR.out
      clear S HR HH
      by_cases hd : d ≤ 29
      · rw [if_pos hd] at hR
        have j1 : decide ((d : Int) ≤ 29) = true := decide_eq_true (by omega)
        have ht := dst_table d (by omega)
        have HLW := Lib.hid (by have := distance_walk (d : Int) w3; rw [(dstBZ_at d hd).1, (dstBZ_at d hd).2] at this; exact this : Calls Tryz.prog 51 #[.int .i64 (d : Int)] w3 fun e w' => e = .returned (.tuple #[.int .i64 (dstB d), .int .i64 (dstX d)]) ∧ w3 = w')
        generalize dstB d = dB at *
        generalize dstX d = dX at *
        have hdX := ht.1
        have hdB := ht.2.1
        have hdB1 := ht.2.2
        have HR := Lib.hid hR
        clear ht hR
        go_wp2_with fail
        refine (must_ok w3).mono ?_
        rintro e w4 ⟨rfl, rfl⟩
        clear j1
        go_wp2_with fail
        refine HLW.out.mono ?_
        clear HLW
        rintro e w4 ⟨rfl, rfl⟩
        have hR := HR.out
        clear HR
        cases h1 : getR s dX p3 o3 with
        | er e1 o1 =>
          rw [h1, Rs.bind_er] at hR
          have HH := Lib.hid (⟨h1, hR⟩ : _ ∧ _)
          clear h1 hR
          go_wp2_with fail
          refine (a_get dX hj HS.out hs hp4 (by omega)).mono ?_
          rw [HH.out.1]
          rintro e w5 ⟨rfl, F5, p', S⟩
          go_wp2_with fail
          exact ⟨rfl, Pst.er HH.out.2.symm rfl F5 S⟩
        | ok v p5 o5 =>
          obtain ⟨hv, rfl, rfl, hp5⟩ := getR_ok h1
          have hv9 : v < 65536 := by rw [hv]; exact getv8 s p3 dX (by omega)
          rw [h1, Rs.bind_ok] at hR
          have HH := Lib.hid h1
          have HR := Lib.hid hR
          clear h1 hR hv
          go_wp2_with fail
          refine (a_get dX hj HS.out hs hp4 (by omega)).mono ?_
          rw [HH.out]
          rintro e w5 ⟨rfl, F5, S⟩
          rw [izN_eq]
          obtain ⟨ao, cap, _, c1, _, _, _⟩ := (show RunO w5 ub rb F5 s B (p3 + dX) o5 from S.get j (List.getElem?_set_self hj)).cells
          have HS := Lib.hid S
          have hR := HR.out
          clear S HR HH
          obtain ⟨back, hback⟩ : ∃ back, dB + v = back := ⟨_, rfl⟩
          have hbi : (dB : Int) + (v : Int) = (back : Int) := by omega
          have hb1 : 1 ≤ back := by omega
          have hb9 : back < 100000 := by omega
          rw [hback] at hR
          obtain ⟨n, hn⟩ : ∃ n, bB + u = n := ⟨_, rfl⟩
          have hni : (bB : Int) + (u : Int) = (n : Int) := by omega
          have hn9 : n < 100000 := by omega
          rw [hn] at hR
          by_cases hbo : back ≤ o5.length
          · rw [if_pos hbo] at hR
            have j1 : decide ((back : Int) ≤ (o5.length : Int)) = true := decide_eq_true (by omega)
            have j2 : decide (back ≤ o5.length) = true := decide_eq_true hbo
            have HR := Lib.hid (⟨hR, hbo⟩ : _ ∧ _)
            clear hR hbo hback hn
            go_wp2_with fail
            refine (must_ok w5).mono ?_
            rintro e w6 ⟨rfl, rfl⟩
            clear j1 j2 c1
            go_wp2_with fail
            clear hbi hni
            go_loopg [46] n (fun g iv wr => ∃ (k : Nat) (F' out : List Nat), g + k = n ∧ iv = .int .i64 k ∧ back ≤ out.length ∧ copyL B back g (p3 + dX) out = R ∧ Sep w0 wr (L.set j (oRun ub rb F' s B (p3 + dX) out)))
            case atStart => exact ⟨0, _, _, by omega, by go_num, HR.out.2, HR.out.1, HS.out⟩
            case round =>
              clear HS HR
              obtain ⟨k, F', out, hk, rfl, hbo, hR, S⟩ := hrel
              cases gk with
              | zero =>
                obtain rfl : k = n := by omega
                have HR := Lib.hid (⟨hR, S⟩ : _ ∧ _)
                clear hR S
                go_wp2_with fail
                go_end0
                exact Pst.ok HR.out.1.symm rfl F' HR.out.2
              | succ g =>
                have hkn : (k : Int) < (n : Int) := by omega
                rw [copyL] at hR
                have hO : RunO wr ub rb F' s B (p3 + dX) out := S.get j (List.getElem?_set_self hj)
                obtain ⟨ao, cap, _, c1, _, _, hrow⟩ := hO.cells
                obtain ⟨gb, cap2, hgb⟩ := own_at hrow (by omega)
                injection hgb with e1 _ e3
                subst e1 e3
                obtain ⟨idx, hidx⟩ : ∃ idx, out.length - back = idx := ⟨_, rfl⟩
                rw [hidx] at hR
                have hix : (out.length : Int) - (back : Int) = (idx : Int) := by omega
                have hio : (idx : Int) < (out.length : Int) := by omega
                obtain ⟨b, hb⟩ : ∃ b, out[idx]? = some b := ⟨_, List.getElem?_eq_getElem (by omega)⟩
                rw [List.getD_eq_getElem?_getD, hb, Option.getD_some] at hR
                have c2 : wr.cell? ⟨gb, idx, none⟩ = some (b8 b) := ownsRow_at hrow (by rw [List.getElem?_map, hb]; rfl)
                have d1 : ∀ x : Ex wr, x.w.cell? ⟨ub, 1, none⟩ = some (.slice (some ⟨gb, 0, none⟩) out.length cap) := fun x => x.cell c1
                have d2 : ∀ x : Ex wr, x.w.cell? ⟨gb, idx, none⟩ = some (.int .u8 (b : Int)) := fun x => x.cell c2
                have hl9 : out.length ≤ 9223372036854775807 := by
                  obtain ⟨cur, _, h1, h2, _⟩ := ownsRow_open hrow
                  unfold maxLen at h2
                  omega
                have HS := Lib.hid S
                clear hO c1 c2 hrow hb hidx S
                have j3 : IntKind.i64.wrap ((out.length : Int) - (back : Int)) = (idx : Int) := by rw [hix]; exact IntWalk.i64_in _ (by omega)
                cases h2 : putR B b (p3 + dX) out with
                | er e1 o1 =>
                  rw [h2, Rs.bind_er] at hR
                  have H2 := Lib.hid (⟨h2, hR⟩ : _ ∧ _)
                  clear h2 hR
                  go_wp2_with fail
                  refine wp_region_quiet_tail (C := fun w' => ∃ x : Ex wr, w' = x.w) 14 (by kernel_rfl) (by kernel_rfl) ⟨Ex.mk _ ((Ext.refl [] wr).drew), rfl⟩ ?_
                  simp only [List.take_succ_cons, List.take_zero, List.drop_succ_cons, List.drop_zero]
                  repeat (go_big_quiet_step (fail))
                  refine wpQuiet_nil ?_
                  rintro _ ⟨x, rfl⟩
                  clear d1 d2 j3
                  have HS := Lib.hid (HS.out.quiet x.ext)
                  go_wp2_with fail
                  refine (a_put b hj HS.out hB).mono ?_
                  rw [H2.out.1]
                  rintro e w7 ⟨rfl, F7, p', S⟩
                  go_wp2_with fail
                  exact ⟨rfl, Pst.er H2.out.2.symm rfl F7 S⟩
                | ok uu p7 o7 =>
                  obtain ⟨rfl, rfl, _⟩ := putR_ok h2
                  rw [h2, Rs.bind_ok] at hR
                  have H2 := Lib.hid (⟨h2, hR⟩ : _ ∧ _)
                  clear h2 hR
                  go_wp2_with fail
                  refine wp_region_quiet_tail (C := fun w' => ∃ x : Ex wr, w' = x.w) 14 (by kernel_rfl) (by kernel_rfl) ⟨Ex.mk _ ((Ext.refl [] wr).drew), rfl⟩ ?_
                  simp only [List.take_succ_cons, List.take_zero, List.drop_succ_cons, List.drop_zero]
                  repeat (go_big_quiet_step (fail))
                  refine wpQuiet_nil ?_
                  rintro _ ⟨x, rfl⟩
                  clear d1 d2 j3
                  have HS := Lib.hid (HS.out.quiet x.ext)
                  go_wp2_with fail
                  refine (a_put b hj HS.out hB).mono ?_
                  rw [H2.out.1]
                  rintro e w7 ⟨rfl, F7, S⟩
                  go_wp2_with fail
                  go_roundg g
                  case measure => omega
                  case rel => exact ⟨k + 1, F7, _, by omega, by go_num, by rw [List.length_append]; omega, H2.out.2, S⟩
          · rw [if_neg hbo] at hR
            have j1 : decide ((back : Int) ≤ (o5.length : Int)) = false := decide_eq_false (by omega)
            have j2 : decide (back ≤ o5.length) = false := decide_eq_false hbo
            have HR := Lib.hid hR
            clear hR hbo hback hn
            go_wp2_with fail
            refine (must_er w5).mono ?_
            rintro e w6 ⟨rfl, rfl⟩
            clear j1 j2 c1
            go_wp2_with fail
            exact ⟨rfl, Pst.er HR.out.symm rfl F5 HS.out⟩
      · rw [if_neg hd] at hR
        have j1 : decide ((d : Int) ≤ 29) = false := decide_eq_false (by omega)
        have HR := Lib.hid hR
        clear hR
        go_wp2_with fail
        refine (must_er w3).mono ?_
        rintro e w4 ⟨rfl, rfl⟩
        clear j1
        go_wp2_with fail
        exact ⟨rfl, Pst.er HR.out.symm rfl F3 HS.out⟩
end
end Go.Proofs.YtnapnaaejignaaaGreat.If

/-! InH: inflate: coded walked. -/
namespace Go.Proofs.YtnapnaaejignaaaGreat.If
open Go.RowKit Bt Hu

theorem copyL_ok {B back : Nat} : ∀ (n p : Nat) (out : List Nat) {a : Unit} {q : Nat} {o : List Nat}, copyL B back n p out = .ok a q o → q = p
  | 0, p, out, a, q, o, h => by rw [copyL] at h; injection h with _ h2 _; exact h2.symm
  | n + 1, p, out, a, q, o, h => by
    rw [copyL] at h
    cases h1 : putR B (out.getD (out.length - back) 0) p out with
    | er e o1 => rw [h1, Rs.bind_er] at h; cases h
    | ok u p1 o1 =>
      rw [h1, Rs.bind_ok] at h
      obtain ⟨rfl, _, _⟩ := putR_ok h1
      exact copyL_ok n p1 o1 h
theorem againR_ok {s : ByteArray} {B x : Nat} {D : List Int} {p : Nat} {out : List Nat} {a : Unit} {q : Nat} {o : List Nat} (h : againR s B x D p out = .ok a q o) : p < q ∧ q ≤ 8 * s.size := by
  unfold againR at h
  cases h1 : getR s (lenX x) p out with
  | er e o1 => rw [h1, Rs.bind_er] at h; cases h
  | ok u p1 o1 =>
    obtain ⟨_, rfl, rfl, hp⟩ := getR_ok h1
    rw [h1, Rs.bind_ok] at h
    cases h2 : symR s D (p + lenX x) o1 with
    | er e o2 => rw [h2, Rs.bind_er] at h; cases h
    | ok d p2 o2 =>
      obtain ⟨hp1, hp2, _, rfl⟩ := symR_ok h2
      rw [h2, Rs.bind_ok] at h
      split at h
      · cases h3 : getR s (dstX d) p2 o2 with
        | er e o3 => rw [h3, Rs.bind_er] at h; cases h
        | ok v p3 o3 =>
          obtain ⟨_, rfl, rfl, hp3⟩ := getR_ok h3
          rw [h3, Rs.bind_ok] at h
          split at h
          · have := copyL_ok _ _ _ h
            omega
          · cases h
      · cases h
section
variable {w0 w : World} {L : List Ob} {j ub rb : Nat} {F : List Nat} {s : ByteArray} {B p : Nat} {out : List Nat}
set_option maxRecDepth 100000 in
set_option maxHeartbeats 8000000 in
theorem a_coded (i1 i2 : Nat) {t1 t2 : Nat} {F1 F2 : List Nat} {D1 D2 : List Int} (h1j : i1 ≠ j) (h2j : i2 ≠ j) (hj : j < L.length) (hT1 : L[i1]? = some (oTab t1 F1 D1)) (hT2 : L[i2]? = some (oTab t2 F2 D2)) (S : Sep w0 w (L.set j (oRun ub rb F s B p out)))
    (hD1 : D1.length ≤ 288) (hD2 : D2.length ≤ 288) (hs : s.size ≤ 1048576) (hp : p ≤ 8 * s.size) (hB : B ≤ 1099511627776) :
    Calls Tryz.prog 92 #[.pointer (some ⟨ub, 0, none⟩), .pointer (some ⟨t1, 0, none⟩), .pointer (some ⟨t2, 0, none⟩)] w (Pst w0 L j ub rb s B unit9 (codedR s B D1 D2 p out)) := by
  have HS := Lib.hid S
  have HT := Lib.hid (⟨hT1, hT2⟩ : _ ∧ _)
  obtain ⟨R, hR⟩ : ∃ R, codedR s B D1 D2 p out = R := ⟨_, rfl⟩
  rw [hR]
  unfold codedR at hR
  have HR := Lib.hid hR
  clear S hT1 hT2 hR
  go_enter Tryz.func92, Tryz.ntmps92
  go_wp2_with fail
  go_loopg [6] (8 * s.size - p + 1) (fun g _ wr => ∃ (p : Nat) (F' out : List Nat), p ≤ 8 * s.size ∧ 8 * s.size - p < g ∧ codedF s B D1 D2 g p out = R ∧ Sep w0 wr (L.set j (oRun ub rb F' s B p out)))
  case atStart => exact ⟨_, _, _, hp, by omega, HR.out, HS.out⟩
  case round =>
    clear HS HR hp
    obtain ⟨p, F', out, hp, hpg, hR, S⟩ := hrel
    have HS := Lib.hid S
    clear S
    obtain ⟨g, rfl⟩ : ∃ g, gk = g + 1 := ⟨gk - 1, by omega⟩
    rw [codedF] at hR
    cases h1 : symR s D1 p out with
    | er e1 o1 =>
      rw [h1, Rs.bind_er] at hR
      have HH := Lib.hid (⟨h1, hR⟩ : _ ∧ _)
      clear h1 hR
      go_wp2_with fail
      refine (a_sym i1 h1j hj HT.out.1 HS.out hD1 hs hp).mono ?_
      rw [HH.out.1]
      rintro e w2 ⟨rfl, F2, p', S⟩
      go_wp2_with fail
      exact ⟨rfl, Pst.er HH.out.2.symm rfl F2 S⟩
    | ok x p2 o2 =>
      obtain ⟨hp1, hp2, hx288, rfl⟩ := symR_ok h1
      rw [h1, Rs.bind_ok] at hR
      have HH := Lib.hid h1
      have HR := Lib.hid hR
      clear h1 hR
      go_wp2_with fail
      refine (a_sym i1 h1j hj HT.out.1 HS.out hD1 hs hp).mono ?_
      rw [HH.out]
      rintro e w2 ⟨rfl, F3, S⟩
      rw [izN_eq]
      have HS := Lib.hid S
      have hR := HR.out
      clear S HR HH
      by_cases hx : x < 256
      · rw [if_pos hx] at hR
        have hx' : (x : Int) < 256 := by omega
        cases h2 : putR B x p2 o2 with
        | er e1 o1 =>
          rw [h2, Rs.bind_er] at hR
          have H2 := Lib.hid (⟨h2, hR⟩ : _ ∧ _)
          clear h2 hR
          go_wp2_with fail
          refine (a_put x hj HS.out hB).mono ?_
          rw [H2.out.1]
          rintro e w3 ⟨rfl, F4, p', S⟩
          go_wp2_with fail
          exact ⟨rfl, Pst.er H2.out.2.symm rfl F4 S⟩
        | ok uu p3 o3 =>
          obtain ⟨rfl, rfl, _⟩ := putR_ok h2
          rw [h2, Rs.bind_ok] at hR
          have H2 := Lib.hid (⟨h2, hR⟩ : _ ∧ _)
          clear h2 hR
          go_wp2_with fail
          refine (a_put x hj HS.out hB).mono ?_
          rw [H2.out.1]
          rintro e w3 ⟨rfl, F4, S⟩
          go_wp2_with fail
          go_roundg g
          case measure => omega
          case rel => exact ⟨_, F4, _, hp2, by omega, H2.out.2, S⟩
      · rw [if_neg hx] at hR
        have hx' : ¬ (x : Int) < 256 := by omega
        by_cases hx2 : x = 256
        · rw [if_pos hx2] at hR
          subst hx2
          have HR := Lib.hid hR
          clear hR
          go_wp2_with fail
          first | go_end0 | refine bodyPost_ret (results_none rfl _ _ _) rfl ?_
          exact Pst.ok HR.out.symm rfl F3 HS.out
        · rw [if_neg hx2] at hR
          have j1 : ((x : Int) == 256) = false := beq_eq_false_iff_ne.2 (by omega)
          by_cases hx3 : x ≤ 285
          · rw [if_pos hx3] at hR
            have j2 : decide ((x : Int) ≤ 285) = true := decide_eq_true (by omega)
            have hx257 : 257 ≤ x := by omega
            cases h2 : againR s B x D2 p2 o2 with
            | er e1 o1 =>
              rw [h2, Rs.bind_er] at hR
              have H2 := Lib.hid (⟨h2, hR⟩ : _ ∧ _)
              clear h2 hR
              go_wp2_with fail
              refine (must_ok w2).mono ?_
              rintro e w3 ⟨rfl, rfl⟩
              go_wp2_with fail
              refine (a_again i2 x hx257 hx3 h2j hj HT.out.2 HS.out hD2 hs hp2 hB).mono ?_
              rw [H2.out.1]
              rintro e w3 ⟨rfl, F4, p', S⟩
              go_wp2_with fail
              exact ⟨rfl, Pst.er H2.out.2.symm rfl F4 S⟩
            | ok uu p3 o3 =>
              have hq := againR_ok h2
              rw [h2, Rs.bind_ok] at hR
              have H2 := Lib.hid (⟨h2, hR⟩ : _ ∧ _)
              clear h2 hR
              go_wp2_with fail
              refine (must_ok w2).mono ?_
              rintro e w3 ⟨rfl, rfl⟩
              go_wp2_with fail
              refine (a_again i2 x hx257 hx3 h2j hj HT.out.2 HS.out hD2 hs hp2 hB).mono ?_
              rw [H2.out.1]
              rintro e w3 ⟨rfl, F4, S⟩
              go_wp2_with fail
              go_roundg g
              case measure => omega
              case rel => exact ⟨_, F4, _, hq.2, by omega, H2.out.2, S⟩
          · rw [if_neg hx3] at hR
            have j2 : decide ((x : Int) ≤ 285) = false := decide_eq_false (by omega)
            have HR := Lib.hid hR
            clear hR
            go_wp2_with fail
            refine (must_er w2).mono ?_
            rintro e w3 ⟨rfl, rfl⟩
            go_wp2_with fail
            exact ⟨rfl, Pst.er HR.out.symm rfl F3 HS.out⟩
end
end Go.Proofs.YtnapnaaejignaaaGreat.If

/-! InI: inflate: slices.Repeat of one number, slices.Grow, slices.Concat at int; Fixed, table, full, few walked. -/
namespace Go.Proofs.YtnapnaaejignaaaGreat.If
open Go.RowKit Bt Hu

set_option maxRecDepth 100000 in
set_option maxHeartbeats 4000000 in
theorem mul64_walk9 (x y : Nat) (w : World) (hx : x ≤ 1000) (hy : y ≤ 1000) :
    Calls Tryz.prog 99 #[.int .u64 x, .int .u64 y] w fun e w' => e = .returned (.tuple #[.int .u64 0, .int .u64 ((x * y : Nat) : Int)]) ∧ w' = w := by
  have and32 : ∀ z : Nat, z < 4294967296 → bits BinOp.and IntKind.u64 (z : Int) 4294967295 = (z : Int) := fun z hz => by
    have h1 := bits_and_u64_nat z 4294967295 (by omega) (by omega)
    rw [show (4294967295 : Nat) = 2 ^ 32 - 1 from rfl, Nat.and_two_pow_sub_one_eq_mod, Nat.mod_eq_of_lt (by omega)] at h1
    exact h1
  have h1 := and32 x (by omega)
  have h2 := and32 y (by omega)
  have h0 : bits BinOp.and IntKind.u64 (0 : Int) 4294967295 = 0 := and32 0 (by omega)
  have d1 : (x : Int) / 4294967296 = 0 := by omega
  have d2 : (y : Int) / 4294967296 = 0 := by omega
  have hle : x * y ≤ 1000 * 1000 := Nat.mul_le_mul hx hy
  obtain ⟨z, hz⟩ : ∃ z, z = x * y := ⟨_, rfl⟩
  have hm : (x : Int) * (y : Int) = (z : Int) := by rw [hz]; simp
  rw [← hz] at hle ⊢
  have hw : IntKind.u64.wrap (z : Int) = z := by rw [IntKind.wrap_u64]; omega
  have hw0 : IntKind.u64.wrap 0 = 0 := rfl
  have d3 : (z : Int) / 4294967296 = 0 := by omega
  have HZ := Lib.hid hz
  clear hz and32
  go_enter Tryz.func99, Tryz.ntmps99
  go_wp2_with fail
  go_ret2
  exact ⟨rfl, rfl⟩
theorem mul_walk9 (y : Nat) (w : World) (hy : y ≤ 1000) :
    Calls Tryz.prog 73 #[.int .u64 1, .int .u64 y] w fun e w' => e = .returned (.tuple #[.int .u64 0, .int .u64 (y : Int)]) ∧ w = w' := by
  have h64 := fun w => mul64_walk9 1 y w (by omega) hy
  rw [Nat.one_mul] at h64
  have H := Lib.hid h64
  clear h64
  go_enter Tryz.func73, Tryz.ntmps73
  go_wp2_with fail
  refine (H.out _).mono ?_
  rintro e w1 ⟨rfl, rfl⟩
  go_wp2_with fail
  go_ret2
  exact ⟨rfl, rfl⟩
theorem copy_int9 {W : World} {g o dLen dCap ln9 cp9 : Nat} {a : Addr} {cur : Array Value} {xs : List Value} (hg : W.heap[g]? = some (.cells cur 3 (0, 0))) (hn : xs.length = Nat.min ln9 dLen)
    (hsrc : ∀ j v, xs[j]? = some v → W.cell? (a.add j) = some v) (hfit : o + xs.length ≤ cur.size) (h1 : ∀ v ∈ xs, v.oneCell' = true) :
    ∃ W', (Builtin.copy_ #[58, 58] 3 #[.slice (some ⟨g, o, none⟩) dLen dCap, .slice (some a) ln9 cp9]).run Tryz.prog W = .ok (.int .i64 (xs.length : Nat)) W' ∧
      W'.heap[g]? = some (.cells (cur.toList.take o ++ xs ++ cur.toList.drop (o + xs.length)).toArray 3 (0, 0)) ∧ Ext [g] W W' :=
  ⟨_, run_copy_row Tryz.prog W 58 58 3 3 g o dLen dCap a ln9 cp9 cur 3 xs Tryz.underlying58 (by kernel_rfl) hg hn hsrc hfit h1, setRow_heap W g cur _ _ _ hg,
    ⟨rfl, rfl, rfl, by simp [World.setRow], fun k _ hk => setRow_other W g k _ (by simpa using hk)⟩⟩
set_option maxRecDepth 100000 in
set_option maxHeartbeats 8000000 in
/-- slices.Repeat of one number -/
theorem repeat1_walk (v : Int) (c : Nat) (a : Addr) (cap : Nat) (w : World) (h1 : 1 ≤ c) (h2 : c ≤ 1000) (hsrc : w.cell? a = some (iz v)) :
    Calls Tryz.prog 46 #[.slice (some a) 1 cap, .int .i64 c] w (NewInts w (List.replicate c v)) := by
  obtain ⟨i0, hif, hz0, hz1, hz2⟩ := info_parts infoInt7
  obtain ⟨wm, hmk, hown, hgrow⟩ := run_make_full (P := Tryz.prog) w 0 58 3 i0 (.int .i64 0) 1 Tryz.underlying58 hif hz0 hz1 .i64 .i64 c (by rw [hz2]; omega) (by unfold maxLen; omega) (by omega)
  have hx4 : Ext [] w wm := (Ext.refl [] w).grown hgrow (fun k hk => by cases hk)
  obtain ⟨cs, hcs, _, _, hcsz, _⟩ := ownsRow_open hown
  obtain ⟨ab, ao, sp0⟩ := a
  obtain rfl : sp0 = none := World.cell?_spot hsrc
  obtain ⟨W2, hcp, hW2, hx2⟩ := copy_int9 (o := 0) (dLen := c) (dCap := c) (ln9 := 1) (cp9 := cap) (a := ⟨ab, ao, none⟩) (xs := [iz v]) hcs (by simp only [List.length_singleton, Nat.min_def]; split <;> omega)
    (fun j u hu => by
      cases j with
      | zero => simp at hu; subst hu; rw [Addr.add_mid, Nat.add_zero]; exact Ext.cell hx4 hsrc
      | succ j => simp at hu) (by simp; omega) (by simp [Value.oneCell'])
  simp only [List.length_singleton] at hcp hW2
  have hx3 : Ext [] w W2 := hx4.trans' hx2 (fun i hi h => by simp at h; omega)
  obtain ⟨q, hq⟩ : ∃ q, w.heap.size = q := ⟨_, rfl⟩
  have hcp : (Builtin.copy_ #[58, 58] 3 #[.slice (some ⟨q, 0, none⟩) c c, .slice (some ⟨ab, ao, none⟩) 1 cap]).run Tryz.prog wm = .ok (.int .i64 1) W2 := by rw [← hq]; exact hcp
  rw [hq] at hmk hW2
  have j2 : ¬ ((c : Int) < 0) := by omega
  have j5 : ¬ ((9223372036854775807 : Int) < (c : Int)) := by omega
  have HX := Lib.hid (⟨hx3, hW2, hcsz, hq⟩ : _ ∧ _ ∧ _ ∧ _)
  clear hsrc hx4 hown hgrow hcs hx2 hx3 hW2 hcsz hq
  go_enter Tryz.func46, Tryz.ntmps46
  go_wp2_with fail
  refine (mul_walk9 c w (by omega)).mono ?_
  rintro e w1 ⟨rfl, rfl⟩
  go_wp2_with fail
  clear hmk hcp j2 j5
  go_loopg [8] (c - 1) (fun gg i wr => ∃ (n : Nat) (cur : Array Value), gg + n = c ∧ i = .int .i64 n ∧ 1 ≤ n ∧ wr.heap[q]? = some (.cells cur 3 (0, 0)) ∧ cur.size = c ∧ cur.toList.take n = (List.replicate n v).map iz ∧ Ext [] w wr)
  case atStart => exact ⟨1, _, by omega, rfl, by omega, HX.out.2.1, by have := HX.out.2.2.1; simp; omega, by simp, HX.out.1⟩
  case round =>
    obtain ⟨n, cur, hg, rfl, hn1, hcur, hsz, htk, hx⟩ := hrel
    have HT := Lib.hid htk
    have HX' := Lib.hid hx
    have HQ := Lib.hid HX.out.2.2.2
    clear HX htk hx
    by_cases hlt : n < c
    · have k1 : (n : Int) < (c : Int) := by omega
      have k2 : (0 : Int) ≤ (n : Int) := by omega
      have k3 : (n : Int) ≤ (c : Int) := by omega
      go_wp2_with fail
      refine wp_region_mid (C := fun w' => ∃ x : ExS [q] wr, w' = x.w) 7 1 (by kernel_rfl) (by kernel_rfl) ⟨ExS.mk _ ((Ext.refl _ wr).drew), rfl⟩ ?_
      simp only [List.take_succ_cons, List.take_zero, List.drop_succ_cons, List.drop_zero]
      repeat (go_big_quiet_step (fail))
      refine wpQuiet_nil ?_
      refine midW_step rfl (fun K hK => ?_)
      obtain ⟨m, hm⟩ : ∃ m, m = Nat.min n (c - n) := ⟨_, rfl⟩
      have hm1 : m ≤ n ∧ m ≤ c - n ∧ (m = n ∨ m = c - n) := by rw [hm]; simp only [Nat.min_def]; split <;> omega
      have hlr : ((List.replicate m v).map iz).length = m := by simp
      obtain ⟨W5, hcp, hW5, hx5⟩ := copy_int9 (W := wr.drew) (g := q) (o := n) (dLen := c - n) (dCap := c - n) (ln9 := n) (cp9 := c) (a := ⟨q, 0, none⟩) (xs := (List.replicate m v).map iz) (show wr.drew.heap[q]? = _ from hcur) (by rw [hlr, hm])
        (fun j u hu => by
          have hj : j < m := by have := (List.getElem?_eq_some_iff.1 hu).1; omega
          refine World.news_of_block (show wr.drew.heap[q]? = _ from hcur) j u ?_
          have h2 : (cur.toList.take n)[j]? = ((List.replicate n v).map iz)[j]? := by rw [HT.out]
          rw [List.getElem?_take_of_lt (by omega)] at h2
          rw [h2, ← hu, List.map_replicate, List.map_replicate, List.getElem?_replicate, List.getElem?_replicate, if_pos (by omega), if_pos hj]) (by omega) (by simp [Value.oneCell'])
      rw [hlr] at hcp
      have HW5 := Lib.hid hW5
      have HX5 := Lib.hid hx5
      have HLR := Lib.hid hlr
      clear hW5 hx5 hm hlr
      go_wp2_with fail
      refine ⟨⟨ExS.mk W5 ((Ext.refl [q] wr).drew.trans HX5.out), rfl⟩, ?_⟩
      clear hcp
      refine midW_nil ?_
      go_wp2_with fail
      refine NoPanic.normal ?_
      go_wp2_with fail
      go_roundg (c - (n + m))
      case measure => omega
      case rel =>
        have e1 : (cur.toList.take n).length = n := by rw [List.length_take]; simp; omega
        refine ⟨n + m, _, by omega, by go_num, by omega, HW5.out, ?_, ?_, (HX'.out.drew).trans' HX5.out (fun i hi h => by have := HQ.out; simp at h; omega)⟩
        · have := HLR.out
          simp only [List.size_toArray, List.length_append, e1, List.length_drop, this]
          simp
          omega
        · have := HLR.out
          rw [List.toList_toArray, List.take_left' (by rw [List.length_append, e1, this]), HT.out, ← List.map_append, List.replicate_append_replicate]
    · obtain rfl : n = c := by omega
      go_wp2_with fail
      go_ret
      refine ⟨.slice (some ⟨q, 0, none⟩) n n, rfl, HX'.out, ⟨by simp, .inr ⟨q, n, cur, by simp, Nat.zero_le _, hcur, by simp, by unfold maxLen; omega, by simpa using hsz, ?_⟩⟩, fun k hk => ?_⟩
      · rw [← HT.out]
        simp
      · have := HQ.out
        simp [Value.ownBlock] at hk
        omega
set_option maxRecDepth 100000 in
set_option maxHeartbeats 8000000 in
theorem GrowI_walk (n : Nat) (w : World) (hn : n ≤ 1073741824) :
    Calls Tryz.prog 59 #[.slice none 0 0, .int .i64 n] w fun e w' => ∃ ao cap, e = .returned (.slice ao 0 cap) ∧ Ext [] w w' ∧ (oSl 3 1 (.slice ao 0 cap) 0 []).P w' ∧ ∀ k ∈ (Value.slice ao 0 cap).ownBlock.toList, w.heap.size ≤ k := by
  obtain ⟨i0, hif, hz0, hz1, hz2⟩ := info_parts infoInt7
  have j1 : ¬ ((n : Int) < 0) := by omega
  by_cases h0 : n = 0
  · subst h0
    go_enter Tryz.func59, Tryz.ntmps59
    go_wp2_with fail
    go_ret
    exact ⟨none, 0, rfl, Ext.refl _ _, World.ownsRow_nil _ _ _ _, by simp [Value.ownBlock]⟩
  · have j2 : (0 : Int) < (n : Int) := by omega
    have hG1 := grownCap_ge w n 0 3
    have hG2 := grownCap_le_maxLen w n 0 3 (by unfold maxLen; omega)
    have hr : ∀ ty, (Builtin.append_ #[58, 3] ty #[.slice none 0 0, .int .i64 (n : Int)]).run Tryz.prog w = .ok (.slice (some ⟨w.heap.size, 0, none⟩) n (grownCap w n 0 3))
        (w.drew.alloc (.cells (#[] ++ Builtin.zeroCells (Value.int .i64 0).cells n ++ Builtin.zeroCells (Value.int .i64 0).cells (grownCap w n 0 3 - n)) 3)) := fun ty => by
      have h := Lib.run_append_grow_zeros (P := Tryz.prog) w 58 3 ty 3 i0 (.int .i64 0) .i64 .i64 Tryz.underlying58 Tryz.underlying3 hif hz0 none 0 0 [] (run_firstCells_none w.drew i0.size 0 0 0) n (by omega) (by omega) (by omega) (by omega)
        (by rw [hz2]; omega) (by rw [Nat.zero_add]; exact growslice_fits (by omega) (by rw [hz2]; omega))
      simpa using h
    obtain ⟨G, hG⟩ : ∃ G, grownCap w n 0 3 = G := ⟨_, rfl⟩
    rw [hG] at hG1 hG2
    simp only [hG] at hr
    unfold maxLen at hG2
    have g1 : (n : Int) ≤ (G : Int) := by omega
    have g2 : (0 : Int) ≤ (G : Int) := by omega
    clear hG
    go_enter Tryz.func59, Tryz.ntmps59
    go_wp2_with (at_builtin; refine Lib.wpList_append_run _ rfl _ _ _ _ rfl _ _ rfl rfl _ _ (hr _) ?_)
    go_ret
    refine ⟨_, _, rfl, ((Ext.refl _ w).drew).alloc _, ⟨rfl, .inr ⟨w.heap.size, G, _, rfl, Nat.zero_le _, heap_alloc_at (w := w.drew) _, Nat.zero_le _, by unfold maxLen; omega, ?_, by simp⟩⟩, by simp [Value.ownBlock]⟩
    simp only [Array.size_append, size_zeroCells]
    simp
    omega
end Go.Proofs.YtnapnaaejignaaaGreat.If

/-! InJ: inflate: slices.Concat of four rows; Fixed, table, full, few, fixed walked. -/
namespace Go.Proofs.YtnapnaaejignaaaGreat.If
open Go.RowKit Bt Hu

theorem take_snoc10 {α : Type} (l : List α) (i : Nat) (x : α) (h : l[i]? = some x) : l.take (i + 1) = l.take i ++ [x] := by
  rw [List.take_add_one, h]
  rfl
theorem app_ints (w : World) (v : Value) (xs ys : List Int) (ao : Option Addr) (cap : Nat) (h : w.ownsRow 0 3 1 v xs.length (xs.map iz)) (hy : IntsAt w (.slice ao ys.length cap) ys) (hne : 0 < ys.length) (hl : xs.length + ys.length ≤ 1048576) :
    ∃ ao2 cap2 w2, (∀ ty, (Builtin.append_ #[58, 58] ty #[v, .slice ao ys.length cap]).run Tryz.prog w = .ok (.slice ao2 (xs ++ ys).length cap2) w2) ∧ w2.ownsRow 0 3 1 (.slice ao2 (xs ++ ys).length cap2) (xs ++ ys).length ((xs ++ ys).map iz) ∧ Ext v.ownBlock.toList w w2 ∧ Fr w v.ownBlock.toList (Value.slice ao2 (xs ++ ys).length cap2).ownBlock.toList := by
  obtain ⟨i0, hif, hz0, hz1, hz2⟩ := info_parts infoInt7
  obtain ⟨_, _, e, hc⟩ := hy
  injection e with e1 _ e3
  subst e1 e3
  obtain ⟨b, off, rfl, hcell⟩ := hc hne
  obtain ⟨v1, w1, hr, hown, hgr, _, hat⟩ := run_append_own_at (P := Tryz.prog) w 0 58 0 3 i0 _ 1 8 Tryz.underlying58 hif hz0 hz1 hz2 rfl (by decide) v xs.length _ h ⟨b, off, none⟩ ys.length cap (ys.map iz) (by simp)
    (fun j u hu => by
      rw [List.getElem?_map] at hu
      obtain ⟨x, hx, rfl⟩ := Option.map_eq_some_iff.1 hu
      rw [Addr.add_mid]
      exact hcell j x hx) (fun u hu => by
      obtain ⟨x, _, rfl⟩ := List.mem_map.1 hu
      rfl) (by unfold maxLen; omega) (by omega) (Nat.zero_le _)
  rw [← List.map_append, ← List.length_append] at hown
  obtain ⟨ao2, cap2, rfl⟩ := own_slice hown
  refine ⟨ao2, cap2, w1, fun _ => hr, hown, (Ext.refl _ _).grown hgr (fun k hk => .inl (by simpa using hk)), fun k hk => ?_⟩
  have hk : (Value.slice ao2 (xs ++ ys).length cap2).ownBlock = some k := by simpa using hk
  rcases hat with e | e
  · exact .inl (by rw [← e, hk]; simp)
  · rw [e] at hk
    have := Option.some.inj hk
    exact .inr (by omega)
abbrev Zr := Option Addr × Nat × List Int
def RowsAt (w : World) (b : Nat) (Z : List Zr) : Prop := ∀ (i : Nat) (z : Zr), Z[i]? = some z → w.cell? ⟨b, i, none⟩ = some (.slice z.1 z.2.2.length z.2.1) ∧ IntsAt w (.slice z.1 z.2.2.length z.2.1) z.2.2 ∧ 0 < z.2.2.length
def flatZ (Z : List Zr) : List Int := Z.flatMap fun z => z.2.2
theorem flatZ_snoc (Z : List Zr) (z : Zr) : flatZ (Z ++ [z]) = flatZ Z ++ z.2.2 := by simp [flatZ]
set_option maxRecDepth 100000 in
set_option maxHeartbeats 8000000 in
theorem concat_walk (b cap : Nat) (Z : List Zr) (w : World) (h : RowsAt w b Z) (h4 : Z.length ≤ 100) (hl : (flatZ Z).length ≤ 100000) :
    Calls Tryz.prog 36 #[.slice (some ⟨b, 0, none⟩) Z.length cap] w (NewInts w (flatZ Z)) := by
  have H := Lib.hid h
  have hpre : ∀ k, (flatZ (Z.take k)).length ≤ (flatZ Z).length := fun k => by
    have e : flatZ Z = flatZ (Z.take k) ++ flatZ (Z.drop k) := by unfold flatZ; rw [← List.flatMap_append, List.take_append_drop]
    rw [e, List.length_append]; omega
  have HP := Lib.hid hpre
  clear h hpre
  go_enter Tryz.func36, Tryz.ntmps36
  go_wp2_with fail
  go_loopg [3, 11] Z.length (fun g sv iv wr => ∃ k : Nat, g + k = Z.length ∧ iv = .int .i64 k ∧ sv = .int .i64 ((flatZ (Z.take k)).length : Nat) ∧ w = wr)
  case atStart => exact ⟨0, by omega, rfl, rfl, rfl⟩
  case round =>
    obtain ⟨k, hk, rfl, rfl, rfl⟩ := hrel
    by_cases hlt : k < Z.length
    · obtain ⟨z, hz⟩ : ∃ z, Z[k]? = some z := ⟨_, List.getElem?_eq_getElem hlt⟩
      obtain ⟨c0, c1, c2⟩ := H.out k z hz
      have hs : (flatZ (Z.take (k + 1))).length = (flatZ (Z.take k)).length + z.2.2.length := by
        rw [take_snoc10 Z k z hz, flatZ_snoc, List.length_append]
      have hp := HP.out (k + 1)
      rw [hs] at hp
      have HS := Lib.hid hs
      clear hz c1 hs
      generalize (flatZ (Z.take k)).length = n at *
      generalize z.2.2.length = m at *
      have k1 : (k : Int) < (Z.length : Int) := by omega
      go_wp2_with fail
      go_roundg (Z.length - (k + 1))
      case measure => omega
      case rel => exact ⟨k + 1, by omega, by go_num, by rw [HS.out]; go_num, rfl⟩
    · obtain rfl : k = Z.length := by omega
      rw [List.take_length]
      obtain ⟨n, hn⟩ : ∃ n, (flatZ Z).length = n := ⟨_, rfl⟩
      rw [hn] at hl ⊢
      have HN := Lib.hid hn
      clear hn
      go_wp2_with fail
      refine (GrowI_walk n w (by omega)).mono ?_
      rintro e w1 ⟨ao, cap1, rfl, hx, hp, hf⟩
      have HS := Lib.hid ((Sep.start w).new hx (oSl 3 1 (.slice ao 0 cap1) (flatZ (Z.take 0)).length ((flatZ (Z.take 0)).map iz)) (by exact hp) hf)
      clear hx hp hf
      go_wp2_with fail
      go_loopg [6, 27] Z.length (fun g sv iv wr => ∃ (k : Nat) (ao : Option Addr) (cap1 : Nat), g + k = Z.length ∧ iv = .int .i64 k ∧ sv = .slice ao (flatZ (Z.take k)).length cap1 ∧ Sep w wr [oSl 3 1 (.slice ao (flatZ (Z.take k)).length cap1) (flatZ (Z.take k)).length ((flatZ (Z.take k)).map iz)])
      case atStart => exact ⟨0, ao, cap1, by omega, rfl, rfl, HS.out⟩
      case round =>
        clear HS
        obtain ⟨k, ao, cap1, hk, rfl, rfl, S⟩ := hrel
        by_cases hlt : k < Z.length
        · obtain ⟨z, hz⟩ : ∃ z, Z[k]? = some z := ⟨_, List.getElem?_eq_getElem hlt⟩
          obtain ⟨c0, c1, c2⟩ := H.out k z hz
          have d0 := Ext.cell S.ext c0
          have hs : flatZ (Z.take (k + 1)) = flatZ (Z.take k) ++ z.2.2 := by rw [take_snoc10 Z k z hz, flatZ_snoc]
          have hp := HP.out (k + 1)
          rw [hs, List.length_append] at hp
          have hrow : wr.ownsRow 0 3 1 (.slice ao (flatZ (Z.take k)).length cap1) (flatZ (Z.take k)).length ((flatZ (Z.take k)).map iz) := S.get 0 rfl
          obtain ⟨ao2, cap2, w2, hr, ho, hx, hf⟩ := app_ints wr _ (flatZ (Z.take k)) z.2.2 z.1 z.2.1 hrow (c1.ext S.ext) c2 (by have := HN.out; omega)
          rw [← hs] at ho hf hr
          have S2 := S.upd 0 (oSl 3 1 (.slice ao2 (flatZ (Z.take (k + 1))).length cap2) (flatZ (Z.take (k + 1))).length ((flatZ (Z.take (k + 1))).map iz)) rfl hx hf ho
          have HR := Lib.hid hr
          have HS := Lib.hid S2
          clear hz c0 c1 hs hp hrow hr ho hx hf S S2
          have k1 : (k : Int) < (Z.length : Int) := by omega
          obtain ⟨Y1, hY1⟩ : ∃ Y1, flatZ (Z.take (k + 1)) = Y1 := ⟨_, rfl⟩
          rw [hY1] at HR HS
          have HY := Lib.hid hY1
          clear hY1
          generalize (flatZ (Z.take k)).length = n0 at *
          generalize z.2.2.length = m at *
          go_wp2_with (at_builtin; refine wpList_plain rfl (fun K9 hK9 => wp_append_run _ _ _ _ rfl rfl rfl (HR.out _) (hK9 _ _ ?_)))
          go_roundg (Z.length - (k + 1))
          case measure => omega
          case rel => exact ⟨k + 1, ao2, cap2, by omega, by go_num, by rw [HY.out], by rw [HY.out]; exact HS.out⟩
        · obtain rfl : k = Z.length := by omega
          rw [List.take_length] at S ⊢
          have HS := Lib.hid S
          clear S
          go_wp2_with fail
          go_ret
          exact ⟨_, rfl, HS.out.ext, HS.out.get 0 rfl, HS.out.base _ (List.mem_cons_self ..)⟩
def NewPair (w : World) (l m : List Int) (e : Ending) (w' : World) : Prop := ∃ a1 k1 a2 k2, e = .returned (.tuple #[.slice a1 l.length k1, .slice a2 m.length k2]) ∧ Ext [] w w' ∧
  w'.ownsRow 0 3 1 (.slice a1 l.length k1) l.length (l.map iz) ∧ w'.ownsRow 0 3 1 (.slice a2 m.length k2) m.length (m.map iz) ∧ (∀ k ∈ (Value.slice a1 l.length k1).ownBlock.toList, w.heap.size ≤ k) ∧ (∀ k ∈ (Value.slice a2 m.length k2).ownBlock.toList, w.heap.size ≤ k)
theorem fix_flat (z1 z2 z3 z4 : Zr) (h1 : z1.2.2 = List.replicate 144 8) (h2 : z2.2.2 = List.replicate 112 9) (h3 : z3.2.2 = List.replicate 24 7) (h4 : z4.2.2 = List.replicate 8 8) : flatZ [z1, z2, z3, z4] = fixL := by
  simp only [flatZ, List.flatMap_cons, List.flatMap_nil, List.append_nil, h1, h2, h3, h4, fixL]
set_option maxRecDepth 100000 in
set_option maxHeartbeats 8000000 in
theorem fixed_walk (w : World) : Calls Tryz.prog 30 #[] w (NewPair w fixL fixD) := by
  have hL : fixL.length = 288 := by decide +kernel
  have hDl : fixD.length = 30 := by decide +kernel
  obtain ⟨X, hX⟩ : ∃ X, fixL = X := ⟨_, rfl⟩
  obtain ⟨Y, hY⟩ : ∃ Y, fixD = Y := ⟨_, rfl⟩
  rw [hX] at hL ⊢
  rw [hY] at hDl ⊢
  have HX := Lib.hid (⟨hX, hL, hY, hDl⟩ : _ ∧ _ ∧ _ ∧ _)
  clear hX hL hY hDl
  go_enter Tryz.func30, Tryz.ntmps30
  go_wp2_with fail
  refine (repeat1_walk 8 144 ⟨w.heap.size, 0, none⟩ 1 _ (by omega) (by omega) (cellOf (heap_alloc_at _) 0)).mono ?_
  rintro e w1 ⟨v1, rfl, hx, hp, hf⟩
  obtain ⟨a1, k1, rfl⟩ := own_slice hp
  have S := (Sep.start w).new (((Ext.refl [] w).alloc _).trans hx) (oSl 3 1 (.slice a1 (List.replicate 144 (8 : Int)).length k1) (List.replicate 144 (8 : Int)).length ((List.replicate 144 (8 : Int)).map iz)) hp (fun k hk => Nat.le_trans (by simp) (hf k hk))
  have HS := Lib.hid S
  clear S hx hp hf
  go_wp2_with fail
  refine (repeat1_walk 9 112 ⟨w1.heap.size, 0, none⟩ 1 _ (by omega) (by omega) (cellOf (heap_alloc_at _) 0)).mono ?_
  rintro e w2 ⟨v1, rfl, hx, hp, hf⟩
  obtain ⟨a2, k2, rfl⟩ := own_slice hp
  have S := HS.out.new (((Ext.refl [] w1).alloc _).trans hx) (oSl 3 1 (.slice a2 (List.replicate 112 (9 : Int)).length k2) (List.replicate 112 (9 : Int)).length ((List.replicate 112 (9 : Int)).map iz)) hp (fun k hk => Nat.le_trans (by simp) (hf k hk))
  clear HS
  have HS := Lib.hid S
  clear S hx hp hf
  go_wp2_with fail
  refine (repeat1_walk 7 24 ⟨w2.heap.size, 0, none⟩ 1 _ (by omega) (by omega) (cellOf (heap_alloc_at _) 0)).mono ?_
  rintro e w3 ⟨v1, rfl, hx, hp, hf⟩
  obtain ⟨a3, k3, rfl⟩ := own_slice hp
  have S := HS.out.new (((Ext.refl [] w2).alloc _).trans hx) (oSl 3 1 (.slice a3 (List.replicate 24 (7 : Int)).length k3) (List.replicate 24 (7 : Int)).length ((List.replicate 24 (7 : Int)).map iz)) hp (fun k hk => Nat.le_trans (by simp) (hf k hk))
  clear HS
  have HS := Lib.hid S
  clear S hx hp hf
  go_wp2_with fail
  refine (repeat1_walk 8 8 ⟨w3.heap.size, 0, none⟩ 1 _ (by omega) (by omega) (cellOf (heap_alloc_at _) 0)).mono ?_
  rintro e w4 ⟨v1, rfl, hx, hp, hf⟩
  obtain ⟨a4, k4, rfl⟩ := own_slice hp
  have S := HS.out.new (((Ext.refl [] w3).alloc _).trans hx) (oSl 3 1 (.slice a4 (List.replicate 8 (8 : Int)).length k4) (List.replicate 8 (8 : Int)).length ((List.replicate 8 (8 : Int)).map iz)) hp (fun k hk => Nat.le_trans (by simp) (hf k hk))
  clear HS
  have HS := Lib.hid S
  clear S hx hp hf
  have hrow : RowsAt (w4.alloc (.cells #[.slice a1 144 k1, .slice a2 112 k2, .slice a3 24 k3, .slice a4 8 k4] 58)) w4.heap.size [(a1, k1, List.replicate 144 8), (a2, k2, List.replicate 112 9), (a3, k3, List.replicate 24 7), (a4, k4, List.replicate 8 8)] := by
    have hx : Ext [] w4 (w4.alloc (.cells #[.slice a1 144 k1, .slice a2 112 k2, .slice a3 24 k3, .slice a4 8 k4] 58)) := (Ext.refl [] w4).alloc _
    have g1 := IntsAt.of_own (HS.out.get 3 rfl)
    have g2 := IntsAt.of_own (HS.out.get 2 rfl)
    have g3 := IntsAt.of_own (HS.out.get 1 rfl)
    have g4 := IntsAt.of_own (HS.out.get 0 rfl)
    intro i z hz
    match i, hz with
    | 0, hz => obtain rfl := Option.some.inj hz; exact ⟨cellOf (heap_alloc_at _) 0, g1.ext hx, by simp⟩
    | 1, hz => obtain rfl := Option.some.inj hz; exact ⟨cellOf (heap_alloc_at _) 1, g2.ext hx, by simp⟩
    | 2, hz => obtain rfl := Option.some.inj hz; exact ⟨cellOf (heap_alloc_at _) 2, g3.ext hx, by simp⟩
    | 3, hz => obtain rfl := Option.some.inj hz; exact ⟨cellOf (heap_alloc_at _) 3, g4.ext hx, by simp⟩
    | n + 4, hz => cases hz
  have hfl : flatZ [(a1, k1, List.replicate 144 8), (a2, k2, List.replicate 112 9), (a3, k3, List.replicate 24 7), (a4, k4, List.replicate 8 8)] = X := (fix_flat _ _ _ _ rfl rfl rfl rfl).trans HX.out.1
  have hcc := concat_walk w4.heap.size 4 _ _ hrow (Nat.le_of_ble_eq_true rfl) (by rw [hfl]; have := HX.out.2.1; omega)
  rw [hfl] at hcc
  clear hrow hfl
  have HC := Lib.hid hcc
  clear hcc
  go_wp2_with fail
  refine HC.out.mono ?_
  rintro e w5 ⟨v5, rfl, hx, hp, hf⟩
  obtain ⟨a5, k5, rfl⟩ := own_slice hp
  have S := HS.out.new (((Ext.refl [] w4).alloc _).trans hx) (oSl 3 1 (.slice a5 X.length k5) X.length (X.map iz)) hp (fun k hk => Nat.le_trans (by simp) (hf k hk))
  clear HS HC
  have HS := Lib.hid S
  clear S hx hp hf
  go_wp2_with fail
  refine (repeat1_walk 5 30 ⟨w5.heap.size, 0, none⟩ 1 _ (by omega) (by omega) (cellOf (heap_alloc_at _) 0)).mono ?_
  rintro e w6 ⟨v6, rfl, hx, hp, hf⟩
  have hfd : List.replicate 30 (5 : Int) = Y := HX.out.2.2.1
  rw [hfd] at hp
  obtain ⟨a6, k6, rfl⟩ := own_slice hp
  have S := HS.out.new (((Ext.refl [] w5).alloc _).trans hx) (oSl 3 1 (.slice a6 Y.length k6) Y.length (Y.map iz)) hp (fun k hk => Nat.le_trans (by simp) (hf k hk))
  clear HS
  have HS := Lib.hid S
  clear S hx hp hf hfd
  go_wp2_with fail
  go_ret2
  exact ⟨a5, k5, a6, k6, rfl, HS.out.ext, HS.out.get 1 rfl, HS.out.get 0 rfl, HS.out.base _ (List.mem_cons_of_mem _ (List.mem_cons_self ..)), HS.out.base _ (List.mem_cons_self ..)⟩
end Go.Proofs.YtnapnaaejignaaaGreat.If

/-! InK: inflate: a region whose middle may panic; table, full, few, order, fixed walked. -/
namespace Go.Proofs.YtnapnaaejignaaaGreat
open Go.RowKit
/-- a post that asks nothing of a panicking frame's slots -/
def PanicAny (Q : Exit → Act → World → Prop) : Exit → Act → World → Prop
  | .panic c, a, w => ∀ a' : Act, a'.defers = a.defers → Q (.panic c) a' w
  | e, a, w => Q e a w
theorem PanicAny.normal {Q : Exit → Act → World → Prop} {a : Act} {w : World} (h : Q .normal a w) : PanicAny Q .normal a w := h
theorem PanicAny.imp {Q : Exit → Act → World → Prop} : ∀ (e : Exit) (a : Act) (w : World), PanicAny Q e a w → Q e a w := fun e a w h => by
  cases e <;> first | exact h | exact h a rfl
theorem PanicAny.put {Q : Exit → Act → World → Prop} : ∀ c a d v w, PanicAny Q (.panic c) (Act.put a d v) w → PanicAny Q (.panic c) a w := fun c a d v w h a' ha => h a' (by rw [ha]; cases d <;> rfl)
section
variable {P : Program} {C : World → Prop} {Q : Exit → Act → World → Prop}
theorem wpAny_midP {a : Act} {w : World} {l : List Oper} (n r : Nat) (hB : midB l.toArray n r = true) (hC : C { w with drawn := w.drawn + 1 })
    (h : wpQuiet P l.toArray C (fun a' => midW P l.toArray (PanicAny Q) C (l.drop (n + r)) ((l.drop n).take r) a' w.drew) (l.take n) a) : wpAny P .any l.toArray (PanicAny Q) l.toArray.size (Array.replicate l.toArray.size false) a { w with drawn := w.drawn + 1 } := by
  simp only [midB, Bool.and_eq_true, decide_eq_true_eq] at hB
  obtain ⟨⟨⟨⟨⟨hsel, hn⟩, hs⟩, hc⟩, hno⟩, hlex⟩ := hB
  have hn' : n + r < l.length := by simpa using hn
  have htl : (l.take n).length = n := by simp; omega
  have hml : ((l.drop n).take r).length = r := by simp; omega
  have hdl : (l.drop (n + r)).length = l.toArray.size - (n + r) := by simp
  have H := anyC_lex (P := P) (ops := l.toArray) (md := .any) (Q := PanicAny Q) (C := C) (m := n + r) (r := r)
    (L := fun listed' a' w' => Region.seqB .any l.toArray (l.toArray.size - (n + r)) (n + r) listed' = true ∧ wpList P l.toArray (PanicAny Q) (l.drop (n + r)) a' w')
    hC PanicAny.put hsel hs hc hn (fun _ _ _ hL => seqB_ready hL.1) (r + (l.toArray.size - (n + r)))
    (fun listed a' hB' h' => by
      have := anyC_mid (P := P) (ops := l.toArray) (md := .any) (Q := PanicAny Q) (C := C) (m := n + r) (g := l.toArray.size - (n + r)) (late := l.drop (n + r)) ((l.drop n).take r) n listed a' { w with drawn := w.drawn + 1 }
        (fun j hj => by rw [hml] at hj; simp [hj, List.getElem?_drop]) (by rw [hml]) (by rw [hml]; rw [show n + r - r = n by omega] at hB'; exact hB') h'
      rw [hml] at this
      exact this)
    (l.take n) 0 (Array.replicate l.toArray.size false) a (fun j hj => by rw [htl] at hj; simp [hj]) (fun o ho => List.all_eq_true.1 hno o (by simpa using ho)) (by rw [htl]; omega) (headInv_start l (n + r)) (by rw [htl]; exact hlex) h
  have := wpAny_of_anyC (Q := PanicAny Q) (g := l.toArray.size - (n + r)) (fun listed a' w' hL => by
    have := wpAny_of_seq (md := .any) (Q' := PanicAny Q) (l.drop (n + r)) (n + r) listed a' w' (fun j => by simp [List.getElem?_drop]) (by rw [hdl]; exact hL.1) hL.2
    rwa [hdl] at this) _ _ _ _ H
  rw [htl, show n + r + (l.toArray.size - (n + r)) = l.toArray.size by omega] at this
  exact this
theorem wp_region_midP {id : Nat} {a : Act} {w : World} {l : List Oper} (n r : Nat) (hm : P.follows .mixedOrders = true) (hB : midB l.toArray n r = true) (hC : C { w with drawn := w.drawn + 1 })
    (h : wpQuiet P l.toArray C (fun a' => midW P l.toArray (PanicAny Q) C (l.drop (n + r)) ((l.drop n).take r) a' w.drew) (l.take n) a) : (Code.region id l.toArray true).wp P Q a w :=
  Code.wp_mono PanicAny.imp (wp_region_any hm (wpAny_midP n r hB hC h))
end
theorem Sep.tl {w0 w : World} {a : Ob} {l : List Ob} (h : Sep w0 w (a :: l)) : Sep w0 w l :=
  ⟨h.ext, fun o ho => h.each o (List.mem_cons_of_mem _ ho), fun o ho => h.base o (List.mem_cons_of_mem _ ho), fun i j o o' hi hj hij => h.apart (i + 1) (j + 1) o o' (by simpa using hi) (by simpa using hj) (by omega)⟩
end Go.Proofs.YtnapnaaejignaaaGreat
namespace Go.Proofs.YtnapnaaejignaaaGreat.If
open Go.RowKit Bt Hu

def GotTab (w : World) (l : List Int) (e : Ending) (w' : World) : Prop :=
  ∃ tb F, e = .returned (.pointer (some ⟨tb, 0, none⟩)) ∧ Ext [] w w' ∧ (oTab tb F l).P w' ∧ ∀ k ∈ F, w.heap.size ≤ k
set_option maxRecDepth 100000 in
set_option maxHeartbeats 4000000 in
theorem table_walk (v : Value) (l : List Int) (w : World) (hv : IntsArg w v l) (he : codesE l = 0) :
    Calls Tryz.prog 93 #[v] w (GotTab w l) := by
  have HN := Lib.hid (new_walk v l w hv he)
  clear hv he
  go_enter Tryz.func93, Tryz.ntmps93
  go_wp2_with fail
  refine HN.out.mono ?_
  rintro e w1 ⟨tb, F, rfl, hx, hp, hf⟩
  have HH := Lib.hid (⟨hx, hp, hf⟩ : _ ∧ _ ∧ _)
  clear hx hp hf
  go_wp2_with fail
  refine (check_ok w1).mono ?_
  rintro e w2 ⟨rfl, rfl⟩
  go_wp2_with fail
  go_ret
  exact ⟨tb, F, rfl, HH.out⟩
set_option maxRecDepth 100000 in
set_option maxHeartbeats 4000000 in
theorem full_walk (v : Value) (l : List Int) (w : World) (hv : IntsAt w v l) (hl : l.length ≤ 1048576) :
    Calls Tryz.prog 95 #[v] w fun e w' => e = .returned (.bool (fullB l)) ∧ Ext [] w w' := by
  have HN := state_walk v l w hv hl
  obtain ⟨S, hS⟩ : ∃ S, stateN l = S := ⟨_, rfl⟩
  have hfb : fullB l = (decide (S.2 = 0) && decide (S.1 = 0)) := by
    unfold fullB
    rw [hS, ← Bool.decide_and]
    exact decide_eq_decide.2 ⟨fun h => by subst h; exact ⟨rfl, rfl⟩, fun h => Prod.ext h.2 h.1⟩
  rw [hS] at HN
  rw [hfb]
  have HN := Lib.hid HN
  obtain ⟨s1, s2⟩ := S
  clear hv hfb hS
  simp only at HN ⊢
  by_cases h2 : s2 = 0
  · subst h2
    by_cases h1 : s1 = 0
    · subst h1
      go_enter Tryz.func95, Tryz.ntmps95
      go_wp2_with fail
      refine HN.out.mono ?_
      rintro e w1 ⟨rfl, hx⟩
      go_wp2_with fail
      go_ret
      exact ⟨by simp, hx⟩
    · have hb : (s1 == 0) = false := beq_eq_false_iff_ne.2 h1
      go_enter Tryz.func95, Tryz.ntmps95
      go_wp2_with fail
      refine HN.out.mono ?_
      rintro e w1 ⟨rfl, hx⟩
      go_wp2_with fail
      go_ret
      exact ⟨by simp [h1], hx⟩
  · have hb : (s2 == 0) = false := beq_eq_false_iff_ne.2 h2
    go_enter Tryz.func95, Tryz.ntmps95
    go_wp2_with fail
    refine HN.out.mono ?_
    rintro e w1 ⟨rfl, hx⟩
    go_wp2_with fail
    go_ret
    exact ⟨by simp [h2], hx⟩
theorem sum_bd (l : List Int) (h : ∀ x ∈ l, 0 ≤ x ∧ x ≤ 1000) : 0 ≤ l.sum ∧ l.sum ≤ 1000 * (l.length : Int) := by
  induction l with
  | nil => simp
  | cons x l ih =>
    have h1 := h x (by simp)
    have h2 := ih fun y hy => h y (by simp [hy])
    simp only [List.sum_cons, List.length_cons]
    omega
set_option maxRecDepth 100000 in
set_option maxHeartbeats 4000000 in
theorem few_walk (v : Value) (l : List Int) (w : World) (hv : IntsAt w v l) (hl : l.length ≤ 1000) (hb : ∀ x ∈ l, 0 ≤ x ∧ x ≤ 1000) :
    Calls Tryz.prog 97 #[v] w fun e w' => e = .returned (.bool (fewB l)) ∧ w = w' := by
  have hbd : ∀ k, 0 ≤ (l.take k).sum ∧ (l.take k).sum ≤ 1000000 := fun k => by
    have := sum_bd (l.take k) fun x hx => hb x (List.mem_of_mem_take hx)
    have h2 : (l.take k).length ≤ l.length := by rw [List.length_take]; omega
    omega
  obtain ⟨ao, cap, rfl, hc⟩ := hv
  have HB := Lib.hid hbd
  have HC := Lib.hid hc
  clear hb hbd hc
  go_enter Tryz.func97, Tryz.ntmps97
  go_wp2_with fail
  go_loopg [3, 8] l.length (fun g sv iv wr => ∃ k : Nat, g + k = l.length ∧ iv = .int .i64 k ∧ sv = .int .i64 (l.take k).sum ∧ w = wr)
  case atStart => exact ⟨0, by omega, rfl, rfl, rfl⟩
  case round =>
    obtain ⟨k, hk, rfl, rfl, rfl⟩ := hrel
    by_cases hlt : k < l.length
    · obtain ⟨b, off, rfl, hcell⟩ := HC.out (by omega)
      obtain ⟨x, hx⟩ : ∃ x, l[k]? = some x := ⟨_, List.getElem?_eq_getElem hlt⟩
      have c0 := hcell k x hx
      have hs : (l.take (k + 1)).sum = (l.take k).sum + x := by rw [take_snoc10 l k x hx, List.sum_append]; simp
      have h1 := HB.out k
      have h2 := HB.out (k + 1)
      rw [hs] at h2
      have HS := Lib.hid hs
      clear hcell hx hs
      obtain ⟨y, hy⟩ : ∃ y, (l.take k).sum = y := ⟨_, rfl⟩
      rw [hy] at h1 h2 ⊢
      have HY := Lib.hid hy
      clear hy
      have k1 : (k : Int) < (l.length : Int) := by omega
      go_wp2_with fail
      go_roundg (l.length - (k + 1))
      case measure => omega
      case rel => exact ⟨k + 1, by omega, by go_num, by rw [HS.out, HY.out], rfl⟩
    · obtain rfl : k = l.length := by omega
      rw [List.take_length]
      by_cases h1 : l.sum ≤ 1
      · go_wp2_with fail
        go_ret
        exact ⟨by unfold fewB; simp [h1], rfl⟩
      · have h1' : 1 < l.sum := by omega
        go_wp2_with fail
        go_ret
        exact ⟨by unfold fewB; simp [h1], rfl⟩
theorem fix_codes : codesE fixL = 0 ∧ codesE fixD = 0 := by decide +kernel
theorem fix_len : fixL.length = 288 ∧ fixD.length = 30 := by decide +kernel
section
variable {w0 w : World} {L : List Ob} {j ub rb : Nat} {F : List Nat} {s : ByteArray} {B p : Nat} {out : List Nat}
theorem Pst.drop {α : Type} {o : Ob} {e : Ending} {w' : World} {enc : α → Value} {R : Rs α} (h : Pst w0 (o :: L) (j + 1) ub rb s B enc R e w') : Pst w0 L j ub rb s B enc R e w' := by
  cases R with
  | ok a p out => obtain ⟨h1, F, S⟩ := h; exact ⟨h1, F, S.tl⟩
  | er er out => obtain ⟨h1, F, p, S⟩ := h; exact ⟨h1, F, p, S.tl⟩
set_option maxRecDepth 100000 in
set_option maxHeartbeats 8000000 in
theorem a_fixed (hj : j < L.length) (S : Sep w0 w (L.set j (oRun ub rb F s B p out))) (hs : s.size ≤ 1048576) (hp : p ≤ 8 * s.size) (hB : B ≤ 1099511627776) :
    Calls Tryz.prog 69 #[.pointer (some ⟨ub, 0, none⟩)] w (Pst w0 L j ub rb s B unit9 (codedR s B fixL fixD p out)) := by
  obtain ⟨hc1, hc2⟩ := fix_codes
  obtain ⟨hl1, hl2⟩ := fix_len
  have HS := Lib.hid S
  obtain ⟨X, hX⟩ : ∃ X, fixL = X := ⟨_, rfl⟩
  obtain ⟨Y, hY⟩ : ∃ Y, fixD = Y := ⟨_, rfl⟩
  have hfw := fixed_walk w
  rw [hX, hY] at hfw
  rw [hX] at hc1 hl1 ⊢
  rw [hY] at hc2 hl2 ⊢
  have HW := Lib.hid (⟨hfw, hc1, hc2, hl1, hl2⟩ : _ ∧ _ ∧ _ ∧ _ ∧ _)
  clear S hX hY hfw hc1 hc2 hl1 hl2
  go_enter Tryz.func69, Tryz.ntmps69
  go_wp2_with fail
  refine HW.out.1.mono ?_
  rintro e w1 ⟨a1, k1, a2, k2, rfl, hx, h1, h2, h3, h4⟩
  have HS := Lib.hid (HS.out.quiet hx)
  have H1 := Lib.hid (⟨IntsArg.of_own h1, IntsArg.of_own h2⟩ : _ ∧ _)
  clear hx h1 h2 h3 h4
  go_wp2_with fail
  refine (table_walk _ X w1 H1.out.1 HW.out.2.1).mono ?_
  rintro e w2 ⟨t1, F1, rfl, hx, hp1, hf1⟩
  have HS := Lib.hid (HS.out.new hx (oTab t1 F1 X) hp1 hf1)
  have H2 := Lib.hid (H1.out.2.ext hx)
  clear hx hp1 hf1
  go_wp2_with fail
  refine (table_walk _ Y w2 H2.out HW.out.2.2.1).mono ?_
  rintro e w3 ⟨t2, F2, rfl, hx, hp1, hf1⟩
  have HS := Lib.hid (HS.out.new hx (oTab t2 F2 Y) hp1 hf1)
  clear hx hp1 hf1
  go_wp2_with fail
  refine (a_coded (L := oTab t2 F2 Y :: oTab t1 F1 X :: L) (j := j + 2) 1 0 (by omega) (by omega) (by simp; omega) rfl rfl HS.out (by have := HW.out.2.2.2.1; omega) (by have := HW.out.2.2.2.2; omega) hs hp hB).mono ?_
  intro e w4 h
  have h := Pst.drop (Pst.drop h)
  cases hR : codedR s B X Y p out with
  | er er o =>
    rw [hR] at h
    obtain ⟨rfl, F', p', S⟩ := h
    have HR := Lib.hid hR
    clear hR
    go_wp2_with fail
    exact ⟨rfl, Pst.er rfl rfl F' S⟩
  | ok u q o =>
    rw [hR] at h
    obtain ⟨rfl, F', S⟩ := h
    have HS := Lib.hid S
    have HR := Lib.hid hR
    clear S hR
    go_wp2_with fail
    go_end0
    exact Pst.ok HR.out rfl F' HS.out
end
end Go.Proofs.YtnapnaaejignaaaGreat.If

/-! InL: inflate: an append of noughts; row walked. -/
namespace Go.Proofs.YtnapnaaejignaaaGreat.If
open Go.RowKit Bt Hu

theorem z_cells : (Value.int .i64 0).cells = #[.int .i64 0] := rfl
theorem zero_cells (k : Nat) : Builtin.zeroCells (Value.int .i64 0).cells k = ((List.replicate k (0 : Int)).map iz).toArray := by
  rw [z_cells]
  apply Array.ext
  · rw [size_zeroCells]
    simp
  · intro i h1 h2
    simp [Builtin.zeroCells]
    rw [Nat.mod_one]
    rfl
theorem app_zeros (w : World) (v : Value) (xs : List Int) (k : Nat) (h : w.ownsRow 0 3 1 v xs.length (xs.map iz)) (h0 : 0 < k) (hl : xs.length + k ≤ 1048576) :
    ∃ ao2 cap2 w2, (∀ ty, (Builtin.append_ #[58, 3] ty #[v, .int .i64 (k : Int)]).run Tryz.prog w = .ok (.slice ao2 (xs ++ List.replicate k 0).length cap2) w2) ∧ w2.ownsRow 0 3 1 (.slice ao2 (xs ++ List.replicate k 0).length cap2) (xs ++ List.replicate k 0).length ((xs ++ List.replicate k 0).map iz) ∧ Ext v.ownBlock.toList w w2 ∧ Fr w v.ownBlock.toList (Value.slice ao2 (xs ++ List.replicate k 0).length cap2).ownBlock.toList := by
  obtain ⟨i0, hif, hz0, hz1, hz2⟩ := info_parts infoInt7
  have e1 : (xs ++ List.replicate k 0).length = xs.length + k := by simp
  have e2 : (xs ++ List.replicate k 0).map iz = xs.map iz ++ (List.replicate k (0 : Int)).map iz := by simp
  rw [e1, e2]
  have hml : xs.length + k ≤ maxLen := by unfold maxLen; omega
  have grown : ∀ (old : Nat), old < xs.length + k →
      (w.drew.alloc (.cells ((xs.map iz).toArray ++ Builtin.zeroCells (Value.int .i64 0).cells k ++ Builtin.zeroCells (Value.int .i64 0).cells (grownCap w (xs.length + k) old 3 - (xs.length + k))) 3)).ownsRow 0 3 1
        (.slice (some ⟨w.heap.size, 0, none⟩) (xs.length + k) (grownCap w (xs.length + k) old 3)) (xs.length + k) (xs.map iz ++ (List.replicate k (0 : Int)).map iz) := by
    intro old ho
    have hge := grownCap_ge w (xs.length + k) old 3
    have hcm : grownCap w (xs.length + k) old 3 ≤ maxLen := grownCap_le_maxLen w (xs.length + k) old 3 hml
    refine ⟨by simp, .inr ⟨w.heap.size, _, _, rfl, Nat.zero_le _, heap_alloc_new w.drew _, hge, hcm, ?_, ?_⟩⟩
    · simp only [Array.size_append, List.size_toArray, size_zeroCells, List.length_map, z_cells]
      simp
      omega
    · rw [zero_cells]
      simp only [Array.toList_append, List.append_assoc]
      rw [← List.append_assoc]
      exact List.take_left' (by simp)
  have gcell := h.2
  rcases h.2 with ⟨rfl, hn⟩ | ⟨g, cap, cur, rfl, _, hg, hnc, hcm, hcs, htake⟩
  · obtain rfl : xs = [] := List.eq_nil_of_length_eq_zero hn
    have hr : ∀ ty, (Builtin.append_ #[58, 3] ty #[.slice none 0 0, .int .i64 (k : Int)]).run Tryz.prog w = .ok (.slice (some ⟨w.heap.size, 0, none⟩) (0 + k) (grownCap w (0 + k) 0 3))
        (w.drew.alloc (.cells ((([] : List Int).map iz).toArray ++ Builtin.zeroCells (Value.int .i64 0).cells k ++ Builtin.zeroCells (Value.int .i64 0).cells (grownCap w (0 + k) 0 3 - (0 + k))) 3)) := fun ty =>
      Lib.run_append_grow_zeros (P := Tryz.prog) w 58 3 ty 3 i0 (.int .i64 0) .i64 .i64 Tryz.underlying58 Tryz.underlying3 hif hz0 none 0 0 [] (run_firstCells_none w.drew i0.size 0 0 0) k (by omega) (by omega) (by omega) (by omega)
        (by rw [hz2]; omega) (growslice_fits (by omega) (by rw [hz2]; simp at hl; omega))
    exact ⟨_, _, _, hr, grown 0 (by simp; omega), ((Ext.refl _ w).drew).alloc _, fun q hq => .inr (by simp [Value.ownBlock] at hq; omega)⟩
  · by_cases hroom : xs.length + k ≤ cap
    · have hcs' : cur.size = cap := by simpa using hcs
      have hst := run_storeCells_at Tryz.prog g xs.length 3 ((List.replicate k (0 : Int)).map iz) 0 cur w hg (by simp; omega) (by simp [Value.oneCell'])
      simp only [Nat.add_zero] at hst
      have hw : IntKind.i64.wrap (k : Int) = k := by rw [IntKind.wrap_i64]; omega
      have hneg : ¬ ((k : Int) < 0) := by omega
      have h48i : ¬ (281474976710656 < (k : Int) * (i0.bytes : Int)) := by rw [hz2]; omega
      have hk0 : k ≠ 0 := by omega
      have hzc := zero_cells k
      have hr : ∀ ty, (Builtin.append_ #[58, 3] ty #[.slice (some ⟨g, 0, none⟩) xs.length cap, .int .i64 (k : Int)]).run Tryz.prog w = .ok (.slice (some ⟨g, 0, none⟩) (xs.length + k) cap)
          (w.setRow g (cur.toList.take xs.length ++ (List.replicate k (0 : Int)).map iz ++ cur.toList.drop (xs.length + ((List.replicate k (0 : Int)).map iz).length)).toArray) := fun ty => by
        simp only [Builtin.append_]
        simp [run_underlying Tryz.underlying58, run_underlying Tryz.underlying3, sizeOf, typeInfo, zeroValue, hif, hz0, hz1, asInt, asIntOf, hw, hneg, h48i, hroom, hk0, Addr.add_lit]
        rw [hzc]
        simp at hst
        rw [List.toList_toArray, List.map_replicate, hst]
        rfl
      refine ⟨_, _, _, hr, ⟨by simp, .inr ⟨g, cap, _, rfl, Nat.zero_le _, setRow_heap w g cur _ 3 _ hg, hroom, hcm, ?_, ?_⟩⟩, ⟨rfl, rfl, rfl, by simp, fun q _ hq => setRow_other w g q _ (by simpa [Value.ownBlock] using hq)⟩, fun q hq => .inl (by simpa [Value.ownBlock] using hq)⟩
      · simp only [List.size_toArray, List.length_append, List.length_take, List.length_drop, Array.length_toList, List.length_map, List.length_replicate]
        omega
      · rw [Nat.mul_one] at htake
        rw [Nat.mul_one, htake]
        exact List.take_left' (by simp)
    · have holds : ∀ j u, (xs.map iz)[j]? = some u → w.cell? ((⟨g, 0, none⟩ : Addr).add j) = some u := h.cells (g := g) rfl
      have hr : ∀ ty, (Builtin.append_ #[58, 3] ty #[.slice (some ⟨g, 0, none⟩) xs.length cap, .int .i64 (k : Int)]).run Tryz.prog w = .ok (.slice (some ⟨w.heap.size, 0, none⟩) (xs.length + k) (grownCap w (xs.length + k) cap 3))
          (w.drew.alloc (.cells ((xs.map iz).toArray ++ Builtin.zeroCells (Value.int .i64 0).cells k ++ Builtin.zeroCells (Value.int .i64 0).cells (grownCap w (xs.length + k) cap 3 - (xs.length + k))) 3)) := fun ty =>
        Lib.run_append_grow_zeros (P := Tryz.prog) w 58 3 ty 3 i0 (.int .i64 0) .i64 .i64 Tryz.underlying58 Tryz.underlying3 hif hz0 (some ⟨g, 0, none⟩) xs.length cap (xs.map iz)
          (run_firstCells_some w.drew i0.size xs.length ⟨g, 0, none⟩ xs.length cap (xs.map iz) (by simp [hz1]) holds) k (by omega) (by omega) (by omega) (by omega) (by rw [hz2]; omega) (growslice_fits (by omega) (by rw [hz2]; omega))
      exact ⟨_, _, _, hr, grown cap (by omega), ((Ext.refl _ w).drew).alloc _, fun q hq => .inr (by simp [Value.ownBlock] at hq; omega)⟩
end Go.Proofs.YtnapnaaejignaaaGreat.If

/-! InM: inflate: row walked. -/
namespace Go.Proofs.YtnapnaaejignaaaGreat.If
open Go.RowKit Bt Hu

abbrev oIn (ao : Option Addr) (cap : Nat) (l : List Int) : Ob := oSl 3 1 (.slice ao l.length cap) l.length (l.map iz)
/-- what a call on the run leaves that makes a row of numbers -/
def PstI (w0 : World) (L : List Ob) (j ub rb : Nat) (s : ByteArray) (B : Nat) (R : Rs (List Int)) (e : Ending) (w' : World) : Prop :=
  match R with
  | .ok l p out => ∃ ao cap, e = .returned (.slice ao l.length cap) ∧ ∃ F, Sep w0 w' (oIn ao cap l :: L.set j (oRun ub rb F s B p out))
  | .er er out => e = .panicked [giveV er] ∧ ∃ F p, Sep w0 w' (L.set j (oRun ub rb F s B p out))
theorem PstI.ok {w0 w' : World} {L : List Ob} {j ub rb : Nat} {s : ByteArray} {B : Nat} {R : Rs (List Int)} {l : List Int} {p : Nat} {out : List Nat} {e : Ending} {ao : Option Addr} {cap : Nat} (hR : R = .ok l p out) (he : e = .returned (.slice ao l.length cap)) (F : List Nat) (S : Sep w0 w' (oIn ao cap l :: L.set j (oRun ub rb F s B p out))) : PstI w0 L j ub rb s B R e w' := by
  subst hR; exact ⟨ao, cap, he, F, S⟩
theorem PstI.er {w0 w' : World} {L : List Ob} {j ub rb : Nat} {s : ByteArray} {B : Nat} {R : Rs (List Int)} {er : Int} {p : Nat} {out : List Nat} {e : Ending} (hR : R = .er er out) (he : e = .panicked [giveV er]) (F : List Nat) (S : Sep w0 w' (L.set j (oRun ub rb F s B p out))) : PstI w0 L j ub rb s B R e w' := by
  subst hR; exact ⟨he, F, p, S⟩
/-- more numbers behind a row that stands first -/
theorem sep_more {w0 w w2 : World} {l : List Int} {ao : Option Addr} {cap : Nat} {L : List Ob} (S : Sep w0 w (oIn ao cap l :: L)) {ao2 : Option Addr} {cap2 : Nat} {m : List Int}
    (ho : w2.ownsRow 0 3 1 (.slice ao2 m.length cap2) m.length (m.map iz)) (hx : Ext (Value.slice ao l.length cap).ownBlock.toList w w2) (hf : Fr w (Value.slice ao l.length cap).ownBlock.toList (Value.slice ao2 m.length cap2).ownBlock.toList) : Sep w0 w2 (oIn ao2 cap2 m :: L) :=
  S.upd 0 (oIn ao2 cap2 m) rfl hx hf ho
section
variable {w0 w : World} {L : List Ob} {j ub rb : Nat} {F : List Nat} {s : ByteArray} {B p : Nat} {out : List Nat}
set_option maxRecDepth 100000 in
set_option maxHeartbeats 16000000 in
theorem a_row (i n : Nat) {tb : Nat} {Ft : List Nat} {D : List Int} (hij : i ≠ j) (hj : j < L.length) (hT : L[i]? = some (oTab tb Ft D)) (S : Sep w0 w (L.set j (oRun ub rb F s B p out))) (hD : D.length ≤ 288) (hs : s.size ≤ 1048576) (hp : p ≤ 8 * s.size) (hn : n ≤ 1000) :
    Calls Tryz.prog 96 #[.pointer (some ⟨ub, 0, none⟩), .pointer (some ⟨tb, 0, none⟩), .int .i64 n] w (PstI w0 L j ub rb s B (rowF s D n (8 * s.size - p + 2) [] p out)) := by
  have HS := Lib.hid (S.new (Ext.refl _ _) (oIn none 0 []) (World.ownsRow_nil _ _ _ _) (by simp [oIn, oSl, Value.ownBlock]))
  have HT := Lib.hid hT
  obtain ⟨R, hR⟩ : ∃ R, rowF s D n (8 * s.size - p + 2) [] p out = R := ⟨_, rfl⟩
  rw [hR]
  have HR := Lib.hid hR
  clear S hT hR
  go_enter Tryz.func96, Tryz.ntmps96
  go_wp2_with fail
  go_loopg [7] (8 * s.size - p + 2) (fun g lv wr => ∃ (p : Nat) (F' out : List Nat) (ao : Option Addr) (cap : Nat) (l : List Int), p ≤ 8 * s.size ∧ 8 * s.size - p < g ∧ lv = .slice ao l.length cap ∧ l.length ≤ n + 138 ∧ rowF s D n g l p out = R ∧ Sep w0 wr (oIn ao cap l :: L.set j (oRun ub rb F' s B p out)))
  case atStart => exact ⟨p, F, out, none, 0, [], hp, by omega, rfl, by simp, HR.out, HS.out⟩
  case round =>
    clear HS HR hp
    obtain ⟨p, F', out, ao, cap, l, hp, hpg, rfl, hl, hR, S⟩ := hrel
    have HS := Lib.hid S
    clear S
    obtain ⟨g, rfl⟩ : ∃ g, gk = g + 1 := ⟨gk - 1, by omega⟩
    rw [rowF] at hR
    by_cases hlt : l.length < n
    · rw [if_pos hlt] at hR
      have k1 : (l.length : Int) < (n : Int) := by omega
      cases h1 : symR s D p out with
      | er e1 o1 =>
        rw [h1, Rs.bind_er] at hR
        have HH := Lib.hid (⟨h1, hR⟩ : _ ∧ _)
        clear h1 hR
        go_wp2_with fail
        refine (a_sym (L := oIn ao cap l :: L) (j := j + 1) (i + 1) (by omega) (by simp; omega) (by simpa using HT.out) HS.out hD hs hp).mono ?_
        rw [HH.out.1]
        rintro e w2 ⟨rfl, F2, p', S⟩
        go_wp2_with fail
        exact ⟨rfl, PstI.er HH.out.2.symm rfl F2 S.tl⟩
      | ok x p2 o2 =>
        obtain ⟨hp1, hp2, hx288, rfl⟩ := symR_ok h1
        rw [h1, Rs.bind_ok] at hR
        have HH := Lib.hid h1
        have HR := Lib.hid hR
        clear h1 hR
        go_wp2_with fail
        refine (a_sym (L := oIn ao cap l :: L) (j := j + 1) (i + 1) (by omega) (by simp; omega) (by simpa using HT.out) HS.out hD hs hp).mono ?_
        rw [HH.out]
        rintro e w2 ⟨rfl, F3, S⟩
        rw [izN_eq]
        have HS : Hid (Sep w0 w2 (oIn ao cap l :: L.set j (oRun ub rb F3 s B p2 o2))) := Lib.hid S
        have hR := HR.out
        clear S HR HH
        by_cases h16 : x = 16
        · rw [if_pos h16] at hR
          subst h16
          by_cases h0 : l.length = 0
          · rw [if_pos h0] at hR
            have HR := Lib.hid hR
            clear hR
            have j2 : decide ((0 : Int) < (l.length : Int)) = false := decide_eq_false (by omega)
            go_wp2_with fail
            refine (must_er w2).mono ?_
            rintro e w3 ⟨rfl, rfl⟩
            go_wp2_with fail
            exact ⟨rfl, PstI.er HR.out.symm rfl F3 HS.out.tl⟩
          · rw [if_neg h0] at hR
            have HR := Lib.hid hR
            clear hR
            have j2 : 0 < l.length := by omega
            go_wp2_with fail
            refine (must_ok w2).mono ?_
            rintro e w3 ⟨rfl, rfl⟩
            go_wp2_with fail
            obtain ⟨gb, cap', hgb⟩ := own_at (HS.out.get 0 rfl : w2.ownsRow 0 3 1 (.slice ao l.length cap) l.length (l.map iz)) j2
            injection hgb with e1 _ e3
            subst e1 e3
            obtain ⟨cs9, _, hcap1, hcap2, _, _⟩ := ownsRow_open (HS.out.get 0 rfl : w2.ownsRow 0 3 1 (.slice (some ⟨gb, 0, none⟩) l.length cap) l.length (l.map iz))
            obtain ⟨q, hq⟩ : ∃ q, l.length = q + 1 := ⟨l.length - 1, by omega⟩
            unfold maxLen at hcap2
            rw [hq] at hcap1 ⊢
            have y1 : IntKind.i64.wrap (((q + 1 : Nat) : Int) - 1) = (q : Int) := by rw [IntKind.wrap_i64]; omega
            have y2 : ((q + 1 : Nat) : Int) - 1 = (q : Int) := by omega
            have y3 : (q : Int) ≤ ((q + 1 : Nat) : Int) := by omega
            have HQ := Lib.hid hq
            clear hq
            refine wp_region_midP (C := fun w' => ∃ x : World, w' = x) 7 3 (by kernel_rfl) (by kernel_rfl) ⟨_, rfl⟩ ?_
            simp only [List.take_succ_cons, List.take_zero, List.drop_succ_cons, List.drop_zero]
            repeat (go_big_quiet_step (fail))
            refine wpQuiet_nil ?_
            refine midW_step rfl (fun K hK => ?_)
            clear y1 y2 y3
            have hR := HR.out
            clear HR
            cases h3 : getR s 2 p2 o2 with
            | er e1 o1 =>
              rw [h3, Rs.bind_er] at hR
              have H2 := Lib.hid (⟨h3, hR⟩ : _ ∧ _)
              clear h3 hR
              go_wp2_with fail
              refine (a_get (L := oIn (some ⟨gb, 0, none⟩) cap l :: L) (j := j + 1) 2 (by simp; omega) (HS.out.quiet (Ext.refl [] w2).drew) hs hp2 (by omega)).mono ?_
              rw [H2.out.1]
              rintro e w3 ⟨rfl, F4, p', S⟩
              go_wp2_with fail
              intro a' ha'
              refine ⟨ha', PstI.er H2.out.2.symm rfl F4 S.tl⟩
            | ok k p3 o3 =>
              obtain ⟨hk, rfl, rfl, hp3⟩ := getR_ok h3
              have hk8 : k < 2 ^ 2 := by rw [hk]; exact getv_lt s false p2 2
              rw [h3, Rs.bind_ok] at hR
              have H2 := Lib.hid (⟨h3, hR⟩ : _ ∧ _)
              clear h3 hR hk
              go_wp2_with fail
              refine (a_get (L := oIn (some ⟨gb, 0, none⟩) cap l :: L) (j := j + 1) 2 (by simp; omega) (HS.out.quiet (Ext.refl [] w2).drew) hs hp2 (by omega)).mono ?_
              rw [H2.out.1]
              rintro e w3 ⟨rfl, F4, S⟩
              rw [izN_eq]
              have S : Sep w0 w3 (oIn (some ⟨gb, 0, none⟩) cap l :: L.set j (oRun ub rb F4 s B (p2 + 2) o3)) := S
              have HS := Lib.hid S
              clear S
              go_wp2_with fail
              refine ⟨⟨_, rfl⟩, ?_⟩
              refine midW_step rfl (fun K2 hK2 => ?_)
              go_wp2_with fail
              refine ⟨⟨_, rfl⟩, ?_⟩
              refine midW_step rfl (fun K3 hK3 => ?_)
              obtain ⟨x, hx9⟩ : ∃ x, l[q]? = some x := ⟨_, List.getElem?_eq_getElem (by have := HQ.out; omega)⟩
              have hgd : l.getD (l.length - 1) 0 = x := by rw [HQ.out, Nat.add_sub_cancel, List.getD_eq_getElem?_getD, hx9]; rfl
              have hc9 : w3.cell? ⟨gb, q, none⟩ = some (iz x) := ownsRow_at (HS.out.get 0 rfl : w3.ownsRow 0 3 1 (.slice (some ⟨gb, 0, none⟩) l.length cap) l.length (l.map iz)) (by rw [List.getElem?_map, hx9]; rfl)
              have hrep := repeat1_walk x (k + 3) ⟨gb, q, none⟩ (cap - q) w3 (by omega) (by omega) hc9
              have hrep : Calls Tryz.prog 46 #[.slice (some ⟨gb, q, none⟩) 1 (cap - q), .int .i64 ((k : Int) + 3)] w3 (NewInts w3 (List.replicate (k + 3) x)) := hrep
              rw [hgd] at H2
              have HRP := Lib.hid hrep
              clear hx9 hgd hc9 hrep hcap1 hcap2
              go_wp2_with fail
              refine HRP.out.mono ?_
              rintro e w4 ⟨v4, rfl, hx, hp4, hf⟩
              obtain ⟨a4, k4, rfl⟩ := own_slice hp4
              obtain ⟨ao2, cap2, w5, hr, ho, hx5, hf5⟩ := app_ints w4 _ l (List.replicate (k + 3) x) a4 k4 (ownsRow_ext (HS.out.get 0 rfl : w3.ownsRow 0 3 1 (.slice (some ⟨gb, 0, none⟩) l.length cap) l.length (l.map iz)) hx (by simp)) (IntsAt.of_own hp4) (by simp) (by simp; omega)
              have HS5 := Lib.hid (sep_more (HS.out.quiet hx) ho hx5 hf5)
              rw [HQ.out, List.length_replicate] at hr
              have HRN := Lib.hid hr
              clear hx hp4 hf hr ho hx5 hf5 HS HRP
              go_wp2_with fail
              refine ⟨⟨_, rfl⟩, ?_⟩
              refine midW_nil ?_
              go_wp2_with (at_builtin; refine wpList_plain rfl (fun K9 hK9 => wp_append_run _ _ _ _ rfl rfl rfl (HRN.out _) (hK9 _ _ ?_)))
              refine PanicAny.normal ?_
              go_wp2_with fail
              go_roundg g
              case measure => omega
              case rel => exact ⟨_, F4, _, ao2, cap2, _, hp3, by omega, by have := HQ.out; simp; try omega, by have := HQ.out; simp; omega, H2.out.2, HS5.out⟩
        · rw [if_neg h16] at hR
          have j16 : ((x : Int) == 16) = false := beq_eq_false_iff_ne.2 (by omega)
          by_cases h17 : x = 17
          · rw [if_pos h17] at hR
            subst h17
            cases h3 : getR s 3 p2 o2 with
            | er e1 o1 =>
              rw [h3, Rs.bind_er] at hR
              have H2 := Lib.hid (⟨h3, hR⟩ : _ ∧ _)
              clear h3 hR
              go_wp2_with fail
              refine (a_get (L := oIn ao cap l :: L) (j := j + 1) 3 (by simp; omega) HS.out hs hp2 (by omega)).mono ?_
              rw [H2.out.1]
              rintro e w3 ⟨rfl, F4, p', S⟩
              go_wp2_with fail
              exact ⟨rfl, PstI.er H2.out.2.symm rfl F4 S.tl⟩
            | ok k p3 o3 =>
              obtain ⟨hk, rfl, rfl, hp3⟩ := getR_ok h3
              have hk8 : k < 2 ^ 3 := by rw [hk]; exact getv_lt s false p2 3
              rw [h3, Rs.bind_ok] at hR
              have H2 := Lib.hid (⟨h3, hR⟩ : _ ∧ _)
              clear h3 hR hk
              go_wp2_with fail
              refine (a_get (L := oIn ao cap l :: L) (j := j + 1) 3 (by simp; omega) HS.out hs hp2 (by omega)).mono ?_
              rw [H2.out.1]
              rintro e w3 ⟨rfl, F4, S⟩
              rw [izN_eq]
              have S : Sep w0 w3 (oIn ao cap l :: L.set j (oRun ub rb F4 s B (p2 + 3) o3)) := S
              obtain ⟨ao2, cap2, w4, hr, ho, hx, hf⟩ := app_zeros w3 _ l (k + 3) (S.get 0 rfl) (by omega) (by omega)
              have HS := Lib.hid (sep_more S ho hx hf)
              have hr : ∀ ty, (Builtin.append_ #[58, 3] ty #[.slice ao l.length cap, .int .i64 ((k : Int) + 3)]).run Tryz.prog w3 = .ok (.slice ao2 (l ++ List.replicate (k + 3) 0).length cap2) w4 := hr
              have HRN := Lib.hid hr
              clear ho hx hf S hr
              go_wp2_with (at_builtin; refine wpList_plain rfl (fun K9 hK9 => wp_append_run _ _ _ _ rfl rfl rfl (HRN.out _) (hK9 _ _ ?_)))
              go_roundg g
              case measure => omega
              case rel => exact ⟨_, F4, _, ao2, cap2, _, hp3, by omega, by simp, by simp; omega, H2.out.2, HS.out⟩
          · rw [if_neg h17] at hR
            have j17 : ((x : Int) == 17) = false := beq_eq_false_iff_ne.2 (by omega)
            by_cases h18 : x = 18
            · rw [if_pos h18] at hR
              subst h18
              cases h3 : getR s 7 p2 o2 with
              | er e1 o1 =>
                rw [h3, Rs.bind_er] at hR
                have H2 := Lib.hid (⟨h3, hR⟩ : _ ∧ _)
                clear h3 hR
                go_wp2_with fail
                refine (a_get (L := oIn ao cap l :: L) (j := j + 1) 7 (by simp; omega) HS.out hs hp2 (by omega)).mono ?_
                rw [H2.out.1]
                rintro e w3 ⟨rfl, F4, p', S⟩
                go_wp2_with fail
                exact ⟨rfl, PstI.er H2.out.2.symm rfl F4 S.tl⟩
              | ok k p3 o3 =>
                obtain ⟨hk, rfl, rfl, hp3⟩ := getR_ok h3
                have hk8 : k < 2 ^ 7 := by rw [hk]; exact getv_lt s false p2 7
                rw [h3, Rs.bind_ok] at hR
                have H2 := Lib.hid (⟨h3, hR⟩ : _ ∧ _)
                clear h3 hR hk
                go_wp2_with fail
                refine (a_get (L := oIn ao cap l :: L) (j := j + 1) 7 (by simp; omega) HS.out hs hp2 (by omega)).mono ?_
                rw [H2.out.1]
                rintro e w3 ⟨rfl, F4, S⟩
                rw [izN_eq]
                have S : Sep w0 w3 (oIn ao cap l :: L.set j (oRun ub rb F4 s B (p2 + 7) o3)) := S
                obtain ⟨ao2, cap2, w4, hr, ho, hx, hf⟩ := app_zeros w3 _ l (k + 11) (S.get 0 rfl) (by omega) (by omega)
                have HS := Lib.hid (sep_more S ho hx hf)
                have hr : ∀ ty, (Builtin.append_ #[58, 3] ty #[.slice ao l.length cap, .int .i64 ((k : Int) + 11)]).run Tryz.prog w3 = .ok (.slice ao2 (l ++ List.replicate (k + 11) 0).length cap2) w4 := hr
                have HRN := Lib.hid hr
                clear ho hx hf S hr
                go_wp2_with (at_builtin; refine wpList_plain rfl (fun K9 hK9 => wp_append_run _ _ _ _ rfl rfl rfl (HRN.out _) (hK9 _ _ ?_)))
                go_roundg g
                case measure => omega
                case rel => exact ⟨_, F4, _, ao2, cap2, _, hp3, by omega, by simp, by simp; omega, H2.out.2, HS.out⟩
            · rw [if_neg h18] at hR
              have j18 : ((x : Int) == 18) = false := beq_eq_false_iff_ne.2 (by omega)
              obtain ⟨ao2, cap2, w4, hr, ho, hx, hf⟩ := app_ints (w2.alloc (.cells #[iz x] 3)) _ l [(x : Int)] (some ⟨w2.heap.size, 0, none⟩) 1 (ownsRow_ext (HS.out.get 0 rfl : w2.ownsRow 0 3 1 (.slice ao l.length cap) l.length (l.map iz)) ((Ext.refl [] w2).alloc _) (by simp))
                (IntsAt.of_block _ 1 rfl (heap_alloc_at _) rfl) (by simp) (by simp; omega)
              have HS5 := Lib.hid (sep_more (HS.out.quiet ((Ext.refl [] w2).alloc _)) ho hx hf)
              have HRN := Lib.hid hr
              have HR := Lib.hid hR
              clear hR hr ho hx hf HS
              go_wp2_with (at_builtin; refine wpList_plain rfl (fun K9 hK9 => wp_append_run _ _ _ _ rfl rfl rfl (HRN.out _) (hK9 _ _ ?_)))
              go_roundg g
              case measure => omega
              case rel => exact ⟨_, F3, _, ao2, cap2, _, hp2, by omega, by simp, by simp; omega, HR.out, HS5.out⟩
    · rw [if_neg hlt] at hR
      have k1 : ¬ (l.length : Int) < (n : Int) := by omega
      by_cases he : l.length = n
      · rw [if_pos he] at hR
        have HR := Lib.hid hR
        have j2 : ((l.length : Int) == (n : Int)) = true := beq_iff_eq.2 (by omega)
        clear hR he
        go_wp2_with fail
        refine (must_ok wr).mono ?_
        rintro e w3 ⟨rfl, rfl⟩
        go_wp2_with fail
        go_ret
        exact PstI.ok HR.out.symm rfl F' HS.out
      · rw [if_neg he] at hR
        have HR := Lib.hid hR
        clear hR
        have j2 : ((l.length : Int) == (n : Int)) = false := beq_eq_false_iff_ne.2 (by omega)
        go_wp2_with fail
        refine (must_er wr).mono ?_
        rintro e w3 ⟨rfl, rfl⟩
        go_wp2_with fail
        exact ⟨rfl, PstI.er HR.out.symm rfl F' HS.out.tl⟩
end
end Go.Proofs.YtnapnaaejignaaaGreat.If

/-! InN: inflate: what is known of rows that are read; order walked. -/
namespace Go.Proofs.YtnapnaaejignaaaGreat.If
open Go.RowKit Bt Hu

theorem Rs.bind_assoc {α β γ : Type} (r : Rs α) (f : α → Nat → List Nat → Rs β) (g : β → Nat → List Nat → Rs γ) : (r.bind f).bind g = r.bind fun a p o => (f a p o).bind g := by
  cases r <;> rfl
section
variable (s : ByteArray) (B : Nat)
def dynT (a : Nat) (l : List Int) (p : Nat) (out : List Nat) : Rs Unit := if dynB l a = true then codedR s B (l.take a) (l.drop a) p out else .er 4 out
def dynK (a b : Nat) (own : List Int) (p : Nat) (out : List Nat) : Rs Unit :=
  if fullB own = true then (rowF s own (a + 257 + (b + 1)) (8 * s.size - p + 2) [] p out).bind (dynT s B (a + 257)) else .er 4 out
def dynR (p : Nat) (out : List Nat) : Rs Unit :=
  (getR s 5 p out).bind fun a p out => (getR s 5 p out).bind fun b p out => (getR s 4 p out).bind fun c p out =>
    if a + 257 ≤ 286 ∧ b + 1 ≤ 30 then (ownL s (c + 4) 0 (zers 19) p out).bind (dynK s B a b) else .er 4 out
theorem dyn_eq (p : Nat) (out : List Nat) : ((tabsR s p out).bind fun t p out => codedR s B t.1 t.2 p out) = dynR s B p out := by
  unfold tabsR dynR
  rw [Rs.bind_assoc]
  congr 1
  funext a p out
  rw [Rs.bind_assoc]
  congr 1
  funext b p out
  rw [Rs.bind_assoc]
  congr 1
  funext c p out
  split
  · rw [Rs.bind_assoc]
    congr 1
    funext own p out
    unfold dynK
    split
    · rw [Rs.bind_assoc]
      congr 1
      funext l p out
      unfold dynT
      split <;> rfl
    · rfl
  · rfl
end
theorem full_codes {l : List Int} (h : fullB l = true) : codesE l = 0 ∧ l.length ≤ 288 := by
  have h := of_decide_eq_true h
  unfold stateN at h
  cases hb : badL l with
  | true => rw [hb] at h; cases h
  | false =>
    rw [hb] at h
    simp only [Bool.false_eq_true, if_false, Prod.mk.injEq, and_true] at h
    refine ⟨?_, (bad_false hb).1⟩
    unfold codesE
    rw [hb, if_neg (by simp)]
    rw [if_neg]
    intro hk
    unfold cmpZ at h
    rw [if_neg (by omega), if_pos (by omega)] at h
    cases h
theorem kraS_few (l : List Int) (h : ∀ x ∈ l, 0 ≤ x) : kraS l ≤ 16384 * l.sum.toNat ∧ 0 ≤ l.sum ∧ (∀ x ∈ l, x ≤ l.sum) := by
  induction l with
  | nil => simp [kraS]
  | cons x l ih =>
    obtain ⟨h1, h2, h3⟩ := ih fun y hy => h y (by simp [hy])
    have hx := h x (by simp)
    have e : (x :: l).sum = x + l.sum := by simp
    rw [e, kraS]
    refine ⟨?_, by omega, fun y hy => ?_⟩
    · have e2 : (x + l.sum).toNat = x.toNat + l.sum.toNat := by omega
      rw [e2, Nat.mul_add]
      refine Nat.add_le_add ?_ h1
      split
      · have h9 : 2 ^ (15 - x.toNat) ≤ 2 ^ 14 := Nat.pow_le_pow_right (by omega) (by omega)
        have h8 : 1 ≤ x.toNat := by omega
        have h7 : 16384 * 1 ≤ 16384 * x.toNat := Nat.mul_le_mul_left _ h8
        omega
      · exact Nat.zero_le _
    · rcases List.mem_cons.1 hy with rfl | hy
      · omega
      · have := h3 y hy; omega
theorem few_codes {l : List Int} (hl : l.length ≤ 288) (hb : ∀ x ∈ l, 0 ≤ x) (h : fewB l = true) : codesE l = 0 := by
  have h := of_decide_eq_true h
  obtain ⟨h1, h2, h3⟩ := kraS_few l hb
  have hbad : badL l = false := by
    unfold badL
    rw [Bool.or_eq_false_iff, List.any_eq_false]
    refine ⟨decide_eq_false (by omega), fun x hx => ?_⟩
    have := hb x hx
    have := h3 x hx
    simp
    omega
  have hk : kra l = kraS l := kra_sum l fun x hx => by
    have := hb x hx
    have := h3 x hx
    omega
  unfold codesE
  rw [hbad, if_neg (by simp), if_neg (by rw [hk]; omega)]
section
variable {s : ByteArray} {B : Nat}
theorem rowF_ok {D : List Int} {n : Nat} : ∀ (g : Nat) (l : List Int) (p : Nat) (out : List Nat) {l' : List Int} {p' : Nat} {out' : List Nat}, p ≤ 8 * s.size → D.length ≤ 288 → (∀ x ∈ l, 0 ≤ x ∧ x ≤ 1000) → rowF s D n g l p out = .ok l' p' out' → l'.length = n ∧ (∀ x ∈ l', 0 ≤ x ∧ x ≤ 1000) ∧ p' ≤ 8 * s.size ∧ out' = out
  | 0, l, p, out, l', p', out', _, _, _, h => by rw [rowF] at h; cases h
  | g + 1, l, p, out, l', p', out', hp, hD, hb, h => by
    have hrep : ∀ (k : Nat) (x : Int), 0 ≤ x ∧ x ≤ 1000 → ∀ y ∈ l ++ List.replicate k x, 0 ≤ y ∧ y ≤ 1000 := fun k x hx y hy => by
      rcases List.mem_append.1 hy with hy | hy
      · exact hb y hy
      · rw [(List.mem_replicate.1 hy).2]; exact hx
    rw [rowF] at h
    split at h
    · cases h1 : symR s D p out with
      | er e o => rw [h1, Rs.bind_er] at h; cases h
      | ok x p1 o1 =>
        obtain ⟨_, hp1, hx, rfl⟩ := symR_ok h1
        rw [h1, Rs.bind_ok] at h
        split at h
        · split at h
          · cases h
          · cases h2 : getR s 2 p1 o1 with
            | er e o => rw [h2, Rs.bind_er] at h; cases h
            | ok k p2 o2 =>
              obtain ⟨_, rfl, rfl, hp2⟩ := getR_ok h2
              rw [h2, Rs.bind_ok] at h
              refine rowF_ok g _ _ _ hp2 hD (hrep _ _ ?_) h
              rw [List.getD_eq_getElem?_getD, List.getElem?_eq_getElem (by omega : l.length - 1 < l.length)]
              exact hb _ (List.getElem_mem _)
        · split at h
          · cases h2 : getR s 3 p1 o1 with
            | er e o => rw [h2, Rs.bind_er] at h; cases h
            | ok k p2 o2 =>
              obtain ⟨_, rfl, rfl, hp2⟩ := getR_ok h2
              rw [h2, Rs.bind_ok] at h
              exact rowF_ok g _ _ _ hp2 hD (hrep _ _ (by omega)) h
          · split at h
            · cases h2 : getR s 7 p1 o1 with
              | er e o => rw [h2, Rs.bind_er] at h; cases h
              | ok k p2 o2 =>
                obtain ⟨_, rfl, rfl, hp2⟩ := getR_ok h2
                rw [h2, Rs.bind_ok] at h
                exact rowF_ok g _ _ _ hp2 hD (hrep _ _ (by omega)) h
            · exact rowF_ok g _ _ _ hp1 hD (hrep 1 (x : Int) (by omega)) h
    · split at h
      · injection h with h1 h2 h3
        subst h1 h2 h3
        exact ⟨‹_›, hb, hp, rfl⟩
      · cases h
end
theorem ord_lt : ∀ k, k < 19 → ordN.getD k 0 < 19 := by decide
def ord19 : Array Value := #[iz 16, iz 17, iz 18, iz 0, iz 8, iz 7, iz 9, iz 6, iz 10, iz 5, iz 11, iz 4, iz 12, iz 3, iz 13, iz 2, iz 14, iz 1, iz 15]
theorem ord19_eq : ord19 = (ordN.map fun n : Nat => iz (n : Int)).toArray := rfl
theorem ord19_at (k : Nat) (h : k < 19) : ord19[k]? = some (iz ((ordN.getD k 0 : Nat) : Int)) := by
  rw [ord19_eq, List.getElem?_toArray, List.getElem?_map, List.getD_eq_getElem?_getD, List.getElem?_eq_getElem (show k < ordN.length from h)]
  rfl
theorem ord19_one : ord19.all (·.oneCell') = true := by rw [ord19_eq]; simp [Value.oneCell']
theorem ext_setRow (w : World) (g : Nat) (cs : Array Value) : Ext [g] w (w.setRow g cs) := ⟨rfl, rfl, rfl, by simp [World.setRow], fun k _ hk => setRow_other w g k cs (by simpa using hk)⟩
theorem wpList_at9 {P : Program} {ops : Array Oper} {Q : Exit → Act → World → Prop} {l : List Oper} {a a' : Act} {w : World} (h : a = a') (k : wpList P ops Q l a' w) : wpList P ops Q l a w := by rw [h]; exact k
set_option maxRecDepth 100000 in
set_option maxHeartbeats 4000000 in
theorem order_walk (w : World) : Calls Tryz.prog 94 #[] w fun e w' => e = .returned (.agg ord19) ∧ Ext [] w w' := by
  go_enter Tryz.func94, Tryz.ntmps94
  go_upto_region 1 with fail
  apply wp_region_lit
  refine wpList_build rfl 160 _ rfl (by kernel_rfl) ?_
  refine wpList_at9 (a' := { tmps := #[.pointer (some ⟨w.heap.size, 0, none⟩), .agg ord19], defers := [] }) (by kernel_rfl) ?_
  refine wpList_store_row rfl 160 _ _ rfl w.heap.size ord19 rfl rfl 160 _ (heap_alloc_at _) (by kernel_rfl) rfl ord19_one ?_
  apply wpList_nil
  obtain ⟨Z, hZ⟩ : ∃ Z : Array Value, Z = #[.int .i64 0, .int .i64 0, .int .i64 0, .int .i64 0, .int .i64 0, .int .i64 0, .int .i64 0, .int .i64 0, .int .i64 0, .int .i64 0, .int .i64 0, .int .i64 0, .int .i64 0, .int .i64 0, .int .i64 0, .int .i64 0, .int .i64 0, .int .i64 0, .int .i64 0] := ⟨_, rfl⟩
  rw [← hZ]
  clear hZ
  have hW := setRow_heap (w.alloc (.cells Z 160)) w.heap.size Z ord19 160 (0, 0) (heap_alloc_at _)
  have hX : Ext [] w ((w.alloc (.cells Z 160)).setRow w.heap.size ord19) :=
    ((Ext.refl [] w).alloc (.cells Z 160)).trans' (ext_setRow _ w.heap.size ord19) (fun i hi h => by rw [List.mem_singleton.1 h] at hi; exact absurd hi (Nat.lt_irrefl _))
  obtain ⟨W, hWW⟩ : ∃ W, (w.alloc (.cells Z 160)).setRow w.heap.size ord19 = W := ⟨_, rfl⟩
  rw [hWW] at hW hX ⊢
  clear hWW
  go_wp2_with fail
  refine bodyPost_ret (results_cell_row rfl _ _ w.heap.size 160 ord19 (0, 0) _ rfl hW Tryz.underlying160 rfl (by kernel_rfl)) rfl ?_
  exact ⟨rfl, hX⟩
end Go.Proofs.YtnapnaaejignaaaGreat.If
