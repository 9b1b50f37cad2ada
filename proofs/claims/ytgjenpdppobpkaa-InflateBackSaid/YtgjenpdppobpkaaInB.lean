/-
  inflate: the run in memory; check, must, get, put, symbol walked.
-/
import Derived.Test.YtgjenpdppobpkaaInA
import Derived.WalkLawsBesides
namespace Go.Proofs.Ytgjenpdppobpkaa.If
open Go.RowKit Bt Hu

/-- what an error panics with -/
def giveV (e : Int) : PanicEntry := { v := .iface 62 (.agg #[.int .i64 e]), recovered := false }
def runC (rb : Nat) (v : Value) (B : Nat) : Obj := .cells #[.pointer (some ⟨rb, 0, none⟩), v, .int .i64 B] 60
/-- block ub is a run over the text s, whose reader is block rb, read to p, with the bytes out, of the budget B; it owns the blocks F -/
structure RunO (w : World) (ub rb : Nat) (F : List Nat) (s : ByteArray) (B p : Nat) (out : List Nat) : Prop where
  ex : ∃ v, w.heap[ub]? = some (runC rb v B) ∧ w.ownsRow 0 5 1 v out.length (out.map b8) ∧ F = ub :: rb :: v.ownBlock.toList ∧ v.ownBlock ≠ some ub ∧ v.ownBlock ≠ some rb
  rd : w.heap[rb]? = some (rdr s p false)
  ne : ub ≠ rb
theorem RunO.ext {w w' : World} {ub rb : Nat} {F : List Nat} {s : ByteArray} {B p : Nat} {out : List Nat} {S : List Nat} (h : RunO w ub rb F s B p out) (hx : Ext S w w') (hS : ∀ k ∈ F, k ∉ S) : RunO w' ub rb F s B p out := by
  obtain ⟨⟨v, h1, h2, rfl, h4, h5⟩, hr, hn⟩ := h
  exact ⟨⟨v, hx.keep h1 (hS ub (by simp)), ownsRow_ext h2 hx (fun g hg => hS g (by simp [hg])), rfl, h4, h5⟩, hx.keep hr (hS rb (by simp)), hn⟩
/-- the reader alone was moved -/
theorem RunO.read {w w' : World} {ub rb : Nat} {F : List Nat} {s : ByteArray} {B p q : Nat} {out : List Nat} (h : RunO w ub rb F s B p out) (hx : Ext [rb] w w') (hr : w'.heap[rb]? = some (rdr s q false)) : RunO w' ub rb F s B q out := by
  obtain ⟨⟨v, h1, h2, rfl, h4, h5⟩, _, hn⟩ := h
  refine ⟨⟨v, hx.keep h1 (by simpa using hn), ownsRow_ext h2 hx (fun g hg => ?_), rfl, h4, h5⟩, hr, hn⟩
  intro hm
  rw [List.mem_singleton] at hm
  subst hm
  exact h5 hg
def oRun (ub rb : Nat) (F : List Nat) (s : ByteArray) (B p : Nat) (out : List Nat) : Ob where
  F := F
  P := fun w => RunO w ub rb F s B p out
  ok := fun h hx hS => h.ext hx hS
  lt := fun h => by
    obtain ⟨⟨v, h1, h2, rfl, _, _⟩, hr, _⟩ := h
    intro k hk
    rcases List.mem_cons.1 hk with rfl | hk
    · exact lt_of_block h1
    · rcases List.mem_cons.1 hk with rfl | hk
      · exact lt_of_block hr
      · exact (h2.lt k (by simpa using hk)).2
/-- what a call on the run leaves: an answer, or a panic -/
def Pst {α : Type} (w0 : World) (L : List Ob) (j ub rb : Nat) (s : ByteArray) (B : Nat) (enc : α → Value) (R : Rs α) (e : Ending) (w' : World) : Prop :=
  match R with
  | .ok a p out => e = .returned (enc a) ∧ ∃ F, Sep w0 w' (L.set j (oRun ub rb F s B p out))
  | .er er out => e = .panicked [giveV er] ∧ ∃ F p, Sep w0 w' (L.set j (oRun ub rb F s B p out))
theorem Pst.ok {α : Type} {w0 w' : World} {L : List Ob} {j ub rb : Nat} {s : ByteArray} {B : Nat} {enc : α → Value} {R : Rs α} {a : α} {p : Nat} {out : List Nat} {e : Ending} (hR : R = .ok a p out) (he : e = .returned (enc a)) (F : List Nat) (S : Sep w0 w' (L.set j (oRun ub rb F s B p out))) : Pst w0 L j ub rb s B enc R e w' := by
  subst hR; exact ⟨he, F, S⟩
theorem Pst.er {α : Type} {w0 w' : World} {L : List Ob} {j ub rb : Nat} {s : ByteArray} {B : Nat} {enc : α → Value} {R : Rs α} {er : Int} {p : Nat} {out : List Nat} {e : Ending} (hR : R = .er er out) (he : e = .panicked [giveV er]) (F : List Nat) (S : Sep w0 w' (L.set j (oRun ub rb F s B p out))) : Pst w0 L j ub rb s B enc R e w' := by
  subst hR; exact ⟨he, F, p, S⟩
def unit9 : Unit → Value := fun _ => .tuple #[]
theorem check_ok (w : World) : Calls Try.prog 60 #[.int .i64 0] w fun e w' => e = .returned (.tuple #[]) ∧ w = w' := by
  go_enter Try.func60, Try.ntmps60
  go_wp2_with fail
  go_end0
  exact ⟨rfl, rfl⟩
theorem check_er (er : Int) (h : (er != 0) = true) (w : World) : Calls Try.prog 60 #[.int .i64 er] w fun e w' => e = .panicked [giveV er] ∧ w = w' := by
  go_enter Try.func60, Try.ntmps60
  go_wp2_with fail
  exact ⟨rfl, rfl, rfl⟩
theorem must_ok (w : World) : Calls Try.prog 65 #[.bool true] w fun e w' => e = .returned (.tuple #[]) ∧ w = w' := by
  go_enter Try.func65, Try.ntmps65
  go_wp2_with fail
  go_end0
  exact ⟨rfl, rfl⟩
theorem must_er (w : World) : Calls Try.prog 65 #[.bool false] w fun e w' => e = .panicked [giveV 4] ∧ w = w' := by
  go_enter Try.func65, Try.ntmps65
  go_wp2_with fail
  refine (check_er 4 rfl w).mono ?_
  rintro e w' ⟨rfl, rfl⟩
  go_wp2_with fail
  exact ⟨rfl, rfl, rfl⟩
end Go.Proofs.Ytgjenpdppobpkaa.If
