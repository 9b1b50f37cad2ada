/-
  Regions that draw their order: behind the first operations, chosen ones that only read are taken in a chosen order.
-/
import Derived.Test.YtgpgamohcafklaaGreatDoorPkA
namespace Go.Proofs.YtgpgamohcafklaaGreatDoor
open Go.RowKit
section
variable {P : Program} {ops : Array Oper} {C : World → Prop} {Q : Exit → Act → World → Prop}

def invB (ops : Array Oper) (m : Nat) (listed : Array Bool) : Bool :=
  decide (listed.size = ops.size) && (List.range ops.size).all (fun j => !(listed.getD j false) || (match ops[j]? with | some o => o.after.toList.all (fun e => !(Region.binds .any e) || listed.getD e.on false) | none => true)) && (List.range ops.size).all (fun t => decide (t < m) || !(listed.getD t true))
theorem invB_inv {m : Nat} {listed : Array Bool} (h : invB ops m listed = true) : HeadInv .any ops m listed := by
  simp only [invB, Bool.and_eq_true, decide_eq_true_eq] at h
  obtain ⟨⟨h1, h2⟩, h3⟩ := h
  refine ⟨h1, fun j oj hj hl e he hb => ?_, fun t ht htn => ?_⟩
  · have hjs : j < ops.size := (Array.getElem?_eq_some_iff.1 hj).1
    have := List.all_eq_true.1 h2 j (List.mem_range.2 hjs)
    rw [hl, hj] at this
    simp only [Bool.not_true, Bool.false_or] at this
    have := List.all_eq_true.1 this e (Array.mem_toList_iff.2 he)
    rw [hb] at this
    simpa using this
  · have := List.all_eq_true.1 h3 t (List.mem_range.2 htn)
    rw [decide_eq_false (by omega), Bool.false_or] at this
    simpa using this
def moreB (ops : Array Oper) (π : List Nat) (m : Nat) (listed : Array Bool) : Bool :=
  Region.noSelect ops && decide (m < ops.size) && Region.sinkB .any ops m && Region.chainB .any ops m && π.all (fun k => decide (k < m)) && (pick ops π).all noCall && headP .any ops π listed && invB ops m listed
theorem anyC_more (π : List Nat) {m : Nat} (r : Nat) {late : List Oper} {listed : Array Bool} {a : Act} {w : World} (hB : moreB ops π m listed = true) (hw : C w)
    (h : wpQuiet P ops C (fun a' => anyC P .any ops (NoPanic Q) C m (TailW P ops (NoPanic Q) m late) r (listAll π listed) a' w) (pick ops π) a) :
    anyC P .any ops (NoPanic Q) C m (TailW P ops (NoPanic Q) m late) (π.length + r) listed a w := by
  simp only [moreB, Bool.and_eq_true, decide_eq_true_eq] at hB
  obtain ⟨⟨⟨⟨⟨⟨⟨hsel, hn⟩, hs⟩, hc⟩, hlt⟩, hno⟩, hhead⟩, hinv⟩ := hB
  exact anyC_perm (P := P) (ops := ops) (md := .any) (Q := NoPanic Q) (C := C) (m := m) (r := r) (L := TailW P ops (NoPanic Q) m late) (w := w) hw (fun _ _ _ _ _ h => h) hsel hs hc hn
    (fun _ _ _ hL => seqB_ready hL.1) _ (fun a' h' => h') π listed a (fun k hk => by simpa using List.all_eq_true.1 hlt k hk) (fun o ho => List.all_eq_true.1 hno o ho) (invB_inv hinv) hhead rfl h
end
end Go.Proofs.YtgpgamohcafklaaGreatDoor
