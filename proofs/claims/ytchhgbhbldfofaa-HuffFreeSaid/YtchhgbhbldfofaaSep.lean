/-
  Several objects of a call's own, apart from each other: 'Sep w0 w l' says that w is w0 with more blocks, and that the objects l lie in new blocks, no two of them in one. No program is in sight here.
-/
import Derived.Test.YtchhgbhbldfofaaBase
namespace Go.Proofs.Ytchhgbhbldfofaa
open Go.RowKit

/-- what is owned behind: what was owned, or new blocks -/
def Fr (w : World) (F F' : List Nat) : Prop := ∀ g ∈ F', g ∈ F ∨ w.heap.size ≤ g
theorem Fr.trans {w w1 : World} {F G H : List Nat} (h : Fr w F G) (h' : Fr w1 G H) (hs : w.heap.size ≤ w1.heap.size) : Fr w F H := fun k hk => by
  rcases h' k hk with q | q
  · exact h k q
  · exact .inr (Nat.le_trans hs q)
theorem Fr.refl (w : World) (F : List Nat) : Fr w F F := fun _ h => .inl h
theorem ext_fr {w w1 w2 : World} {F G : List Nat} (h : Ext F w w1) (h' : Ext G w1 w2) (hf : Fr w F G) : Ext F w w2 :=
  h.trans' h' (fun k hk hG => by rcases hf k hG with q | q; exact q; omega)

/-- an object: the blocks that it lies in, and what is known of it, which hangs on those blocks alone -/
structure Ob where
  F : List Nat
  P : World → Prop
  ok : ∀ {S : List Nat} {w w' : World}, P w → Ext S w w' → (∀ k ∈ F, k ∉ S) → P w'
  lt : ∀ {w : World}, P w → ∀ k ∈ F, k < w.heap.size

structure Sep (w0 w : World) (l : List Ob) : Prop where
  ext : Ext [] w0 w
  each : ∀ o ∈ l, o.P w
  base : ∀ o ∈ l, ∀ k ∈ o.F, w0.heap.size ≤ k
  apart : ∀ (i j : Nat) (o o' : Ob), l[i]? = some o → l[j]? = some o' → i ≠ j → ∀ k ∈ o.F, k ∉ o'.F

namespace Sep
theorem start (w : World) : Sep w w [] := ⟨Ext.refl _ _, by simp, by simp, by simp⟩
theorem get {w0 w : World} {l : List Ob} (h : Sep w0 w l) (i : Nat) {o : Ob} (hi : l[i]? = some o) : o.P w := h.each o (List.mem_of_getElem? hi)
theorem quiet {w0 w w' : World} {l : List Ob} (h : Sep w0 w l) (hx : Ext [] w w') : Sep w0 w' l :=
  ⟨h.ext.trans hx, fun o ho => o.ok (h.each o ho) hx (by simp), h.base, h.apart⟩
theorem new {w0 w w' : World} {l : List Ob} (h : Sep w0 w l) (hx : Ext [] w w') (o : Ob) (hP : o.P w') (hF : ∀ k ∈ o.F, w.heap.size ≤ k) : Sep w0 w' (o :: l) := by
  refine ⟨h.ext.trans hx, fun o' ho' => ?_, fun o' ho' => ?_, ?_⟩
  · rcases List.mem_cons.1 ho' with rfl | ho'
    · exact hP
    · exact (h.quiet hx).each o' ho'
  · rcases List.mem_cons.1 ho' with rfl | ho'
    · exact fun k hk => Nat.le_trans h.ext.size (hF k hk)
    · exact h.base o' ho'
  · have hlt : ∀ o' ∈ l, ∀ k ∈ o'.F, k < w.heap.size := fun o' ho' => o'.lt (h.each o' ho')
    intro i j a b hi hj hij k hk hkb
    cases i with
    | zero =>
      cases j with
      | zero => exact hij rfl
      | succ j =>
        obtain rfl : o = a := by simpa using hi
        have hb : b ∈ l := List.mem_of_getElem? (by simpa using hj)
        have := hF k hk
        have := hlt b hb k hkb
        omega
    | succ i =>
      have ha : a ∈ l := List.mem_of_getElem? (by simpa using hi)
      cases j with
      | zero =>
        obtain rfl : o = b := by simpa using hj
        have := hF k hkb
        have := hlt a ha k hk
        omega
      | succ j => exact h.apart i j a b (by simpa using hi) (by simpa using hj) (by omega) k hk hkb
theorem upd {w0 w w' : World} {l : List Ob} (h : Sep w0 w l) (i : Nat) {o : Ob} (o' : Ob) (hi : l[i]? = some o) (hx : Ext o.F w w') (hf : Fr w o.F o'.F) (hP : o'.P w') : Sep w0 w' (l.set i o') := by
  have hlt : ∀ a ∈ l, ∀ k ∈ a.F, k < w.heap.size := fun a ha => a.lt (h.each a ha)
  have hil : i < l.length := (List.getElem?_eq_some_iff.1 hi).1
  have hget : ∀ j a, (l.set i o')[j]? = some a → (j = i ∧ a = o') ∨ (j ≠ i ∧ l[j]? = some a) := fun j a hj => by
    by_cases hji : j = i
    · subst hji; rw [List.getElem?_set_self hil] at hj; exact .inl ⟨rfl, (Option.some.inj hj).symm⟩
    · rw [List.getElem?_set_ne (Ne.symm hji)] at hj; exact .inr ⟨hji, hj⟩
  have far : ∀ j a, j ≠ i → l[j]? = some a → ∀ k ∈ a.F, k ∉ o'.F := fun j a hji hj k hk hk' => by
    rcases hf k hk' with q | q
    · exact h.apart j i a o hj hi hji k hk q
    · have := hlt a (List.mem_of_getElem? hj) k hk; omega
  refine ⟨?_, ?_, ?_, ?_⟩
  · exact h.ext.trans' hx (fun k hk hkF => by have := h.base o (List.mem_of_getElem? hi) k hkF; omega)
  · intro a ha
    obtain ⟨j, hj⟩ := List.getElem?_of_mem ha
    rcases hget j a hj with ⟨_, rfl⟩ | ⟨hji, hj'⟩
    · exact hP
    · exact a.ok (h.each a (List.mem_of_getElem? hj')) hx (fun k hk => h.apart j i a o hj' hi hji k hk)
  · intro a ha k hk
    obtain ⟨j, hj⟩ := List.getElem?_of_mem ha
    rcases hget j a hj with ⟨_, rfl⟩ | ⟨hji, hj'⟩
    · rcases hf k hk with q | q
      · exact h.base o (List.mem_of_getElem? hi) k q
      · exact Nat.le_trans h.ext.size q
    · exact h.base a (List.mem_of_getElem? hj') k hk
  · intro p q a b hp hq hpq k hk hkb
    rcases hget p a hp with ⟨rfl, rfl⟩ | ⟨hpi, hp'⟩
    · rcases hget q b hq with ⟨rfl, _⟩ | ⟨hqi, hq'⟩
      · exact hpq rfl
      · exact far q b hqi hq' k hkb hk
    · rcases hget q b hq with ⟨rfl, rfl⟩ | ⟨hqi, hq'⟩
      · exact far p a hpi hp' k hk hkb
      · exact h.apart p q a b hp' hq' hpq k hk hkb
end Sep

/-- an object that is one block, known whole -/
def Ob.one (b : Nat) (x : Obj) : Ob where
  F := [b]
  P := fun w => w.heap[b]? = some x
  ok := fun h hx hS => hx.keep h (hS b (by simp))
  lt := fun h k hk => by rw [List.mem_singleton.1 hk]; exact lt_of_block h
end Go.Proofs.Ytchhgbhbldfofaa
