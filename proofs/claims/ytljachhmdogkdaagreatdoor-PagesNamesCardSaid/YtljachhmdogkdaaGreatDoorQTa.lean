/-
 Texts TtA, TtG, TtH, TtI, TtJ, TtK, TtL, TtM, TtN, TtB, TtD, as far as the statement needs them.
-/
import Derived.Test.YtljachhmdogkdaaGreatDoorQPkA
import Derived.Test.YtljachhmdogkdaaGreatDoorQPkV
import Derived.Test.YtljachhmdogkdaaGreatDoorQPkY
import Derived.Test.YtljachhmdogkdaaGreatDoorQPkZ
import Derived.Deep.Upon
import Derived.Deep.Strs
import Derived.Lib.AppendZeros
namespace Go.Proofs.YtljachhmdogkdaaGreatDoor.Tr
open Go.RowKit
end Go.Proofs.YtljachhmdogkdaaGreatDoor.Tr
namespace Go.Proofs.YtljachhmdogkdaaGreatDoor.Tr
open Go.RowKit
end Go.Proofs.YtljachhmdogkdaaGreatDoor.Tr
namespace Go.Proofs.YtljachhmdogkdaaGreatDoor.Tr
open Go.RowKit
end Go.Proofs.YtljachhmdogkdaaGreatDoor.Tr
namespace Go.Proofs.YtljachhmdogkdaaGreatDoor.Tr
open Go.RowKit
end Go.Proofs.YtljachhmdogkdaaGreatDoor.Tr
namespace Go.Proofs.YtljachhmdogkdaaGreatDoor.Tr
open Go.RowKit
end Go.Proofs.YtljachhmdogkdaaGreatDoor.Tr
namespace Go.Proofs.YtljachhmdogkdaaGreatDoor.Tr
open Go.RowKit
end Go.Proofs.YtljachhmdogkdaaGreatDoor.Tr
namespace Go.Proofs.YtljachhmdogkdaaGreatDoor.Tr
open Go.RowKit
def blk (k : Nat) (l : List Et) : List Et := if _h : k = 0 ∨ l.length < k then sortN l else sortN (l.take k) ++ blk k (l.drop k)
termination_by l.length
decreasing_by rw [List.length_drop]; omega
end Go.Proofs.YtljachhmdogkdaaGreatDoor.Tr
namespace Go.Proofs.YtljachhmdogkdaaGreatDoor.Tr
open Go.RowKit
theorem rises_strict {l : List Nd} : ∀ (L : List Int) (pr : Option ByteArray), risesN l pr L = true → strictF pr (pairsN l L) = true
 | [], _, _ => rfl
 | [_], _, _ => rfl
 | k :: m :: r, pr, h => by
  rw [risesN, Bool.and_eq_true, Bool.and_eq_true] at h
  rw [pairsN, strictF, h.1.2, rises_strict r _ h.2]
  rfl
theorem pairs_up {l : List Nd} (his : isN l 8 = true) : Up (pairsN l (ndAt l 0).kids) := by
 obtain ⟨hc, hk8⟩ := is_facts his
 obtain ⟨h0, hn, E, D, hsh, -, hall⟩ := check_zero hc
 have e := ndAt_nat l 0 h0
 rw [show ((0 : Nat) : Int) = 0 from rfl] at e
 have hr : risesN l none (ndAt l 0).kids = true := by
  have := List.all_eq_true.1 hall _ (List.getElem_mem h0)
  rw [← e, nodeOk, hk8] at this
  simp at this
  exact this.2.2
 exact (strict_up _ none (rises_strict _ none hr)).1
theorem ents_nodup {l : List Nd} (his : isN l 8 = true) (s : ByteArray) : ((entsN l s).map (·.1)).Nodup :=
 ((List.filter_sublist (l := pairsN l (ndAt l 0).kids)).map (·.1)).nodup (up_nodup (pairs_up his))
theorem ents_add {l : List Nd} (his : isN l 8 = true) (s : ByteArray) (t : List Nd) : ((entsN l s ++ [(s, t)]).map (·.1)).Nodup :=
 add_nodup (ents_nodup his s) (fun p hp => by
  have := (List.mem_filter.1 hp).2
  simpa [tl_inj] using this)
end Go.Proofs.YtljachhmdogkdaaGreatDoor.Tr
namespace Go.Proofs.YtljachhmdogkdaaGreatDoor.Tr
open Go.RowKit
theorem name_small {s : ByteArray} (h : nameN s = 0) : s.size ≤ 1000000 := by
 unfold nameN at h
 split at h
 ·cases h
 ·omega
end Go.Proofs.YtljachhmdogkdaaGreatDoor.Tr
namespace Go.Proofs.YtljachhmdogkdaaGreatDoor.Tr
open Go.RowKit
def ValsAt (w : World) (base : Option Addr) (xs : List Value) : Prop := ∀ i u, xs[i]? = some u → ∃ b o, base = some ⟨b, o, none⟩ ∧ w.cell? ⟨b, o + i, none⟩ = some u
theorem ValsAt.ext {w w' : World} {base : Option Addr} {xs : List Value} (h : ValsAt w base xs) (hx : Ext [] w w') : ValsAt w' base xs := fun i u hi => by
 obtain ⟨b, o, h1, h2⟩ := h i u hi
 exact ⟨b, o, h1, hx.cell h2⟩
theorem add_zero17 (a : Addr) : a.add 0 = a := by obtain ⟨b, o, s⟩ := a; unfold Addr.add; split <;> simp_all
theorem add_none17 (b o k : Nat) : (⟨b, o, none⟩ : Addr).add k = ⟨b, o + k, none⟩ := by unfold Addr.add; split <;> simp_all
def fromB (base : Option Addr) (cap k : Nat) : Option Addr := if cap = k then base else base.map (·.add k)
theorem ValsAt.from {w : World} {base : Option Addr} {xs : List Value} (h : ValsAt w base xs) {cap : Nat} (hc : xs.length ≤ cap) (k : Nat) : ValsAt w (fromB base cap k) (xs.drop k) := fun i u hi => by
 rw [List.getElem?_drop] at hi
 have hl := (List.getElem?_eq_some_iff.1 hi).1
 obtain ⟨b, o, rfl, h2⟩ := h (k + i) u hi
 rw [fromB, if_neg (by omega)]
 refine ⟨b, o + k, by rw [Option.map_some, add_none17], ?_⟩
 rw [Nat.add_assoc]
 exact h2
theorem ValsAt.upto {w : World} {base : Option Addr} {xs : List Value} (h : ValsAt w base xs) (k : Nat) : ValsAt w base (xs.take k) := fun i u hi => by
 rw [List.getElem?_take] at hi
 split at hi
 ·exact h i u hi
 ·cases hi
section
variable {P : Program}
theorem slice_from {t e : TypeId} (ht : P.underlying t = some (.slice e)) (hz : ∀ w, (Go.sizeOf e).run P w = .ok 1 w) (base : Option Addr) (n cap k : Nat) (hk : k ≤ n) (W : World) :
  (Instr.slice t (.slice base n cap) (some (.int .i64 (k : Nat))) none none).run P W = .ok (.slice (fromB base cap k) (n - k) (cap - k)) W := by
 simp [Instr.slice, Instr.sliceBounds, Instr.sliceBound, run_underlying ht, hz, asIntOf, hk, fromB]
theorem slice_upto {t e : TypeId} (ht : P.underlying t = some (.slice e)) (hz : ∀ w, (Go.sizeOf e).run P w = .ok 1 w) (base : Option Addr) (n cap k : Nat) (hk : k ≤ n) (hn : n ≤ cap) (W : World) :
  (Instr.slice t (.slice base n cap) none (some (.int .i64 (k : Nat))) none).run P W = .ok (.slice base k cap) W := by
 have hb : base.map (·.add 0) = base := by cases base <;> simp [add_zero17]
 have hkc : k ≤ cap := by omega
 simp [Instr.slice, Instr.sliceBounds, Instr.sliceBound, run_underlying ht, hz, asIntOf, hkc, hb]
theorem src_vals {w : World} {tx e' : TypeId} (hk : P.underlying tx = some (.slice e')) {base : Option Addr} {cap : Nat} {ys : List Value} (hy : ValsAt w base ys) (hone : ∀ u ∈ ys, u.oneCell' = true) : ys = [] ∧ Src P 1 tx (.slice base 0 cap) 0 [] w ∨ 0 < ys.length ∧ Src P 1 tx (.slice base ys.length cap) ys.length ys w := by
 by_cases h0 : ys = []
 ·refine .inl ⟨h0, ?_⟩
  cases base with
  | none => exact Src.ofNil w hk cap
  | some a => exact Src.ofSlice w hk a 0 cap [] rfl (fun j u h => by simp at h) (fun u h => by cases h)
 ·refine .inr ⟨List.length_pos_iff.2 h0, ?_⟩
  obtain ⟨y, hy0⟩ : ∃ y, ys[0]? = some y := ⟨_, List.getElem?_eq_getElem (List.length_pos_iff.2 h0)⟩
  obtain ⟨b, o, rfl, -⟩ := hy 0 y hy0
  refine Src.ofSlice w hk _ _ cap ys (by rw [Nat.mul_one]) (fun j u h => ?_) hone
  obtain ⟨b2, o2, he, hc⟩ := hy j u h
  cases he
  rw [add_none17]
  exact hc
theorem app_vals {w : World} {t e : TypeId} {i0 : TypeInfo} {z : Value} {bytes : Nat} (ht : P.underlying t = some (.slice e)) (hi : P.info? e = some i0) (hz : i0.zero = some z) (hsize : i0.size = 1) (hby : i0.bytes = bytes) (hzs : z.cells.size = 1) (hbl : bytes ≤ 64)
  {v : Value} {n : Nat} {xs : List Value} (h : w.ownsRow 0 e 1 v n xs) {base : Option Addr} {cap : Nat} {ys : List Value} (hy : ValsAt w base ys) (hone : ∀ u ∈ ys, u.oneCell' = true) (hl : n + ys.length ≤ 1048576) (ty : TypeId) :
  ∃ ao' cap' w', (Builtin.append_ #[t, t] ty #[v, .slice base ys.length cap]).run P w = .ok (.slice ao' (n + ys.length) cap') w' ∧ w'.ownsRow 0 e 1 (.slice ao' (n + ys.length) cap') (n + ys.length) (xs ++ ys) ∧
   Ext v.ownBlock.toList w w' ∧ Fr w v.ownBlock.toList (Value.slice ao' (n + ys.length) cap').ownBlock.toList := by
 obtain ⟨ao, c0, rfl⟩ := row_slice h
 rcases src_vals (cap := cap) ht hy hone with ⟨rfl, hs⟩ | ⟨h0, hs⟩
 ·have hle : n ≤ c0 := row_le h
  refine ⟨ao, c0, w, run_append_nothing w t t ty e i0 ht hi ao n c0 hle _ (by rw [hsize]; exact hs), by simpa using h, Ext.refl _ _, Fr.refl _ _⟩
 ·have hb : (n + ys.length) * bytes ≤ 140737488355328 := by
   have : (n + ys.length) * bytes ≤ 1048576 * 64 := Nat.mul_le_mul hl hbl
   omega
  obtain ⟨g, c2, w', hr, h2, h3, h4, h5⟩ := run_append_src (P := P) w 0 t t ty e i0 z 1 bytes ht hi hz hsize hby hzs (by decide) _ _ _ h _ _ _ hs h0 (by unfold maxLen; omega) hb (by omega)
  refine ⟨_, c2, w', hr, h2, ⟨h3.os, h3.tape, h3.output, h3.size, fun k hk hS => h3.block k hk (fun e => hS (by simp [e]))⟩, fun q hq => ?_⟩
  obtain rfl : q = g := by simpa [Value.ownBlock] using hq
  rcases h4 with h | h
  ·exact .inl (by simp [h])
  ·exact .inr (by omega)
end
theorem own_vals {w : World} {e : TypeId} {v : Value} {n : Nat} {xs : List Value} (h : w.ownsRow 0 e 1 v n xs) : ∃ base cap, v = .slice base n cap ∧ n ≤ cap ∧ ValsAt w base xs := by
 obtain ⟨ao, cap, rfl⟩ := row_slice h
 refine ⟨ao, cap, rfl, row_le h, fun i u hi => ?_⟩
 have hl := (List.getElem?_eq_some_iff.1 hi).1
 rw [h.1, Nat.mul_one] at hl
 obtain ⟨g, c2, he⟩ := row_form h (by omega)
 cases he
 exact ⟨g, 0, rfl, by rw [Nat.zero_add]; exact row_cell h hi⟩
theorem empty_row {w : World} {e : TypeId} {k : Nat} : (w.alloc (.cells #[] e)).ownsRow 0 e k (.slice (some ⟨w.heap.size, 0, none⟩) 0 0) 0 [] :=
 ⟨by simp, .inr ⟨w.heap.size, 0, #[], rfl, Nat.zero_le _, heap_alloc_at _, Nat.le_refl _, by unfold maxLen; omega, by simp, by simp⟩⟩
end Go.Proofs.YtljachhmdogkdaaGreatDoor.Tr
namespace Go.Proofs.YtljachhmdogkdaaGreatDoor
open Go.RowKit
section
variable {P : Program} {ops : Array Oper} {C : World → Prop} {Q : Exit → Act → World → Prop}
def invB (ops : Array Oper) (m : Nat) (listed : Array Bool) : Bool :=
 decide (listed.size = ops.size) && (List.range ops.size).all (fun j => !(listed.getD j false) || (match ops[j]? with | some o => o.after.toList.all (fun e => !(Region.binds .any e) || listed.getD e.on false) | none => true)) && (List.range ops.size).all (fun t => decide (t < m) || !(listed.getD t true))
theorem invB_inv {m : Nat} {listed : Array Bool} (h : invB ops m listed = true) : HeadInv .any ops m listed := by
 simp only [invB, Bool.and_eq_true, decide_eq_true_eq] at h
 obtain ⟨⟨h1, h2⟩, h3⟩ := h
 refine ⟨h1, fun j oj hj hl e he hb => ?_, fun t ht htn => ?_⟩
 ·have hjs : j < ops.size := (Array.getElem?_eq_some_iff.1 hj).1
  have := List.all_eq_true.1 h2 j (List.mem_range.2 hjs)
  rw [hl, hj] at this
  simp only [Bool.not_true, Bool.false_or] at this
  have := List.all_eq_true.1 this e (Array.mem_toList_iff.2 he)
  rw [hb] at this
  simpa using this
 ·have := List.all_eq_true.1 h3 t (List.mem_range.2 htn)
  rw [decide_eq_false (by omega), Bool.false_or] at this
  simpa using this
def moreB (ops : Array Oper) (π : List Nat) (m : Nat) (listed : Array Bool) : Bool :=
 Region.noSelect ops && decide (m < ops.size) && Region.sinkB .any ops m && Region.chainB .any ops m && π.all (fun k => decide (k < m)) && (pick ops π).all noCall && headP .any ops π listed && invB ops m listed
theorem anyC_more (π : List Nat) {m : Nat} (r : Nat) {late : List Oper} {listed : Array Bool} {a : Act} {w : World} (hB : moreB ops π m listed = true) (hw : C w)
  (h : wpQuiet P ops C (fun a' => anyC P .any ops (NoPanic Q) C m (TailW P ops (NoPanic Q) m late) r (listAll π listed) a' w) (pick ops π) a) :
  anyC P .any ops (NoPanic Q) C m (TailW P ops (NoPanic Q) m late) (π.length + r) listed a w := by
 simp only [moreB, Bool.and_eq_true, decide_eq_true_eq] at hB
 obtain ⟨⟨⟨⟨⟨⟨⟨hsel, hn⟩, hs⟩, hc⟩, hlt⟩, hno⟩, hhead⟩, hinv⟩ := hB
 exact anyC_perm (P := P) (ops := ops) (md := .any) (Q := NoPanic Q) (C := C) (m := m) (r := r) (L := TailW P ops (NoPanic Q) m late) (w := w) hw (fun _ _ _ _ _ h => h) hsel hs hc hn
  (fun _ _ _ hL => seqB_ready hL.1) _ (fun a' h' => h') π listed a (fun k hk => by simpa using List.all_eq_true.1 hlt k hk) (fun o ho => List.all_eq_true.1 hno o ho) (invB_inv hinv) hhead rfl h
end
end Go.Proofs.YtljachhmdogkdaaGreatDoor
