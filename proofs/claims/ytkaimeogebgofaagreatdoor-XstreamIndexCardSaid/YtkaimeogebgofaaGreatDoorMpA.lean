/-
  Maps that a call has made, told by a function from keys to elements: look-up, with and without 'ok', store, delete.
-/
import Derived.Test.YtkaimeogebgofaaGreatDoorPkA
import Derived.Maps.Own
import Derived.Maps.OwnSet
import Derived.Maps.OwnOps
import Derived.Maps.Views
import Derived.Carry
namespace Go.Proofs.YtkaimeogebgofaaGreatDoor.Mp
open Go.RowKit Go.Maps Go.WideElems Go.ChangeMaps

/-- an element reads as what it is -/
def RH : Value → Option (DataW Value × List MemPlace) := fun v => some (.held v, [])
section
variable {κ : Type} {P : Program} {k : TypeId} {mk : κ → Value} {w : World} {b n : Nat} {f : κ → Option Value}
/-- block b is a map of at most n entries; at x it has f x -/
def MapAt (P : Program) (k : TypeId) (mk : κ → Value) (w : World) (b n : Nat) (f : κ → Option Value) : Prop :=
  ∃ D : DataW Value, w.ownsMap P k RH b n D ∧ ∀ x kl, keyOf P k (mk x) = some kl → (∀ v, f x = some v → ∀ z, D.atKey kl z = .held v) ∧ (f x = none → Maps.has D kl = false)
theorem MapAt.made (w : World) (P : Program) (k : TypeId) (mk : κ → Value) : MapAt P k mk (w.alloc (.map #[] 0)) w.heap.size 0 (fun _ => none) :=
  ⟨_, World.ownsMap_made _ _ _ _, fun x kl _ => ⟨fun v h => (by cases h), fun _ => rfl⟩⟩
theorem MapAt.lt (h : MapAt P k mk w b n f) : b < w.heap.size := by obtain ⟨D, h, -⟩ := h; exact h.lt
theorem MapAt.ext {S : List Nat} {w' : World} (h : MapAt P k mk w b n f) (hx : Ext S w w') (hS : b ∉ S) : MapAt P k mk w' b n f := by
  obtain ⟨D, ⟨es, clock, hb, F, hs, hD⟩, hf⟩ := h
  exact ⟨D, ⟨es, clock, hx.keep hb hS, F, hs, hD⟩, hf⟩
theorem MapAt.mono (h : MapAt P k mk w b n f) {n' : Nat} (hn : n ≤ n') : MapAt P k mk w b n' f := by
  obtain ⟨D, h, hf⟩ := h
  exact ⟨D, h.mono hn, hf⟩
theorem MapAt.look_ok {t e : TypeId} (h : MapAt P k mk w b n f) (K : Keyed P k) (ht : P.underlying t = some (.map k e)) {z : Value} (hz : (zeroValue e).run P w = .ok z w) {x : κ} {kl : Lit} (hkey : keyOf P k (mk x) = some kl) :
    (Instr.lookup t (.map (some b)) (mk x) true).run P w = .ok (.tuple #[(f x).getD z, .bool (f x).isSome]) w := by
  obtain ⟨D, h, hf⟩ := h
  obtain ⟨v, ps, h1, h2⟩ := h.look_ok K ht hz (zd := .held z) (zp := []) rfl hkey
  unfold RH at h2
  simp only [Option.some.injEq, Prod.mk.injEq] at h2
  obtain ⟨q1, q2⟩ := hf x kl hkey
  cases hfx : f x with
  | none =>
    have h3 := q2 hfx
    rw [Maps.atKey_of_not_has h3] at h2
    have h4 := h2.1
    injection h4 with h4
    rw [h3, h4] at h1
    exact h1
  | some u =>
    have h3 := q1 u hfx
    rw [h3] at h2
    have h4 := h2.1
    injection h4 with h4
    rw [Maps.has_true_of_atKey h3, h4] at h1
    exact h1
theorem MapAt.look {t e : TypeId} (h : MapAt P k mk w b n f) (K : Keyed P k) (ht : P.underlying t = some (.map k e)) {z : Value} (hz : (zeroValue e).run P w = .ok z w) {x : κ} {kl : Lit} (hkey : keyOf P k (mk x) = some kl) :
    (Instr.lookup t (.map (some b)) (mk x) false).run P w = .ok ((f x).getD z) w := by
  obtain ⟨D, h, hf⟩ := h
  obtain ⟨v, ps, h1, h2⟩ := h.lookup K ht hz (zd := .held z) (zp := []) rfl hkey
  unfold RH at h2
  simp only [Option.some.injEq, Prod.mk.injEq] at h2
  obtain ⟨q1, q2⟩ := hf x kl hkey
  cases hfx : f x with
  | none =>
    rw [Maps.atKey_of_not_has (q2 hfx)] at h2
    have h4 := h2.1
    injection h4 with h4
    rw [h4] at h1
    exact h1
  | some u =>
    rw [q1 u hfx] at h2
    have h4 := h2.1
    injection h4 with h4
    rw [h4] at h1
    exact h1
theorem ext_turned {w w' : World} {b : Nat} (h : w.mapTurned w' b) : Ext [b] w w' :=
  (Ext.refl [b] w).grown h.grown (fun k hk => .inl (by cases hk; simp))
theorem MapAt.store [DecidableEq κ] {t e : TypeId} (h : MapAt P k mk w b n f) (K : Keyed P k) (hmk : ∀ x y, mk x = mk y → x = y) (ht : P.underlying t = some (.map k e)) (hn : n < maxLen) {x : κ} {kl : Lit} (hkey : keyOf P k (mk x) = some kl) (val : Value) :
    ∃ w', (Instr.mapUpdate t (.map (some b)) (mk x) val).run P w = .ok () w' ∧ MapAt P k mk w' b (n + 1) (fun y => if y = x then some val else f y) ∧ Ext [b] w w' := by
  obtain ⟨D, h, hf⟩ := h
  obtain ⟨w', h1, h2, h3⟩ := h.store K ht hn hkey (val := val) (d := .held val) (ps := []) rfl
  refine ⟨w', h1, ⟨_, h2, fun y yl hy => ?_⟩, ext_turned h3⟩
  by_cases hyx : y = x
  · subst hyx
    obtain rfl : yl = kl := Option.some.inj (hy.symm.trans hkey)
    dsimp only
    rw [if_pos rfl]
    refine ⟨fun v hv z => ?_, fun h => by cases h⟩
    obtain rfl := Option.some.inj hv
    exact Maps.atKey_put_same h.isMap (K.key hkey) _ _
  · dsimp only
    rw [if_neg hyx]
    have hne : yl ≠ kl := fun e => hyx (hmk _ _ (K.inj (by rw [hy, e]) hkey))
    obtain ⟨q1, q2⟩ := hf y yl hy
    exact ⟨fun v hv z => by rw [Maps.atKey_put_other hne]; exact q1 v hv z, fun hv => by rw [Maps.has_put_other hne]; exact q2 hv⟩
theorem MapAt.drop [DecidableEq κ] {t e : TypeId} (h : MapAt P k mk w b n f) (K : Keyed P k) (hmk : ∀ x y, mk x = mk y → x = y) (ht : P.underlying t = some (.map k e)) {x : κ} {kl : Lit} (hkey : keyOf P k (mk x) = some kl) (ty : TypeId) :
    ∃ w', (Builtin.delete_ #[t, k] ty #[.map (some b), mk x]).run P w = .ok (.tuple #[]) w' ∧ MapAt P k mk w' b n (fun y => if y = x then none else f y) ∧ Ext [b] w w' := by
  obtain ⟨D, h, hf⟩ := h
  obtain ⟨w', h1, h2, h3⟩ := h.drop K ht hkey ty
  refine ⟨w', h1, ⟨_, h2, fun y yl hy => ?_⟩, ext_turned h3⟩
  by_cases hyx : y = x
  · subst hyx
    obtain rfl : yl = kl := Option.some.inj (hy.symm.trans hkey)
    dsimp only
    rw [if_pos rfl]
    exact ⟨fun v hv => (by cases hv), fun _ => Maps.has_del_same⟩
  · dsimp only
    rw [if_neg hyx]
    have hne : yl ≠ kl := fun e => hyx (hmk _ _ (K.inj (by rw [hy, e]) hkey))
    obtain ⟨q1, q2⟩ := hf y yl hy
    exact ⟨fun v hv z => by rw [Maps.atKey_del_other hne]; exact q1 v hv z, fun hv => by rw [Maps.has_del_other hne]; exact q2 hv⟩
/-- a map as an object of the call's own -/
def oMp (P : Program) (k : TypeId) (mk : κ → Value) (b n : Nat) (f : κ → Option Value) : Ob where
  F := [b]
  P := fun w => MapAt P k mk w b n f
  ok := fun h hx hS => h.ext hx (hS b (by simp))
  lt := fun h q hq => by
    obtain rfl : q = b := by simpa using hq
    exact h.lt
/-- 'm[k] = v' at the operation -/
theorem wpList_store_mp [DecidableEq κ] {ops : Array Oper} {rest : List Oper} {o : Oper} {a : Act} {Q : Exit → Act → World → Prop} (hg : o.guard = none) (m x v : Operand) (t : TypeId) (hop : o.op = Op.mapUpdate t m x v)
    (e : TypeId) (K : Keyed P k) (hmk : ∀ x y, mk x = mk y → x = y) (ht : P.underlying t = some (.map k e)) (hm : a.eval m = .map (some b)) (h : MapAt P k mk w b n f) (hn : n < maxLen) (y : κ) (val : Value) (kl : Lit) (hx : a.eval x = mk y) (hv : a.eval v = val) (hkey : keyOf P k (mk y) = some kl)
    (hK : ∀ w', MapAt P k mk w' b (n + 1) (fun q => if q = y then some val else f q) → Ext [b] w w' → wpList P ops Q rest (a.put o.dst undef) w') :
    wpList P ops Q (o :: rest) a w := by
  refine wpList_plain hg fun K' hK' => ?_
  obtain ⟨w', hrun, r1, r2⟩ := h.store K hmk ht hn hkey val
  unfold Oper.wp
  simp [execOp, hop, hm, hx, hv, hrun, Result.andThen]
  exact hK' _ _ (hK w' r1 r2)
end
/-! ### keys that are ints -/
abbrev mkI : Int → Value := fun x => .int .i64 x
theorem mkI_inj : ∀ x y : Int, mkI x = mkI y → x = y := fun x y h => by injection h
end Go.Proofs.YtkaimeogebgofaaGreatDoor.Mp
