/-
  Rows of one cell each: slices of them, appended to a row of the call's own; kit.LightTrees, kit.Own walked.
-/
import Derived.Test.YtgpgamohcafklaaGreatDoorPkY
import Derived.Deep.Upon
import Derived.Deep.Strs
import Derived.Lib.AppendZeros
namespace Go.Proofs.YtgpgamohcafklaaGreatDoor.Tr
open Go.RowKit

/-- values that lie behind a base -/
def ValsAt (w : World) (base : Option Addr) (xs : List Value) : Prop := ∀ i u, xs[i]? = some u → ∃ b o, base = some ⟨b, o, none⟩ ∧ w.cell? ⟨b, o + i, none⟩ = some u
theorem ValsAt.ext {w w' : World} {base : Option Addr} {xs : List Value} (h : ValsAt w base xs) (hx : Ext [] w w') : ValsAt w' base xs := fun i u hi => by
  obtain ⟨b, o, h1, h2⟩ := h i u hi
  exact ⟨b, o, h1, hx.cell h2⟩
theorem add_zero17 (a : Addr) : a.add 0 = a := by obtain ⟨b, o, s⟩ := a; unfold Addr.add; split <;> simp_all
theorem add_none17 (b o k : Nat) : (⟨b, o, none⟩ : Addr).add k = ⟨b, o + k, none⟩ := by unfold Addr.add; split <;> simp_all
def fromB (base : Option Addr) (cap k : Nat) : Option Addr := if cap = k then base else base.map (·.add k)
theorem ValsAt.from {w : World} {base : Option Addr} {xs : List Value} (h : ValsAt w base xs) {cap : Nat} (hc : xs.length ≤ cap) (k : Nat) : ValsAt w (fromB base cap k) (xs.drop k) := fun i u hi => by
  rw [List.getElem?_drop] at hi
  have hl := (List.getElem?_eq_some_iff.1 hi).1
  obtain ⟨b, o, rfl, h2⟩ := h (k + i) u hi
  rw [fromB, if_neg (by omega)]
  refine ⟨b, o + k, by rw [Option.map_some, add_none17], ?_⟩
  rw [Nat.add_assoc]
  exact h2
theorem ValsAt.upto {w : World} {base : Option Addr} {xs : List Value} (h : ValsAt w base xs) (k : Nat) : ValsAt w base (xs.take k) := fun i u hi => by
  rw [List.getElem?_take] at hi
  split at hi
  · exact h i u hi
  · cases hi
section
variable {P : Program}
theorem slice_from {t e : TypeId} (ht : P.underlying t = some (.slice e)) (hz : ∀ w, (Go.sizeOf e).run P w = .ok 1 w) (base : Option Addr) (n cap k : Nat) (hk : k ≤ n) (W : World) :
    (Instr.slice t (.slice base n cap) (some (.int .i64 (k : Nat))) none none).run P W = .ok (.slice (fromB base cap k) (n - k) (cap - k)) W := by
  simp [Instr.slice, Instr.sliceBounds, Instr.sliceBound, run_underlying ht, hz, asIntOf, hk, fromB]
theorem slice_upto {t e : TypeId} (ht : P.underlying t = some (.slice e)) (hz : ∀ w, (Go.sizeOf e).run P w = .ok 1 w) (base : Option Addr) (n cap k : Nat) (hk : k ≤ n) (hn : n ≤ cap) (W : World) :
    (Instr.slice t (.slice base n cap) none (some (.int .i64 (k : Nat))) none).run P W = .ok (.slice base k cap) W := by
  have hb : base.map (·.add 0) = base := by cases base <;> simp [add_zero17]
  have hkc : k ≤ cap := by omega
  simp [Instr.slice, Instr.sliceBounds, Instr.sliceBound, run_underlying ht, hz, asIntOf, hkc, hb]
theorem src_vals {w : World} {tx e' : TypeId} (hk : P.underlying tx = some (.slice e')) {base : Option Addr} {cap : Nat} {ys : List Value} (hy : ValsAt w base ys) (hone : ∀ u ∈ ys, u.oneCell' = true) : ys = [] ∧ Src P 1 tx (.slice base 0 cap) 0 [] w ∨ 0 < ys.length ∧ Src P 1 tx (.slice base ys.length cap) ys.length ys w := by
  by_cases h0 : ys = []
  · refine .inl ⟨h0, ?_⟩
    cases base with
    | none => exact Src.ofNil w hk cap
    | some a => exact Src.ofSlice w hk a 0 cap [] rfl (fun j u h => by simp at h) (fun u h => by cases h)
  · refine .inr ⟨List.length_pos_iff.2 h0, ?_⟩
    obtain ⟨y, hy0⟩ : ∃ y, ys[0]? = some y := ⟨_, List.getElem?_eq_getElem (List.length_pos_iff.2 h0)⟩
    obtain ⟨b, o, rfl, -⟩ := hy 0 y hy0
    refine Src.ofSlice w hk _ _ cap ys (by rw [Nat.mul_one]) (fun j u h => ?_) hone
    obtain ⟨b2, o2, he, hc⟩ := hy j u h
    cases he
    rw [add_none17]
    exact hc
/-- a slice is appended to a row of the call's own -/
theorem app_vals {w : World} {t e : TypeId} {i0 : TypeInfo} {z : Value} {bytes : Nat} (ht : P.underlying t = some (.slice e)) (hi : P.info? e = some i0) (hz : i0.zero = some z) (hsize : i0.size = 1) (hby : i0.bytes = bytes) (hzs : z.cells.size = 1) (hbl : bytes ≤ 64)
    {v : Value} {n : Nat} {xs : List Value} (h : w.ownsRow 0 e 1 v n xs) {base : Option Addr} {cap : Nat} {ys : List Value} (hy : ValsAt w base ys) (hone : ∀ u ∈ ys, u.oneCell' = true) (hl : n + ys.length ≤ 1048576) (ty : TypeId) :
    ∃ ao' cap' w', (Builtin.append_ #[t, t] ty #[v, .slice base ys.length cap]).run P w = .ok (.slice ao' (n + ys.length) cap') w' ∧ w'.ownsRow 0 e 1 (.slice ao' (n + ys.length) cap') (n + ys.length) (xs ++ ys) ∧
      Ext v.ownBlock.toList w w' ∧ Fr w v.ownBlock.toList (Value.slice ao' (n + ys.length) cap').ownBlock.toList := by
  obtain ⟨ao, c0, rfl⟩ := row_slice h
  rcases src_vals (cap := cap) ht hy hone with ⟨rfl, hs⟩ | ⟨h0, hs⟩
  · have hle : n ≤ c0 := row_le h
    refine ⟨ao, c0, w, run_append_nothing w t t ty e i0 ht hi ao n c0 hle _ (by rw [hsize]; exact hs), by simpa using h, Ext.refl _ _, Fr.refl _ _⟩
  · have hb : (n + ys.length) * bytes ≤ 140737488355328 := by
      have : (n + ys.length) * bytes ≤ 1048576 * 64 := Nat.mul_le_mul hl hbl
      omega
    obtain ⟨g, c2, w', hr, h2, h3, h4, h5⟩ := run_append_src (P := P) w 0 t t ty e i0 z 1 bytes ht hi hz hsize hby hzs (by decide) _ _ _ h _ _ _ hs h0 (by unfold maxLen; omega) hb (by omega)
    refine ⟨_, c2, w', hr, h2, ⟨h3.os, h3.tape, h3.output, h3.size, fun k hk hS => h3.block k hk (fun e => hS (by simp [e]))⟩, fun q hq => ?_⟩
    obtain rfl : q = g := by simpa [Value.ownBlock] using hq
    rcases h4 with h | h
    · exact .inl (by simp [h])
    · exact .inr (by omega)
end
theorem strs_vals {w : World} {base : Option Addr} {n cap : Nat} {l : List ByteArray} (h : StrsAt w (.slice base n cap) l) : n = l.length ∧ n ≤ cap ∧ ValsAt w base (stC l) := by
  obtain ⟨b2, c2, he, hc, hv⟩ := h
  injection he with e1 e2 e3
  subst e1 e2 e3
  refine ⟨rfl, hc, fun i u hi => ?_⟩
  rw [stC, List.getElem?_map] at hi
  obtain ⟨s, hs, rfl⟩ := Option.map_eq_some_iff.1 hi
  obtain ⟨hl, he⟩ := List.getElem?_eq_some_iff.1 hs
  obtain ⟨b, o, h1, h2⟩ := hv i hl
  rw [he] at h2
  exact ⟨b, o, h1, h2⟩
theorem vals_strs {w : World} {base : Option Addr} {cap : Nat} {l : List ByteArray} (h : ValsAt w base (stC l)) (hc : l.length ≤ cap) : StrsAt w (.slice base l.length cap) l :=
  ⟨base, cap, rfl, hc, fun i hi => h i _ (by rw [stC, List.getElem?_map, List.getElem?_eq_getElem hi]; rfl)⟩
/-- trees: their values, each of which is one -/
def TrVals (w : World) (vs : List Value) (ls : List (List Nd)) : Prop := vs.length = ls.length ∧ ∀ (i : Nat) (v : Value) (l : List Nd), vs[i]? = some v → ls[i]? = some l → NodesAt w v l
theorem TrVals.ext {w w' : World} {vs : List Value} {ls : List (List Nd)} (h : TrVals w vs ls) (hx : Ext [] w w') : TrVals w' vs ls := ⟨h.1, fun i v l h1 h2 => (h.2 i v l h1 h2).ext hx⟩
theorem TrVals.one {w : World} {vs : List Value} {ls : List (List Nd)} (h : TrVals w vs ls) : ∀ u ∈ vs, u.oneCell' = true := fun u hu => by
  obtain ⟨i, hi⟩ := List.getElem?_of_mem hu
  have hl := (List.getElem?_eq_some_iff.1 hi).1
  obtain ⟨b, c, rfl, -⟩ := h.2 i u _ hi (List.getElem?_eq_getElem (by rw [← h.1]; exact hl))
  rfl
theorem trees_vals {w : World} {base : Option Addr} {n cap : Nat} {ls : List (List Nd)} (h : TreesAt w (.slice base n cap) ls) : n = ls.length ∧ n ≤ cap ∧ ∃ vs, ValsAt w base vs ∧ TrVals w vs ls := by
  obtain ⟨b2, c2, he, hc, hv⟩ := h
  injection he with e1 e2 e3
  subst e1 e2 e3
  refine ⟨rfl, hc, ?_⟩
  have each : ∀ i, i < ls.length → ∃ q : Value, ∀ h : i < ls.length, ∃ b o, base = some ⟨b, o, none⟩ ∧ w.cell? ⟨b, o + i, none⟩ = some q ∧ NodesAt w q (ls[i]'h) := fun i hi => by
    obtain ⟨b, o, vk, h1, h2, h3⟩ := hv i hi
    exact ⟨vk, fun _ => ⟨b, o, h1, h2, h3⟩⟩
  obtain ⟨f, hf⟩ := Go.Deep.choose_lt each
  have hfl : ((List.range ls.length).map f).length = ls.length := by simp
  refine ⟨(List.range ls.length).map f, fun i u hi => ?_, hfl, fun i v l h1 h2 => ?_⟩
  · have hl := (List.getElem?_eq_some_iff.1 hi).1
    rw [hfl] at hl
    rw [List.getElem?_map, List.getElem?_range hl] at hi
    obtain rfl : f i = u := by simpa using hi
    obtain ⟨b, o, h1, h2, -⟩ := hf i hl hl
    exact ⟨b, o, h1, h2⟩
  · obtain ⟨hl, he⟩ := List.getElem?_eq_some_iff.1 h2
    rw [List.getElem?_map, List.getElem?_range hl] at h1
    obtain rfl : f i = v := by simpa using h1
    obtain ⟨b, o, -, -, h3⟩ := hf i hl hl
    rw [he] at h3
    exact h3
theorem vals_trees {w : World} {base : Option Addr} {cap : Nat} {vs : List Value} {ls : List (List Nd)} (h : ValsAt w base vs) (ht : TrVals w vs ls) (hc : ls.length ≤ cap) : TreesAt w (.slice base ls.length cap) ls :=
  ⟨base, cap, rfl, hc, fun i hi => by
    have hl : i < vs.length := by rw [ht.1]; exact hi
    obtain ⟨b, o, h1, h2⟩ := h i _ (List.getElem?_eq_getElem hl)
    exact ⟨b, o, _, h1, h2, ht.2 i _ _ (List.getElem?_eq_getElem hl) (List.getElem?_eq_getElem hi)⟩⟩
theorem TrVals.drop {w : World} {vs : List Value} {ls : List (List Nd)} (h : TrVals w vs ls) (k : Nat) : TrVals w (vs.drop k) (ls.drop k) :=
  ⟨by rw [List.length_drop, List.length_drop, h.1], fun i v l h1 h2 => by rw [List.getElem?_drop] at h1 h2; exact h.2 _ v l h1 h2⟩
theorem TrVals.take {w : World} {vs : List Value} {ls : List (List Nd)} (h : TrVals w vs ls) (k : Nat) : TrVals w (vs.take k) (ls.take k) :=
  ⟨by rw [List.length_take, List.length_take, h.1], fun i v l h1 h2 => by
    rw [List.getElem?_take] at h1 h2
    split at h1
    · rename_i hik
      rw [if_pos hik] at h2
      exact h.2 _ v l h1 h2
    · cases h1⟩
theorem TrVals.append {w : World} {vs us : List Value} {ls ms : List (List Nd)} (h : TrVals w vs ls) (h' : TrVals w us ms) : TrVals w (vs ++ us) (ls ++ ms) :=
  ⟨by rw [List.length_append, List.length_append, h.1, h'.1], fun i v l h1 h2 => by
    rcases Nat.lt_or_ge i vs.length with q | q
    · rw [List.getElem?_append_left q] at h1
      rw [List.getElem?_append_left (by rw [← h.1]; exact q)] at h2
      exact h.2 _ v l h1 h2
    · rw [List.getElem?_append_right q] at h1
      rw [List.getElem?_append_right (by rw [← h.1]; exact q), ← h.1] at h2
      exact h'.2 _ v l h1 h2⟩
theorem own_vals {w : World} {e : TypeId} {v : Value} {n : Nat} {xs : List Value} (h : w.ownsRow 0 e 1 v n xs) : ∃ base cap, v = .slice base n cap ∧ n ≤ cap ∧ ValsAt w base xs := by
  obtain ⟨ao, cap, rfl⟩ := row_slice h
  refine ⟨ao, cap, rfl, row_le h, fun i u hi => ?_⟩
  have hl := (List.getElem?_eq_some_iff.1 hi).1
  rw [h.1, Nat.mul_one] at hl
  obtain ⟨g, c2, he⟩ := row_form h (by omega)
  cases he
  exact ⟨g, 0, rfl, by rw [Nat.zero_add]; exact row_cell h hi⟩
/-- a row without anything in it, in a block of its own -/
theorem empty_row {w : World} {e : TypeId} {k : Nat} : (w.alloc (.cells #[] e)).ownsRow 0 e k (.slice (some ⟨w.heap.size, 0, none⟩) 0 0) 0 [] :=
  ⟨by simp, .inr ⟨w.heap.size, 0, #[], rfl, Nat.zero_le _, heap_alloc_at _, Nat.le_refl _, by unfold maxLen; omega, by simp, by simp⟩⟩
def lightT (ls : List (List Nd)) (many most : Int) : Bool := ls.all (fun l => lightL l most) && decide ((ls.length : Int) ≤ many)
end Go.Proofs.YtgpgamohcafklaaGreatDoor.Tr
