/-
  HvD, HvE, HuL, HvF, in one text.
-/
import Derived.Test.YtnapnaaejignaaaGreatPkI
import Derived.Test.YtnapnaaejignaaaGreatPkH
import Derived.Deep.CutBlock
import Derived.Deep.DeepCutAuto
import Derived.Deep.Strs
/-! HvD: The document's 'deep' (chapter 7) walked. -/
namespace Go.Proofs.YtnapnaaejignaaaGreat.Hu
open Go.RowKit

theorem syms_leaf (c : Int) (s : Nat) : syms (.leaf c s) = [s] := rfl
theorem cells4_at {w W : World} {x y z u : Value} {t : TypeId} {b : Nat} (hW : w.alloc (.cells #[x, y, z, u] t) = W) (hb : w.heap.size = b) : ∀ j v, ([x, y, z, u] : List Value)[j]? = some v → W.cell? ((⟨b, 0, none⟩ : Addr).add j) = some v := fun j v hv => by
  subst hW hb
  rw [Addr.add_mid, Nat.zero_add]
  have h : (w.alloc (.cells #[x, y, z, u] t)).heap[w.heap.size]? = some (.cells #[x, y, z, u] t (0, 0)) := heap_alloc_at _
  rw [cellOf h, ← Array.getElem?_toList]
  exact hv
theorem cells4_new (w : World) (x : Value) (y : Value) (z : Value) (u : Value) (t : TypeId) : ∀ j v, ([x, y, z, u] : List Value)[j]? = some v → (w.alloc (.cells #[x, y, z, u] t)).cell? ((⟨w.heap.size, 0, none⟩ : Addr).add j) = some v := fun j v hv => by
  rw [Addr.add_mid, Nat.zero_add]
  have h : (w.alloc (.cells #[x, y, z, u] t)).heap[w.heap.size]? = some (.cells #[x, y, z, u] t (0, 0)) := heap_alloc_at _
  rw [cellOf h, ← Array.getElem?_toList]
  exact hv
end Go.Proofs.YtnapnaaejignaaaGreat.Hu

/-! HvE: The document's Lens (chapter 7) walked. -/
namespace Go.Proofs.YtnapnaaejignaaaGreat.Hu
open Go.RowKit

def allLe (m : Int) (l : List Int) : Bool := l.all fun x => decide (x ≤ m)
theorem allLe_snoc (m : Int) (l : List Int) (x : Int) : allLe m (l ++ [x]) = (allLe m l && decide (x ≤ m)) := by simp [allLe]
theorem okB_all (m : Int) (f : List Int) : okB m f = allLe m (deepN f) := by
  rw [Bool.eq_iff_iff]
  unfold okB allLe
  rw [decide_eq_true_iff, List.all_eq_true]
  constructor
  · rintro (h | h) x hx
    · have : (deepN f).length = 0 := by rw [deepN_len]; exact h
      rw [List.eq_nil_of_length_eq_zero this] at hx
      cases hx
    · exact decide_eq_true (Int.le_trans (le_maxL _ _ hx) h)
  · intro h
    by_cases h0 : f.length = 0
    · exact .inl h0
    · exact .inr (maxL_le _ _ (by rw [deepN_len]; omega) (fun x hx => of_decide_eq_true (h x hx)))
end Go.Proofs.YtnapnaaejignaaaGreat.Hu

/-! HuL: pagemenderkit.Same at int and at uint32; the chapter's example (huff). -/
namespace Go.Proofs.YtnapnaaejignaaaGreat.Hu
open Go.RowKit

/-- the value v is a slice of the numbers l (uint32) in the world w -/
def U32sAt (w : World) (v : Value) (l : List Nat) : Prop :=
  ∃ ao cap, v = .slice ao l.length cap ∧ (0 < l.length → ∃ b off, ao = some ⟨b, off, none⟩ ∧ ∀ i x, l[i]? = some x → w.cell? ⟨b, off + i, none⟩ = some (u32v x))
theorem U32sAt.ext {w w' : World} {v : Value} {l : List Nat} (h : U32sAt w v l) (hx : Ext [] w w') : U32sAt w' v l := by
  obtain ⟨ao, cap, rfl, hc⟩ := h
  refine ⟨ao, cap, rfl, fun hn => ?_⟩
  obtain ⟨b, off, rfl, h⟩ := hc hn
  exact ⟨b, off, rfl, fun i x hi => Ext.cell hx (h i x hi)⟩
theorem U32sAt.of_own {w : World} {v : Value} {l : List Nat} (h : w.ownsRow 0 32 1 v l.length (l.map u32v)) : U32sAt w v l := by
  rcases h.2 with ⟨rfl, hn⟩ | ⟨g, cap, cs, rfl, _, hg, hnc, hcap, hsz, ht⟩
  · exact ⟨none, 0, by rw [hn], fun h => by omega⟩
  · refine ⟨_, cap, rfl, fun _ => ⟨g, 0, rfl, fun i x hi => ?_⟩⟩
    rw [Nat.zero_add]
    exact ownsRow_at h (by rw [List.getElem?_map, hi]; rfl)
theorem U32sAt.of_block {w : World} {b cap : Nat} {cs : Array Value} {t : TypeId} {f : Nat × Nat} (l : List Nat) (n : Nat) (hn : l.length = n) (hb : w.heap[b]? = some (.cells cs t f)) (hc : cs.toList = l.map u32v) : U32sAt w (.slice (some ⟨b, 0, none⟩) n cap) l := by
  subst hn
  refine ⟨_, cap, rfl, fun _ => ⟨b, 0, rfl, fun i x hi => ?_⟩⟩
  rw [cellOf hb, Nat.zero_add, ← Array.getElem?_toList, hc, List.getElem?_map, hi]
  rfl
theorem IntsAt.of_block {w : World} {b cap : Nat} {cs : Array Value} {t : TypeId} {f : Nat × Nat} (l : List Int) (n : Nat) (hn : l.length = n) (hb : w.heap[b]? = some (.cells cs t f)) (hc : cs.toList = l.map iz) : IntsAt w (.slice (some ⟨b, 0, none⟩) n cap) l := by
  subst hn
  refine ⟨_, cap, rfl, fun _ => ⟨b, 0, rfl, fun i x hi => ?_⟩⟩
  rw [cellOf hb, Nat.zero_add, ← Array.getElem?_toList, hc, List.getElem?_map, hi]
  rfl
theorem IntsArg.of_block {w : World} {b : Nat} {cs : Array Value} {t : TypeId} {f : Nat × Nat} (l : List Int) (n : Nat) (hn : l.length = n) (hm : n ≤ maxLen) (hb : w.heap[b]? = some (.cells cs t f)) (hc : cs.toList = l.map iz) : IntsArg w (.slice (some ⟨b, 0, none⟩) n n) l :=
  ⟨IntsAt.of_block l n hn hb hc, _, n, by rw [hn], by omega, hm, fun h => by cases h⟩
theorem ex7_c : codesN [2, 1, 3, 3] = [2, 0, 6, 7] := by decide +kernel
theorem ex7_b : badL [2, 1, 3, 3] = false := by decide +kernel
theorem ex7_k : kra [2, 1, 3, 3] ≤ 32768 := by decide +kernel
theorem ex7_e : lensErr [5, 0, 1, 1] 15 = false := by decide +kernel
theorem ex7_f : fitB 0 15 [5, 0, 1, 1] = true := by decide +kernel
theorem ex7_l : lensF 0 15 [5, 0, 1, 1] = [1, 0, 2, 2] := by decide +kernel
end Go.Proofs.YtnapnaaejignaaaGreat.Hu

/-! HvF: The statement HuffCalls: what huff tells and what the document tells, side by side. -/
namespace Go.Proofs.YtnapnaaejignaaaGreat.Hu
open Go.RowKit
open Go.ChangeShapes Go.WideShapes

/-! ### the argument []int -/
theorem cellsInt7 : Tryz.prog.cellsOf 3 = 1 := by kernel_rfl
def IntsArg' (w : World) (v : Value) (l : List Int) : Prop := IntsArg w v l ∧ ∀ x ∈ l, -9223372036854775808 ≤ x ∧ x ≤ 9223372036854775807
set_option maxRecDepth 100000 in
theorem open_ints7 {H : Type} {enc : TypeId × Value → H} {w : World} {base : Nat} {sp : Nat → Bool} {held : Bool} {r : Reach} {b0 : Nat} {v : Value} {d : DataW H} {ps : List MemPlace} (hval : Value.okWide Tryz.prog w r b0 58 v) (hd : DataW.Trod enc Tryz.prog w base sp held 58 v d ps) :
    ∃ l, IntsArg' w v l := by
  obtain ⟨a0, len0, cap0, rfl⟩ := okWide_slice Tryz.underlying58 hval
  obtain ⟨fuel, hf⟩ := hd
  simp only [Value.cells] at hf
  rcases Go.Deep.open_slice Tryz.underlying58 hf with ⟨hc, _⟩ | ⟨a, len, cap, m, n, D, Pl, hc, _, hl, hm, hmm, _, hx⟩
  · obtain ⟨rfl, rfl, rfl⟩ : a0 = none ∧ len0 = 0 ∧ cap0 = 0 := by simpa using hc
    exact ⟨[], ⟨⟨none, 0, rfl, fun h => absurd h (Nat.lt_irrefl 0)⟩, none, 0, rfl, Nat.le_refl _, by unfold maxLen; omega, fun _ => rfl⟩, by simp⟩
  · obtain ⟨rfl, rfl, rfl⟩ : a0 = some a ∧ len0 = len ∧ cap0 = cap := by simpa using hc
    have hlm : len0 ≤ m := by rw [hmm]; split <;> omega
    have each : ∀ i, i < len0 → ∃ q : Int, w.cell? (a.add i) = some (.int .i64 q) ∧ -9223372036854775808 ≤ q ∧ q ≤ 9223372036854775807 := by
      intro i hi
      obtain ⟨cs', h1, h2⟩ := hx i (by omega)
      rw [cellsInt7, Nat.mul_one] at h1
      obtain ⟨_, hlen, hcell⟩ := World.cells?_some h1
      match cs', hlen with
      | [v0], _ =>
        have e0 := hcell 0 (by omega)
        obtain ⟨q, hq, _, hw⟩ := DataW.trod_int Tryz.underlying3 h2
        simp only [List.cons.injEq, and_true] at hq
        subst hq
        exact ⟨q, by rw [show (a.add i).add 0 = a.add i from by simp [Addr.add]] at e0; simpa using e0, Kt.wf_i64 hw⟩
    obtain ⟨f, hf⟩ := Go.Deep.choose_lt each
    have hfl : ((List.range len0).map f).length = len0 := by simp
    refine ⟨(List.range len0).map f, ⟨⟨some a, cap0, by rw [hfl], fun hn => ?_⟩, some a, cap0, by rw [hfl], by rw [hfl]; exact hl, hm, fun h => by cases h⟩, fun x hx => ?_⟩
    · rw [hfl] at hn
      have hspot : a.spot = none := by simpa [Addr.add] using World.cell?_spot (hf 0 hn).1
      obtain ⟨b, off, sp0⟩ := a
      obtain rfl : sp0 = none := hspot
      refine ⟨b, off, rfl, fun i x hi => ?_⟩
      have hi0 : i < len0 := by have := (List.getElem?_eq_some_iff.1 hi).1; omega
      rw [List.getElem?_map, List.getElem?_range hi0] at hi
      obtain rfl : f i = x := by simpa using hi
      obtain ⟨h0, _⟩ := hf i hi0
      have ad : ∀ k, (⟨b, off, none⟩ : Addr).add k = ⟨b, off + k, none⟩ := fun k => by unfold Addr.add; split <;> simp_all
      rw [ad] at h0
      exact h0
    · obtain ⟨i, hi, rfl⟩ := List.mem_map.1 hx
      exact (hf i (List.mem_range.1 hi)).2
/-! ### both answers -/
def codesO (l : List Int) : List Nat := if codesE l = 0 then codesN l else []
theorem codesO_len (l : List Int) : (codesO l).length ≤ l.length := by
  unfold codesO
  split
  · rw [codesN, codesF_len]; exact Nat.le_refl _
  · exact Nat.zero_le _
theorem codesE_zero {l : List Int} (h : codesE l = 0) : badL l = false ∧ kra l ≤ 32768 := by
  unfold codesE at h
  cases hb : badL l
  · rw [hb] at h
    simp only [Bool.false_eq_true, if_false] at h
    split at h
    · omega
    · exact ⟨rfl, by omega⟩
  · rw [hb] at h
    simp at h
theorem U32sAt.nil (w : World) : U32sAt w (.slice none 0 0) [] := ⟨none, 0, rfl, fun h => by simp at h⟩
theorem IntsAt.nil (w : World) : IntsAt w (.slice none 0 0) [] := ⟨none, 0, rfl, fun h => by simp at h⟩
def CodesR (w : World) (l : List Int) (e : Ending) (w' : World) : Prop := ∃ v', e = .returned (.tuple #[v', .int .i64 (codesE l)]) ∧ Ext [] w w' ∧ U32sAt w' v' (codesO l)
theorem codes_any (v : Value) (l : List Int) (w : World) (hv : IntsAt w v l) (hl : l.length ≤ 1048576) : Calls Tryz.prog 63 #[v] w (CodesR w l) := by
  by_cases he : codesE l = 0
  · obtain ⟨hb, hk⟩ := codesE_zero he
    refine (codes_ok v l w hv hl hb hk).mono ?_
    rintro e w' ⟨v', rfl, hx, hp, _⟩
    refine ⟨v', by rw [he], hx, U32sAt.of_own ?_⟩
    unfold codesO
    rw [if_pos he, show (codesN l).length = l.length from codesF_len _ _]
    exact hp
  · refine (codes_err v l w hv hl he).mono ?_
    rintro e w' ⟨rfl, hx⟩
    refine ⟨_, rfl, hx, ?_⟩
    unfold codesO
    rw [if_neg he]
    exact U32sAt.nil w'
def lensO (l : List Int) (m : Int) : List Int := if lensErr l m = true then [] else lensF 40 m l
def lensX (l : List Int) (m : Int) : Int := if lensErr l m = true then 2 else 0
theorem lensO_len (l : List Int) (m : Int) : (lensO l m).length ≤ l.length := by
  unfold lensO
  split
  · exact Nat.zero_le _
  · rw [lensF_len]; exact Nat.le_refl _
def LensR (w : World) (l : List Int) (m : Int) (e : Ending) (w' : World) : Prop := ∃ v', e = .returned (.tuple #[v', .int .i64 (lensX l m)]) ∧ Ext [] w w' ∧ IntsAt w' v' (lensO l m)
theorem LensR.of_ok {w w' : World} {l : List Int} {m : Int} {e : Ending} (he : lensErr l m = false) (h : NewTwo w (lensF 40 m l) e w') : LensR w l m e w' := by
  obtain ⟨v', rfl, hx, hp, _⟩ := h
  refine ⟨v', by unfold lensX; rw [he]; rfl, hx, ?_⟩
  unfold lensO
  rw [he]
  exact IntsAt.of_own hp
theorem LensR.of_err {w w' : World} {l : List Int} {m : Int} (he : lensErr l m = true) (hx : Ext [] w w') : LensR w l m (.returned (.tuple #[.slice none 0 0, .int .i64 2])) w' := by
  refine ⟨_, by unfold lensX; rw [he]; rfl, hx, ?_⟩
  unfold lensO
  rw [he]
  exact IntsAt.nil w'
theorem lens_any (v : Value) (l : List Int) (m : Int) (w : World) (hv : IntsArg w v l) (hl : l.length ≤ 1048576) (hm0 : -9223372036854775808 ≤ m) (hm9 : m ≤ 9223372036854775807) :
    Calls Tryz.prog 34 #[v, .int .i64 m] w (LensR w l m) := by
  cases he : lensErr l m
  · exact (lens_ok v l m 40 w hv he (fit_all he)).mono fun e w' h => LensR.of_ok he h
  · refine (lens_err v l m w hv hl hm0 hm9 he).mono ?_
    rintro e w' ⟨rfl, hx⟩
    exact LensR.of_err he hx
end Go.Proofs.YtnapnaaejignaaaGreat.Hu
