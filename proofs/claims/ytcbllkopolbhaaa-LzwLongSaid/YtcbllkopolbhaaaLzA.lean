/-
  The table of lzw.Codes: a map whose keys are edges {row, byte}, as a list of edges (the edge at place i has the number 258 + i); what Codes tells, as a plain function.
-/
import Derived.Test.YtcbllkopolbhaaaBitsUse
import Derived.Test.YtcbllkopolbhaaaRow
import Derived.Maps.OwnSet
import Derived.DeepKeys4
namespace Go.Proofs.Ytcbllkopolbhaaa.Lz
open Go.RowKit Go.Maps

/-! ### plain -/
def look (tb : List (Nat × Nat)) (k : Nat × Nat) : Option Nat := (tb.findIdx? (· == k)).map (258 + ·)
/-- the longest row that is known: its number, and what stands behind it -/
def ext (tb : List (Nat × Nat)) : Nat → List Nat → Nat × List Nat
  | row, [] => (row, [])
  | row, c :: r => match look tb (row, c) with
    | none => (row, c :: r)
    | some n => ext tb n r
theorem ext_len (tb : List (Nat × Nat)) : ∀ (row : Nat) (l : List Nat), (ext tb row l).2.length ≤ l.length
  | _, [] => Nat.le_refl _
  | row, c :: r => by
    unfold ext
    split
    · exact Nat.le_refl _
    · exact Nat.le_trans (ext_len tb _ r) (Nat.le_succ _)
def grow (tb : List (Nat × Nat)) (row : Nat) : List Nat → List (Nat × Nat)
  | [] => tb
  | d :: _ => tb ++ [(row, d)]
/-- the codes of the bytes l, the table being tb and known the numbers that a reader has (f: rounds at most) -/
def codesF : Nat → List (Nat × Nat) → Nat → List Nat → List Nat
  | 0, _, _, _ => [257]
  | _ + 1, _, _, [] => [257]
  | f + 1, tb, known, c :: r =>
    let e := ext tb c r
    if known + 1 = 4094 then e.1 :: 256 :: codesF f [] 257 e.2 else e.1 :: codesF f (grow tb e.1 e.2) (known + 1) e.2
def codes (l : List Nat) : List Nat := 256 :: codesF l.length [] 257 l
theorem codesF_fuel : ∀ (f : Nat) (tb : List (Nat × Nat)) (known : Nat) (l : List Nat), l.length ≤ f → codesF f tb known l = codesF l.length tb known l
  | 0, _, _, l, h => by
    obtain rfl : l = [] := List.length_eq_zero_iff.1 (by omega)
    rfl
  | f + 1, _, _, [], _ => by simp [codesF]
  | f + 1, tb, known, c :: r, h => by
    have hl := ext_len tb c r
    have h' : r.length ≤ f := by simpa using h
    rw [List.length_cons]
    unfold codesF
    simp only
    rw [codesF_fuel f _ _ _ (Nat.le_trans hl h'), codesF_fuel f _ _ _ (Nat.le_trans hl h'), codesF_fuel r.length _ _ _ hl, codesF_fuel r.length _ _ _ hl]
theorem look_none {tb : List (Nat × Nat)} {k : Nat × Nat} : look tb k = none ↔ k ∉ tb := by
  simp [look]
  grind
theorem look_snoc_same {tb : List (Nat × Nat)} {k : Nat × Nat} (h : look tb k = none) : look (tb ++ [k]) k = some (258 + tb.length) := by
  have h' : tb.findIdx? (· == k) = none := by simpa [look] using h
  simp [look, List.findIdx?_append, h', List.findIdx?_cons]
theorem look_snoc_other {tb : List (Nat × Nat)} {k k' : Nat × Nat} (h : k' ≠ k) : look (tb ++ [k]) k' = look tb k' := by
  have hk : (k == k') = false := by simpa using Ne.symm h
  simp only [look, List.findIdx?_append, List.findIdx?_cons, hk, List.findIdx?_nil]
  cases tb.findIdx? (· == k') <;> simp

/-! ### the keys -/
theorem rowEdge : 41 < Try.prog.types.size := by decide +kernel
theorem wideEdge : (match Try.prog.underlying 41 with | some (.array _ _) | some (.struct _) => true | _ => false) = true := by rw [Try.underlying41]
theorem laidOut : laidOutB Try.prog = true := by kernel_rfl
theorem law : Keyed Try.prog 41 := Keyed.of_law (deep_law_laid laidOut (m := 2) (by omega) rowEdge (by kernel_rfl) wideEdge)
def ev (r c : Nat) : Value := .agg #[.int .i64 r, .int .u8 c]
noncomputable def ek (r c : Nat) : Lit := (keyOf Try.prog 41 (ev r c)).getD .nil
theorem keyType : Try.prog.keyType 41 = true := by kernel_rfl
theorem cellsEdge : Try.prog.cellsOf 41 = 2 := by kernel_rfl
theorem cellsI : Try.prog.cellsOf 3 = 1 := by kernel_rfl
theorem cellsB : Try.prog.cellsOf 5 = 1 := by kernel_rfl
theorem ev_key (r c : Nat) (hr : r < 2 ^ 62) (hc : c < 256) : keyOf Try.prog 41 (ev r c) = some (ek r c) := by
  have : ∃ l, keyOf Try.prog 41 (ev r c) = some l := by
    obtain ⟨m, hm⟩ : ∃ m, Try.prog.types.size + 1 = m + 2 := ⟨Try.prog.types.size - 1, by have := rowEdge; omega⟩
    have hwr : (Lit.int .i64 (r : Int)).wf = true := by simp [Lit.wf, IntKind.min, IntKind.max, IntKind.signed, IntKind.bits]; omega
    have hwc : (Lit.int .u8 (c : Int)).wf = true := by simp [Lit.wf, IntKind.min, IntKind.max, IntKind.signed, IntKind.bits]; omega
    unfold keyOf ev
    simp only [Try.underlying41, keyType, Value.formed, cellsEdge]
    rw [hm]
    simp [Program.keyLits, Try.underlying41, cellsEdge, Try.underlying3, Try.underlying5, cellsI, cellsB, Value.cells, hwr, hwc]
  obtain ⟨l, hl⟩ := this
  unfold ek
  rw [hl]
  rfl
theorem ek_inj {r c r' c' : Nat} (hr : r < 2 ^ 62) (hc : c < 256) (hr' : r' < 2 ^ 62) (hc' : c' < 256) (h : ek r c = ek r' c') : (r, c) = (r', c') := by
  have h1 := ev_key r c hr hc
  have h2 := ev_key r' c' hr' hc'
  rw [← h] at h2
  have := law.inj h1 h2
  simp only [ev, Value.agg.injEq, Array.mk.injEq, List.cons.injEq, Value.int.injEq, true_and, and_true] at this
  rw [show r = r' by omega, show c = c' by omega]

/-! ### the map as the list of its edges -/
def TB {H : Type} (D : DataW H) (tb : List (Nat × Nat)) : Prop :=
  size D = tb.length ∧ (∀ e ∈ tb, e.1 < 2 ^ 62 ∧ e.2 < 256) ∧
  ∀ r c, r < 2 ^ 62 → c < 256 → has D (ek r c) = (look tb (r, c)).isSome ∧ D.atKey (ek r c) (.lit (.int .i64 0)) = .lit (.int .i64 (((look tb (r, c)).getD 0 : Nat) : Int))
theorem TB.empty {H : Type} : TB (.map [] : DataW H) [] := ⟨rfl, by simp, fun r c _ _ => ⟨rfl, rfl⟩⟩
theorem TB.put {H : Type} {D : DataW H} {tb : List (Nat × Nat)} (h : TB D tb) (hD : Tidy D) {r c : Nat} (hr : r < 2 ^ 62) (hc : c < 256) (hn : look tb (r, c) = none) :
    TB (D.put (ek r c) (.lit (.int .i64 ((258 + tb.length : Nat) : Int)))) (tb ++ [(r, c)]) := by
  obtain ⟨h1, h2, h3⟩ := h
  have hh := (h3 r c hr hc).1
  rw [hn] at hh
  refine ⟨?_, ?_, fun r' c' hr' hc' => ?_⟩
  · rw [size_put hD, hh]
    simp [h1]
  · intro e he
    rcases List.mem_append.1 he with he | he
    · exact h2 e he
    · rw [List.mem_singleton.1 he]; exact ⟨hr, hc⟩
  · by_cases he : (r', c') = (r, c)
    · obtain ⟨rfl, rfl⟩ := Prod.mk.inj he
      rw [look_snoc_same hn]
      exact ⟨has_put_same hD.isMap (law.key (ev_key r' c' hr' hc')) _, atKey_put_same hD.isMap (law.key (ev_key r' c' hr' hc')) _ _⟩
    · rw [look_snoc_other he]
      have hk : ek r' c' ≠ ek r c := fun e => he (ek_inj hr' hc' hr hc e)
      exact ⟨(has_put_other hk _).trans (h3 r' c' hr' hc').1, (atKey_put_other hk _ _).trans (h3 r' c' hr' hc').2⟩
end Go.Proofs.Ytcbllkopolbhaaa.Lz
