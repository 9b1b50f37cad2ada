/-
  What lzw.Put writes, as a list of bits; each code fits its width. No program is in sight here.
-/
import Derived.Test.YtcbllkopolbhaaaLzE
namespace Go.Proofs.Ytcbllkopolbhaaa.Lz
open Go.RowKit Go.Maps

def putF (early : Bool) : Nat → Bool → List Nat → List Nat
  | _, _, [] => []
  | n, b, c :: r => Bt.bitsOf true c (wid n early) ++ putF early (bhN n b c) (bhB c) r
def fits (early : Bool) : Nat → Bool → List Nat → Prop
  | _, _, [] => True
  | n, b, c :: r => (c < 2 ^ wid n early ∧ n ≤ 4095) ∧ fits early (bhN n b c) (bhB c) r
theorem wid_le (n : Nat) (early : Bool) : 9 ≤ wid n early ∧ wid n early ≤ 12 := by
  unfold wid
  by_cases h1 : (if early then n + 1 else n) < 512
  · simp only [if_pos h1]; omega
  · by_cases h2 : (if early then n + 1 else n) < 1024
    · simp only [if_neg h1, if_pos h2]; omega
    · by_cases h3 : (if early then n + 1 else n) < 2048
      · simp only [if_neg h1, if_neg h2, if_pos h3]; omega
      · simp only [if_neg h1, if_neg h2, if_neg h3]; omega
theorem wid_fits (n c : Nat) (early : Bool) (h : c ≤ n) (hn : n < 4096) : c < 2 ^ wid n early := by
  have hm : n ≤ (if early then n + 1 else n) := by split <;> omega
  unfold wid
  by_cases h1 : (if early then n + 1 else n) < 512
  · simp only [if_pos h1]; omega
  · by_cases h2 : (if early then n + 1 else n) < 1024
    · simp only [if_neg h1, if_pos h2]; omega
    · by_cases h3 : (if early then n + 1 else n) < 2048
      · simp only [if_neg h1, if_neg h2, if_pos h3]; omega
      · simp only [if_neg h1, if_neg h2, if_neg h3]; omega
theorem wid_small (n c : Nat) (early : Bool) (h : c < 512) : c < 2 ^ wid n early := by
  have := (wid_le n early).1
  calc c < 2 ^ 9 := by omega
    _ ≤ _ := Nat.pow_le_pow_right (by omega) this
theorem look_ge {tb : List (Nat × Nat)} {k : Nat × Nat} {m : Nat} (h : look tb k = some m) : 258 ≤ m := by
  unfold look at h
  obtain ⟨i, _, rfl⟩ := Option.map_eq_some_iff.1 h
  omega
theorem ext_code (tb : List (Nat × Nat)) : ∀ (row : Nat) (l : List Nat), row < 256 ∨ 258 ≤ row ∧ row < 258 + tb.length → (ext tb row l).1 < 256 ∨ 258 ≤ (ext tb row l).1 ∧ (ext tb row l).1 < 258 + tb.length
  | _, [], h => h
  | row, c :: r, h => by
    unfold ext
    split
    · exact h
    · rename_i m hm
      exact ext_code tb m r (.inr ⟨look_ge hm, look_lt hm⟩)
theorem ext_sub (tb : List (Nat × Nat)) : ∀ (row : Nat) (l : List Nat), ∃ a, l = a ++ (ext tb row l).2
  | _, [] => ⟨[], rfl⟩
  | row, c :: r => by
    unfold ext
    split
    · exact ⟨[], rfl⟩
    · rename_i m hm
      obtain ⟨a, ha⟩ := ext_sub tb m r
      exact ⟨c :: a, by simp [← ha]⟩
theorem ext_mem (tb : List (Nat × Nat)) (row : Nat) (l : List Nat) : ∀ x ∈ (ext tb row l).2, x ∈ l := fun x hx => by
  obtain ⟨a, ha⟩ := ext_sub tb row l
  rw [ha]; exact List.mem_append_right _ hx
theorem grow_len (tb : List (Nat × Nat)) (row : Nat) (l : List Nat) : (grow tb row l).length ≤ tb.length + 1 := by
  cases l <;> simp [grow]
theorem codesF_fits (early : Bool) : ∀ (f : Nat) (tb : List (Nat × Nat)) (known : Nat) (b : Bool) (l : List Nat), (∀ x ∈ l, x < 256) → tb.length + 257 ≤ known → known < 4094 → (b = false → known = 257) → (b = true → 258 ≤ known) →
    fits early (max 258 known) b (codesF f tb known l)
  | 0, _, _, _, _, _, _, _, _, _ => ⟨⟨wid_small _ _ _ (by omega), by omega⟩, trivial⟩
  | f + 1, _, _, _, [], _, _, _, _, _ => ⟨⟨wid_small _ _ _ (by omega), by omega⟩, trivial⟩
  | f + 1, tb, known, b, c :: r, hl, htb, hk, hb, hb' => by
    have hc := hl c (by simp)
    have e1 := ext_code tb c r (.inl hc)
    have h2 : ∀ x ∈ (ext tb c r).2, x < 256 := fun x hx => hl x (List.mem_cons_of_mem _ (ext_mem tb c r x hx))
    have hN : ∀ code, code ≠ 256 → bhN (max 258 known) b code = max 258 (known + 1) := fun code h => by
      unfold bhN
      rw [if_neg h]
      cases b with
      | false => have := hb rfl; subst this; simp
      | true => have := hb' rfl; rw [if_pos ⟨rfl, by omega⟩]; omega
    have hB : bhB (ext tb c r).1 = true := by simp only [bhB, decide_eq_true_eq]; omega
    have hfit : (ext tb c r).1 < 2 ^ wid (max 258 known) early := wid_fits _ _ _ (by omega) (by omega)
    unfold codesF
    simp only
    split
    · refine ⟨⟨hfit, by omega⟩, ⟨wid_small _ _ _ (by omega), ?_⟩, ?_⟩
      · rw [hN _ (by omega)]; omega
      · have h6 : ∀ n b, bhN n b 256 = max 258 257 := fun n b => by simp [bhN]
        rw [h6, show bhB 256 = false from rfl]
        exact codesF_fits early f [] 257 false _ h2 (by simp) (by omega) (fun _ => rfl) (fun h => by cases h)
    · refine ⟨⟨hfit, by omega⟩, ?_⟩
      rw [hN _ (by omega), hB]
      have := grow_len tb (ext tb c r).1 (ext tb c r).2
      exact codesF_fits early f _ _ true _ h2 (by omega) (by omega) (fun h => by cases h) (fun _ => by omega)
theorem codes_fits (early : Bool) (l : List Nat) (hl : ∀ x ∈ l, x < 256) : fits early 258 false (codes l) :=
  ⟨⟨wid_small _ _ _ (by omega), by omega⟩, codesF_fits early l.length [] 257 false l hl (by simp) (by omega) (fun _ => rfl) (fun h => by cases h)⟩
theorem codesF_len : ∀ (f : Nat) (tb : List (Nat × Nat)) (known : Nat) (l : List Nat), (codesF f tb known l).length ≤ 2 * l.length + 1
  | 0, _, _, _ => by simp [codesF]
  | f + 1, _, _, [] => by simp [codesF]
  | f + 1, tb, known, c :: r => by
    have hl := ext_len tb c r
    have h1 := codesF_len f [] 257 (ext tb c r).2
    have h2 := codesF_len f (grow tb (ext tb c r).1 (ext tb c r).2) (known + 1) (ext tb c r).2
    unfold codesF
    simp only
    split <;> simp only [List.length_cons] <;> omega
theorem codes_len (l : List Nat) : (codes l).length ≤ 2 * l.length + 2 := by
  have := codesF_len l.length [] 257 l
  simp only [codes, List.length_cons]; omega
theorem putF_len (early : Bool) : ∀ (n : Nat) (b : Bool) (l : List Nat), (putF early n b l).length ≤ 12 * l.length
  | _, _, [] => by simp [putF]
  | n, b, c :: r => by
    have := putF_len early (bhN n b c) (bhB c) r
    have := (wid_le n early).2
    simp only [putF, List.length_append, Bt.bitsOf_length, List.length_cons]
    omega
theorem putF_bin (early : Bool) : ∀ (n : Nat) (b : Bool) (l : List Nat), Bt.Bin (putF early n b l)
  | _, _, [] => by simp [putF, Bt.Bin]
  | n, b, c :: r => (Bt.bitsOf_bin _ _ _).append (putF_bin early _ _ r)
theorem tailB_lt (s : ByteArray) (k : Nat) : ∀ x ∈ tailB s k, x < 256 := fun x hx => by
  obtain ⟨i, _, rfl⟩ := List.mem_map.1 hx
  exact Bt.byteAt_lt _ _
def putB (early : Bool) (s : ByteArray) : List Nat := putF early 258 false (codes (tailB s 0))
def putS (early : Bool) (s : ByteArray) : ByteArray := Bt.txt (Bt.packB true (putB early s))
end Go.Proofs.Ytcbllkopolbhaaa.Lz
