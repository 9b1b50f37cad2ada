/-
  match: the map of places as an object.
-/
import Derived.Test.YtngfhnpelchplaaMtB
import Derived.Maps.OwnSet
namespace Go.Proofs.Ytngfhnpelchplaa.Mt
open Go.RowKit Go.Maps Go.WideElems Go.ChangeMaps Go.WideShapes Go.ChangeShapes

/-- the places ahead of 'tq' where a key stands -/
def plc (s : ByteArray) (tq : Nat) (a b c : UInt8) : List Nat := (List.range tq).filter fun j => decide (j + 3 ≤ s.size ∧ byteF s j = a ∧ byteF s (j + 1) = b ∧ byteF s (j + 2) = c)
theorem plc_snoc (s : ByteArray) (tq : Nat) (a b c : UInt8) : plc s (tq + 1) a b c = plc s tq a b c ++ if tq + 3 ≤ s.size ∧ byteF s tq = a ∧ byteF s (tq + 1) = b ∧ byteF s (tq + 2) = c then [tq] else [] := by
  unfold plc
  rw [List.range_succ, List.filter_append]
  congr 1
  by_cases h : tq + 3 ≤ s.size ∧ byteF s tq = a ∧ byteF s (tq + 1) = b ∧ byteF s (tq + 2) = c
  · rw [if_pos h, List.filter_cons, if_pos (by simpa using h)]; rfl
  · rw [if_neg h, List.filter_cons, if_neg (by simpa using h)]; rfl
theorem plc_len (s : ByteArray) (tq : Nat) (a b c : UInt8) : (plc s tq a b c).length ≤ tq := by
  have := List.length_filter_le (fun j => decide (j + 3 ≤ s.size ∧ byteF s j = a ∧ byteF s (j + 1) = b ∧ byteF s (j + 2) = c)) (List.range tq)
  rw [List.length_range] at this
  exact this
abbrev iv (n : Nat) : Value := .int .i64 (n : Int)

def PlP (w : World) (mb : Nat) (F : List Nat) (s : ByteArray) (tq : Nat) : Prop :=
  mb ∉ F ∧ (∀ g ∈ F, g < w.heap.size) ∧ ∃ (D : DataW Value) (val : UInt8 → UInt8 → UInt8 → Value), w.ownsMap Try.prog 55 RV mb tq D ∧
    ∀ a b c, D.atKey (kk a b c) (.held nilS) = .held (val a b c) ∧ w.ownsRow 0 3 1 (val a b c) (plc s tq a b c).length ((plc s tq a b c).map iv) ∧ (∀ g, (val a b c).ownBlock = some g → g ∈ F) ∧
      ∀ a' b' c', ¬ (a' = a ∧ b' = b ∧ c' = c) → ∀ g, (val a b c).ownBlock = some g → (val a' b' c').ownBlock ≠ some g
theorem map_ext {S : List Nat} {w w' : World} {mb n : Nat} {D : DataW Value} (h : w.ownsMap Try.prog 55 RV mb n D) (hx : Ext S w w') (hS : mb ∉ S) : w'.ownsMap Try.prog 55 RV mb n D := by
  obtain ⟨es, clock, hb, h⟩ := h
  exact ⟨es, clock, hx.keep hb hS, h⟩
def oPl (mb : Nat) (F : List Nat) (s : ByteArray) (tq : Nat) : Ob where
  F := mb :: F
  P := fun w => PlP w mb F s tq
  ok := fun h hx hS => by
    obtain ⟨h1, h2, D, val, h3, h4⟩ := h
    refine ⟨h1, fun g hg => Nat.lt_of_lt_of_le (h2 g hg) hx.size, D, val, map_ext h3 hx (hS _ (by simp)), fun a b c => ?_⟩
    obtain ⟨k1, k2, k3, k4⟩ := h4 a b c
    exact ⟨k1, ownsRow_ext k2 hx (fun g hg => hS g (by simp [k3 g hg])), k3, k4⟩
  lt := fun h k hk => by
    obtain ⟨h1, h2, D, val, h3, h4⟩ := h
    rcases List.mem_cons.1 hk with rfl | hk
    · exact h3.lt
    · exact h2 k hk
theorem atKey_empty (k : Lit) : (DataW.map [] : DataW Value).atKey k (.held nilS) = .held nilS := rfl
theorem oPl_new (w : World) (s : ByteArray) : (oPl w.heap.size [] s 0).P (w.alloc (.map #[] 0)) :=
  ⟨by simp, by simp, .map [], fun _ _ _ => nilS, World.ownsMap_made _ _ _ _, fun a b c => ⟨atKey_empty _, World.ownsRow_nil _ _ _ _, fun g hg => by simp [Value.ownBlock] at hg, fun _ _ _ _ g hg => by simp [Value.ownBlock] at hg⟩⟩
/-- a place without a key is passed over -/
theorem oPl_skip {w : World} {mb : Nat} {F : List Nat} {s : ByteArray} {tq : Nat} (h : (oPl mb F s tq).P w) (h3 : s.size < tq + 3) : (oPl mb F s (tq + 1)).P w := by
  obtain ⟨h1, h2, D, val, ho, h4⟩ := h
  refine ⟨h1, h2, D, val, ho.mono (Nat.le_succ _), fun a b c => ?_⟩
  have e : plc s (tq + 1) a b c = plc s tq a b c := by rw [plc_snoc, if_neg (fun h => by omega), List.append_nil]
  rw [e]
  exact h4 a b c
theorem oPl_entry {w : World} {mb : Nat} {F : List Nat} {s : ByteArray} {tq : Nat} (h : (oPl mb F s tq).P w) (h3 : tq + 3 ≤ s.size) (hto : tq ≤ 1048576) :
    ∃ v0 st W1 n xs, (Instr.mapEntry 45 (.map (some mb)) (keyV s tq)).run Try.prog w = .ok (.tuple #[v0, .int .i64 st]) W1 ∧ Ext [mb] w W1 ∧ (∀ g, v0.ownBlock = some g → g ∈ F) ∧ mb ∉ F ∧ n ≤ tq ∧ W1.ownsRow 0 3 1 v0 n xs ∧
      ∀ w2 v', w2.heap[mb]? = W1.heap[mb]? → Ext v0.ownBlock.toList W1 w2 → w2.ownsRow 0 3 1 v' (n + 1) (xs ++ [iv tq]) → (v'.ownBlock = v0.ownBlock ∨ ∃ g, v'.ownBlock = some g ∧ W1.heap.size ≤ g) →
        ∃ w3, (Instr.entryStore 45 (.map (some mb)) (.int .i64 st) v').run Try.prog w2 = .ok () w3 ∧ Ext [mb] w2 w3 ∧ (oPl mb (F ++ v'.ownBlock.toList) s (tq + 1)).P w3 := by
  obtain ⟨hmF, hlt, D, val, ho, hv⟩ := h
  obtain ⟨a, ha⟩ : ∃ a, byteF s tq = a := ⟨_, rfl⟩
  obtain ⟨b, hb⟩ : ∃ b, byteF s (tq + 1) = b := ⟨_, rfl⟩
  obtain ⟨c, hc⟩ : ∃ c, byteF s (tq + 2) = c := ⟨_, rfl⟩
  unfold keyV
  rw [ha, hb, hc]
  obtain ⟨v0, st, W1, hrun, hx1, hat, hst⟩ := map_entry ho (by unfold maxLen; omega) (kv_key a b c)
  obtain ⟨k1, k2, k3, k4⟩ := hv a b c
  obtain rfl : val a b c = v0 := by
    rw [k1] at hat
    injection hat
  have hmb := ho.lt
  have hne : ∀ g, (val a b c).ownBlock = some g → g ∉ [mb] := fun g hg h => hmF (by rw [List.mem_singleton] at h; exact h ▸ k3 g hg)
  refine ⟨val a b c, st, W1, _, _, hrun, hx1, k3, hmF, plc_len s tq a b c, ownsRow_ext k2 hx1 hne, fun w2 v' hsame hx2 hown' hloc => ?_⟩
  obtain ⟨w3, hr3, ho3, hx3⟩ := hst w2 v' hsame
  have hv'mb : ∀ g, v'.ownBlock = some g → g ∉ [mb] := fun g hg h => by
    rw [List.mem_singleton] at h
    subst h
    rcases hloc with h | ⟨g', h, h'⟩
    · rw [hg] at h
      exact hmF (k3 g h.symm)
    · rw [hg] at h
      injection h with h
      have := hx1.size
      omega
  refine ⟨w3, hr3, hx3, ?_, ?_, D.put (kk a b c) (.held v'), fun a' b' c' => if a' = a ∧ b' = b ∧ c' = c then v' else val a' b' c', ho3, fun a' b' c' => ?_⟩
  · intro h
    rcases List.mem_append.1 h with h | h
    · exact hmF h
    · exact hv'mb mb (by simpa using h) (by simp)
  · intro g hg
    rcases List.mem_append.1 hg with hg | hg
    · exact Nat.lt_of_lt_of_le (hlt g hg) (Nat.le_trans hx1.size (Nat.le_trans hx2.size hx3.size))
    · exact Nat.lt_of_lt_of_le (hown'.lt g (by simpa using hg)).2 hx3.size
  · have hold : ∀ a'' b'' c'', ¬ (a'' = a ∧ b'' = b ∧ c'' = c) → ∀ g, v'.ownBlock = some g → (val a'' b'' c'').ownBlock ≠ some g := fun a'' b'' c'' hn g hg h => by
      rcases hloc with e | ⟨g', e, e'⟩
      · exact k4 a'' b'' c'' hn g (by rw [← e]; exact hg) h
      · rw [hg] at e
        injection e with e
        have := hlt g ((hv a'' b'' c'').2.2.1 g h)
        have := hx1.size
        omega
    by_cases hk : a' = a ∧ b' = b ∧ c' = c
    · simp only [if_pos hk]
      obtain ⟨rfl, rfl, rfl⟩ := hk
      have e : plc s (tq + 1) a' b' c' = plc s tq a' b' c' ++ [tq] := by rw [plc_snoc, if_pos ⟨h3, ha, hb, hc⟩]
      refine ⟨atKey_put_same ho.isMap (law.key (kv_key _ _ _)) _ _, ?_, fun g hg => by simp [hg], fun a'' b'' c'' hn g hg => ?_⟩
      · rw [e, List.length_append, List.map_append]
        exact ownsRow_ext hown' hx3 hv'mb
      · rw [if_neg hn]
        exact hold a'' b'' c'' hn g hg
    · simp only [if_neg hk]
      obtain ⟨q1, q2, q3, q4⟩ := hv a' b' c'
      have e : plc s (tq + 1) a' b' c' = plc s tq a' b' c' := by rw [plc_snoc, if_neg (fun h => hk ⟨by rw [← h.2.1, ha], by rw [← h.2.2.1, hb], by rw [← h.2.2.2, hc]⟩), List.append_nil]
      have hne' : ∀ g, (val a' b' c').ownBlock = some g → g ∉ [mb] := fun g hg h => hmF (by rw [List.mem_singleton] at h; exact h ▸ q3 g hg)
      refine ⟨?_, ?_, fun g hg => by simp [q3 g hg], fun a'' b'' c'' hn g hg => ?_⟩
      · rw [atKey_put_other (kk_ne (fun h => hk (kv_inj h)))]
        exact q1
      · rw [e]
        refine ownsRow_ext (ownsRow_ext (ownsRow_ext q2 hx1 hne') hx2 (fun g hg h => ?_)) hx3 hne'
        have h : (val a b c).ownBlock = some g := by simpa using h
        exact k4 a' b' c' hk g h hg
      · by_cases hk2 : a'' = a ∧ b'' = b ∧ c'' = c
        · rw [if_pos hk2]
          exact fun h => hold a' b' c' hk g h hg
        · rw [if_neg hk2]
          exact q4 a'' b'' c'' hn g hg
end Go.Proofs.Ytngfhnpelchplaa.Mt
