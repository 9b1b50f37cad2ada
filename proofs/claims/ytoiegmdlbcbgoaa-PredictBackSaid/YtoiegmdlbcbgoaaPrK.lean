/-
  predict: plain laws for PredictLeast, PredictRows; the argument Grid opened.
-/
import Derived.Test.YtoiegmdlbcbgoaaPrJ
import Derived.Lib.SmallJoins
import Derived.ChangeArms
namespace Go.Proofs.Ytoiegmdlbcbgoaa.Pr
open Go.RowKit

/-! ### the argument -/
section
open Go.Joins Go.ChangeShapes Go.WideShapes Go.Deep
theorem open_grid {H : Type} {enc : TypeId × Value → H} {w : World} {base : Nat} {sp : Nat → Bool} {held : Bool} {r : Reach} {b0 : Nat} {v : Value} {d : DataW H} {ps : List MemPlace} (hval : Value.okWide Try.prog w r b0 23 v) (hd : DataW.Trod enc Try.prog w base sp held 23 v d ps) :
    ∃ p c b k : Int, v = gV p c b k ∧ (-9223372036854775808 ≤ p ∧ p ≤ 9223372036854775807) ∧ (-9223372036854775808 ≤ c ∧ c ≤ 9223372036854775807) ∧ (-9223372036854775808 ≤ b ∧ b ≤ 9223372036854775807) ∧ (-9223372036854775808 ≤ k ∧ k ≤ 9223372036854775807) := by
  obtain ⟨v0, v1, v2, v3, y0, y1, y2, y3, n, rfl, _, _, h0, h1, h2, h3⟩ := open_agg4 Try.underlying23 (by kernel_rfl) (by kernel_rfl) hval hd
  obtain ⟨n0, e0, _, w0⟩ := DataW.trod_int Try.underlying3 h0
  obtain ⟨n1, e1, _, w1⟩ := DataW.trod_int Try.underlying3 h1
  obtain ⟨n2, e2, _, w2⟩ := DataW.trod_int Try.underlying3 h2
  obtain ⟨n3, e3, _, w3⟩ := DataW.trod_int Try.underlying3 h3
  obtain rfl : v0 = _ := (List.cons.inj e0).1
  obtain rfl : v1 = _ := (List.cons.inj e1).1
  obtain rfl : v2 = _ := (List.cons.inj e2).1
  obtain rfl : v3 = _ := (List.cons.inj e3).1
  exact ⟨n0, n1, n2, n3, rfl, Kt.wf_i64 w0, Kt.wf_i64 w1, Kt.wf_i64 w2, Kt.wf_i64 w3⟩
end
/-! ### plain -/
theorem leastK_min (W : Nat → Nat) : ∀ k x, x ≤ k → W (leastK W k) ≤ W x ∧ (W (leastK W k) = W x → leastK W k ≤ x)
  | 0, x, h => by
    obtain rfl : x = 0 := by omega
    exact ⟨Nat.le_refl _, fun _ => Nat.le_refl _⟩
  | k + 1, x, h => by
    unfold leastK
    by_cases h1 : W (k + 1) < W (leastK W k)
    · rw [if_pos h1]
      by_cases hx : x = k + 1
      · subst hx; exact ⟨Nat.le_refl _, fun _ => Nat.le_refl _⟩
      · have := leastK_min W k x (by omega); omega
    · rw [if_neg h1]
      by_cases hx : x = k + 1
      · subst hx
        have := leastK_le W k
        exact ⟨by omega, fun _ => by omega⟩
      · exact leastK_min W k x (by omega)
theorem flat_get {α : Type} (f : Nat → List α) (L : Nat) (hf : ∀ j, (f j).length = L) : ∀ (rows j i : Nat), j < rows → i < L → ((List.range rows).flatMap f)[j * L + i]? = (f j)[i]?
  | 0, j, _, h, _ => by omega
  | r + 1, j, i, h, hi => by
    have hl : ((List.range r).flatMap f).length = r * L := by
      have : ∀ l : List Nat, (l.flatMap f).length = l.length * L := fun l => by
        induction l with
        | nil => simp
        | cons a l ih => rw [List.flatMap_cons, List.length_append, hf, ih, List.length_cons, Nat.add_mul]; omega
      rw [this, List.length_range]
    rw [List.range_succ, List.flatMap_append, List.flatMap_singleton]
    by_cases hj : j < r
    · have : (j + 1) * L ≤ r * L := Nat.mul_le_mul_right L hj
      rw [Nat.add_mul, Nat.one_mul] at this
      rw [List.getElem?_append_left (by omega)]
      exact flat_get f L hf r j i hj hi
    · obtain rfl : j = r := by omega
      rw [List.getElem?_append_right (by omega), hl, Nat.add_sub_cancel_left]
theorem flat_len {α : Type} (f : Nat → List α) (L : Nat) (hf : ∀ j, (f j).length = L) (rows : Nat) : ((List.range rows).flatMap f).length = rows * L := by
  have : ∀ l : List Nat, (l.flatMap f).length = l.length * L := fun l => by
    induction l with
    | nil => simp
    | cons a l ih => rw [List.flatMap_cons, List.length_append, hf, ih, List.length_cons, Nat.add_mul]; omega
  rw [this, List.length_range]
theorem bget (s : ByteArray) (i : Nat) (h : i < s.size) : s[i]'h = byteF s i := by
  unfold byteF
  rw [List.getD_eq_getElem?_getD, List.getElem?_eq_getElem (by rw [B_len]; exact h)]
  rfl
/-- a row's bytes within all rows' -/
theorem rows_get (p bs n : Nat) (f : Nat → UInt8) (rows j i : Nat) (hj : j < rows) (hi : i ≤ n) (t : ByteArray) (ht : B t = (List.range rows).flatMap (rowO p bs n f)) : byteF t (j * (n + 1) + i) = (rowO p bs n f j).getD i 0 := by
  unfold byteF
  rw [ht, List.getD_eq_getElem?_getD, flat_get (rowO p bs n f) (n + 1) (rowO_len p bs n f) rows j i hj (by omega), List.getD_eq_getElem?_getD]
theorem rows_weight (p bs n : Nat) (f : Nat → UInt8) (rows j : Nat) (hj : j < rows) (t : ByteArray) (ht : B t = (List.range rows).flatMap (rowO p bs n f)) :
    wS (fun i => byteF t (j * (n + 1) + 1 + i)) n = weightL (putR (wayJ p bs n f j) bs (rwF f n j) (abF f n j) n) := by
  unfold weightL
  rw [putR_len]
  have : ∀ k, k ≤ n → wS (fun i => byteF t (j * (n + 1) + 1 + i)) k = wS (fun i => (putR (wayJ p bs n f j) bs (rwF f n j) (abF f n j) n).getD i 0) k := by
    intro k
    induction k with
    | zero => intro _; rfl
    | succ k ih =>
      intro hk
      unfold wS
      rw [ih (by omega)]
      congr 2
      show byteF t (j * (n + 1) + 1 + k) = _
      rw [Nat.add_assoc, rows_get p bs n f rows j (1 + k) hj (by omega) t ht, Nat.add_comm 1 k]
      rfl
  exact this n (Nat.le_refl _)
theorem rows_way (p bs n : Nat) (f : Nat → UInt8) (rows j : Nat) (hj : j < rows) (t : ByteArray) (ht : B t = (List.range rows).flatMap (rowO p bs n f)) : byteF t (j * (n + 1)) = UInt8.ofNat (wayJ p bs n f j) := by
  have := rows_get p bs n f rows j 0 hj (by omega) t ht
  rw [Nat.add_zero] at this
  rw [this]
  rfl
theorem least_law (bs n q : Nat) (f : Nat → UInt8) (j : Nat) (hq : q ≤ 4) :
    let W := fun x => weightL (putR x bs (rwF f n j) (abF f n j) n)
    wayJ 15 bs n f j ≤ 4 ∧ wayJ (10 + q) bs n f j = q ∧ W (wayJ 15 bs n f j) ≤ W q ∧ (W (wayJ 15 bs n f j) = W q → wayJ 15 bs n f j ≤ q) := by
  intro W
  have h15 : wayJ 15 bs n f j = leastK W 4 := by unfold wayJ wayV; rw [if_neg (by omega)]
  have hq' : wayJ (10 + q) bs n f j = q := by unfold wayJ wayV; rw [if_pos (by omega)]; omega
  rw [h15, hq']
  have h1 := leastK_le W 4
  have h2 := leastK_min W 4 q hq
  exact ⟨h1, rfl, h2.1, h2.2⟩
end Go.Proofs.Ytoiegmdlbcbgoaa.Pr
