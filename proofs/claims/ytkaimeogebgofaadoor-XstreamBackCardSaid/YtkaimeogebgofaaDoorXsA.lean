/-
  Entries of a section, plain: which may be, all of so many numbers, their rows.
-/
import Derived.Test.YtkaimeogebgofaaDoorPkW
namespace Go.Proofs.YtkaimeogebgofaaDoor.Xs
open Go.RowKit
open Go.Proofs.YtkaimeogebgofaaDoor.Tr

structure En where
  num : Int
  kind : Int
  a : Int
  b : Int
def mayN (x : En) : Bool :=
  decide (0 ≤ x.num ∧ x.num ≤ 8388607) && (if x.kind = 0 then decide (x.a = 0 ∧ x.b = 0) else if x.kind = 1 then decide (0 ≤ x.a ∧ x.a ≤ 9999999999 ∧ 0 ≤ x.b ∧ x.b ≤ 65535) else if x.kind = 2 then decide (1 ≤ x.a ∧ x.a ≤ 8388607 ∧ 0 ≤ x.b ∧ x.b < 4096) else false)
def belowI : Option Int → Int → Bool
  | none, _ => true
  | some q, n => decide (q < n)
def secN : Option Int → List En → Bool
  | _, [] => true
  | p, x :: r => mayN x && (belowI p x.num && secN (some x.num) r)
def secC (l : List En) : Int := if secN none l then 0 else 2
theorem secN_mem : ∀ (l : List En) (p : Option Int), secN p l = true → ∀ x ∈ l, mayN x = true ∧ belowI p x.num = true
  | [], _, _, x, hx => by cases hx
  | y :: r, p, h, x, hx => by
    rw [secN, Bool.and_eq_true, Bool.and_eq_true] at h
    obtain ⟨h1, h2, h3⟩ := h
    rcases List.mem_cons.1 hx with rfl | hx
    · exact ⟨h1, h2⟩
    · obtain ⟨q1, q2⟩ := secN_mem r _ h3 x hx
      refine ⟨q1, ?_⟩
      cases p with
      | none => rfl
      | some q =>
        have h2' : q < y.num := of_decide_eq_true h2
        have q2' : y.num < x.num := of_decide_eq_true q2
        exact decide_eq_true (by omega)
theorem secN_append : ∀ (l : List En) (p : Option Int) (y : En), secN p (l ++ [y]) = true → ∀ x ∈ l, x.num < y.num
  | [], _, _, _, x, hx => by cases hx
  | z :: r, p, y, h, x, hx => by
    rw [List.cons_append, secN, Bool.and_eq_true, Bool.and_eq_true] at h
    obtain ⟨h1, h2, h3⟩ := h
    rcases List.mem_cons.1 hx with rfl | hx
    · exact of_decide_eq_true (secN_mem _ _ h3 y (by simp)).2
    · exact secN_append r _ y h3 x hx
theorem may_facts {x : En} (h : mayN x = true) : 0 ≤ x.num ∧ x.num ≤ 8388607 ∧ 0 ≤ x.kind ∧ x.kind ≤ 2 ∧ 0 ≤ x.a ∧ x.a ≤ 9999999999 ∧ 0 ≤ x.b ∧ x.b ≤ 65535 ∧ (x.kind = 0 → x.a = 0 ∧ x.b = 0) := by
  obtain ⟨n, k, a, b⟩ := x
  simp only [mayN, Bool.and_eq_true, decide_eq_true_eq] at h
  obtain ⟨h1, h2⟩ := h
  split at h2
  · simp only [decide_eq_true_eq] at h2
    simp only
    omega
  · split at h2
    · simp only [decide_eq_true_eq] at h2
      simp only
      omega
    · split at h2
      · simp only [decide_eq_true_eq] at h2
        simp only
        omega
      · cases h2
/-! ### all of so many numbers -/
def freeE (i : Nat) : En := ⟨i, 0, 0, 0⟩
def allF : Nat → Nat → List En → List En
  | 0, _, _ => []
  | g + 1, i, [] => freeE i :: allF g (i + 1) []
  | g + 1, i, x :: r => if x.num = i then x :: allF g (i + 1) r else freeE i :: allF g (i + 1) (x :: r)
theorem allF_len : ∀ (g i : Nat) (l : List En), (allF g i l).length = g
  | 0, _, _ => rfl
  | g + 1, i, [] => by rw [allF, List.length_cons, allF_len]
  | g + 1, i, x :: r => by
    rw [allF]
    split <;> rw [List.length_cons, allF_len]
theorem allF_num : ∀ (g i : Nat) (l : List En), (allF g i l).map (·.num) = (List.range' i g).map (fun n : Nat => (n : Int))
  | 0, _, _ => rfl
  | g + 1, i, [] => by rw [allF, List.map_cons, allF_num, List.range'_succ, List.map_cons]; rfl
  | g + 1, i, x :: r => by
    rw [allF]
    split
    · rename_i h
      rw [List.map_cons, allF_num, List.range'_succ, List.map_cons, h]
    · rw [List.map_cons, allF_num, List.range'_succ, List.map_cons]; rfl
/-- rising, from a number on -/
def Up : Int → List En → Prop
  | _, [] => True
  | i, x :: r => i ≤ x.num ∧ Up (x.num + 1) r
theorem Up.mono : ∀ {l : List En} {i j : Int}, Up j l → i ≤ j → Up i l
  | [], _, _, _, _ => trivial
  | _ :: _, _, _, h, hij => ⟨by have := h.1; omega, h.2⟩
theorem up_some : ∀ (l : List En) (q : Int), secN (some q) l = true → Up (q + 1) l
  | [], _, _ => trivial
  | x :: r, q, h => by
    rw [secN, Bool.and_eq_true, Bool.and_eq_true] at h
    have h2 : q < x.num := of_decide_eq_true h.2.1
    exact ⟨by omega, up_some r _ h.2.2⟩
theorem up_none {l : List En} (h : secN none l = true) : Up 0 l := by
  cases l with
  | nil => trivial
  | cons x r =>
    rw [secN, Bool.and_eq_true, Bool.and_eq_true] at h
    exact ⟨(may_facts h.1).1, up_some r _ h.2.2⟩
theorem up_take : ∀ (l : List En) (i : Int) (k : Nat), Up i l → Up i (l.take k)
  | [], _, _, _ => by rw [List.take_nil]; trivial
  | x :: r, i, 0, _ => trivial
  | x :: r, i, k + 1, h => ⟨h.1, up_take r _ k h.2⟩
theorem up_last : ∀ (l : List En) (i : Int) (y : En), Up i (l ++ [y]) → i ≤ y.num ∧ ∀ x ∈ l, x.num < y.num
  | [], _, _, h => ⟨h.1, fun x hx => by cases hx⟩
  | z :: r, i, y, h => by
    obtain ⟨h1, h2⟩ := h
    obtain ⟨h3, h4⟩ := up_last r _ y h2
    refine ⟨by omega, fun x hx => ?_⟩
    rcases List.mem_cons.1 hx with rfl | hx
    · omega
    · exact h4 x hx
/-- one more entry, behind the others -/
theorem allF_snoc : ∀ (g i : Nat) (l : List En) (y : En) (k : Nat), Up i (l ++ [y]) → y.num = ((i + k : Nat) : Int) → k < g → allF g i (l ++ [y]) = (allF g i l).set k y
  | 0, _, _, _, _, _, _, h => by omega
  | g + 1, i, [], y, k, hl, hy, hk => by
    rw [List.nil_append, allF, allF]
    cases k with
    | zero =>
      rw [if_pos (by rw [hy, Nat.add_zero]), List.set_cons_zero]
    | succ k =>
      rw [if_neg (by omega), List.set_cons_succ]
      have := allF_snoc g (i + 1) [] y k ⟨by omega, trivial⟩ (by rw [hy]; omega) (by omega)
      rw [List.nil_append] at this
      rw [this]
  | g + 1, i, x :: r, y, k, hl, hy, hk => by
    obtain ⟨h1, h2⟩ := up_last (x :: r) i y hl
    have hxy := h2 x (by simp)
    obtain ⟨hx1, hx2⟩ := hl
    rw [List.cons_append, allF, allF]
    cases k with
    | zero => omega
    | succ k =>
      by_cases hx : x.num = i
      · rw [if_pos hx, if_pos hx, List.set_cons_succ, allF_snoc g (i + 1) r y k (hx2.mono (by omega)) (by rw [hy]; omega) (by omega)]
      · rw [if_neg hx, if_neg hx, List.set_cons_succ, ← List.cons_append, allF_snoc g (i + 1) (x :: r) y k ⟨by omega, hx2⟩ (by rw [hy]; omega) (by omega)]
/-! ### rows of seven bytes -/
def u8n (n : Int) : UInt8 := UInt8.ofNat n.toNat
def rowU (x : En) : List UInt8 := [u8n (x.kind % 256), u8n (x.a / 16777216 % 256), u8n (x.a / 65536 % 256), u8n (x.a / 256 % 256), u8n (x.a % 256), u8n (x.b / 256 % 256), u8n (x.b % 256)]
def rowsU (l : List En) : List UInt8 := l.flatMap rowU
theorem rowsU_len : ∀ l : List En, (rowsU l).length = 7 * l.length
  | [] => rfl
  | x :: r => by
    show (rowU x ++ rowsU r).length = _
    rw [List.length_append, rowsU_len r, List.length_cons]
    show 7 + _ = _
    omega
theorem rowsU_set : ∀ (l : List En) (k : Nat) (y : En), k < l.length → rowsU (l.set k y) = (rowsU l).take (7 * k) ++ rowU y ++ (rowsU l).drop (7 * k + 7)
  | [], _, _, h => by simp at h
  | x :: r, 0, y, _ => rfl
  | x :: r, k + 1, y, h => by
    have ih := rowsU_set r k y (by simpa using h)
    show rowU x ++ rowsU (r.set k y) = (rowU x ++ rowsU r).take (7 * (k + 1)) ++ rowU y ++ (rowU x ++ rowsU r).drop (7 * (k + 1) + 7)
    have hl : (rowU x).length = 7 := rfl
    rw [ih, List.take_append, List.drop_append, hl, List.take_of_length_le (l := rowU x) (by rw [hl]; omega), List.drop_of_length_le (l := rowU x) (by rw [hl]; omega), show 7 * (k + 1) - 7 = 7 * k by omega, show 7 * (k + 1) + 7 - 7 = 7 * k + 7 by omega]
    simp only [List.append_assoc, List.nil_append]
theorem allF_free : ∀ (g i : Nat), rowsU (allF g i []) = List.replicate (7 * g) 0
  | 0, _ => rfl
  | g + 1, i => by
    show rowU (freeE i) ++ rowsU (allF g (i + 1) []) = _
    rw [allF_free g (i + 1), show 7 * (g + 1) = 7 + 7 * g by omega, ← List.replicate_append_replicate]
    rfl
/-! ### what Put tells -/
def putBad (l : List En) (size : Int) : Bool := decide (size < 0) || (decide (8388608 < size) || l.any fun x => decide (size ≤ x.num) || decide (4294967295 < x.a))
def putN (l : List En) (size : Int) : List UInt8 × Int :=
  if secN none l = false then ([], 2) else if putBad l size then ([], 2) else (rowsU (allF size.toNat 0 l), 0)
/-! ### entries in memory -/
structure EnAt (w : World) (b o : Nat) (x : En) : Prop where
  num : w.cell? ⟨b, o, none⟩ = some (.int .i64 x.num)
  kind : w.cell? ⟨b, o + 1, none⟩ = some (.int .i64 x.kind)
  a : w.cell? ⟨b, o + 2, none⟩ = some (.int .i64 x.a)
  b : w.cell? ⟨b, o + 3, none⟩ = some (.int .i64 x.b)
structure EnWf (x : En) : Prop where
  num : -9223372036854775808 ≤ x.num ∧ x.num ≤ 9223372036854775807
  kind : -9223372036854775808 ≤ x.kind ∧ x.kind ≤ 9223372036854775807
  a : -9223372036854775808 ≤ x.a ∧ x.a ≤ 9223372036854775807
  b : -9223372036854775808 ≤ x.b ∧ x.b ≤ 9223372036854775807
def EnsIn (w : World) (base : Option Addr) (l : List En) : Prop := ∀ i (h : i < l.length), ∃ b o, base = some ⟨b, o, none⟩ ∧ EnAt w b (o + i * 4) (l[i]'h)
def EnsAt (w : World) (v : Value) (l : List En) : Prop := ∃ base cap, v = .slice base l.length cap ∧ l.length ≤ cap ∧ EnsIn w base l
theorem EnAt.ext {w w' : World} {b o : Nat} {x : En} (h : EnAt w b o x) (hx : Ext [] w w') : EnAt w' b o x := ⟨hx.cell h.num, hx.cell h.kind, hx.cell h.a, hx.cell h.b⟩
theorem EnsIn.ext {w w' : World} {base : Option Addr} {l : List En} (h : EnsIn w base l) (hx : Ext [] w w') : EnsIn w' base l := fun i hi => by
  obtain ⟨b, o, h1, h2⟩ := h i hi
  exact ⟨b, o, h1, h2.ext hx⟩
theorem EnsAt.ext {w w' : World} {v : Value} {l : List En} (h : EnsAt w v l) (hx : Ext [] w w') : EnsAt w' v l := by
  obtain ⟨base, cap, h1, h2, h3⟩ := h
  exact ⟨base, cap, h1, h2, h3.ext hx⟩
def enC (l : List En) : List Value := l.flatMap fun x => [.int .i64 x.num, .int .i64 x.kind, .int .i64 x.a, .int .i64 x.b]
theorem enC_append (a b : List En) : enC (a ++ b) = enC a ++ enC b := by unfold enC; rw [List.flatMap_append]
theorem enC_len : ∀ l : List En, (enC l).length = l.length * 4
  | [] => rfl
  | x :: r => by
    show (_ :: _ :: _ :: _ :: enC r).length = _
    simp only [List.length_cons, enC_len r]
    omega
theorem enC_at : ∀ (l : List En) (i : Nat) (h : i < l.length), (enC l)[i * 4]? = some (.int .i64 (l[i]'h).num) ∧ (enC l)[i * 4 + 1]? = some (.int .i64 (l[i]'h).kind) ∧ (enC l)[i * 4 + 2]? = some (.int .i64 (l[i]'h).a) ∧ (enC l)[i * 4 + 3]? = some (.int .i64 (l[i]'h).b)
  | [], i, h => by simp at h
  | p :: l, i, h => by
    have e : enC (p :: l) = .int .i64 p.num :: .int .i64 p.kind :: .int .i64 p.a :: .int .i64 p.b :: enC l := rfl
    rw [e]
    cases i with
    | zero => exact ⟨rfl, rfl, rfl, rfl⟩
    | succ i =>
      rw [show (i + 1) * 4 = i * 4 + 4 by omega]
      exact enC_at l i (by simpa using h)
theorem ens_own {w : World} {v : Value} {l : List En} (h : w.ownsRow 0 32 4 v l.length (enC l)) : EnsAt w v l := by
  obtain ⟨ao, cap, rfl⟩ := row_slice h
  refine ⟨ao, cap, rfl, row_le h, fun i hi => ?_⟩
  obtain ⟨g, c2, he⟩ := row_form h (by omega)
  cases he
  obtain ⟨h1, h2, h3, h4⟩ := enC_at l i hi
  exact ⟨g, 0, rfl, by rw [Nat.zero_add]; exact row_cell h h1, by rw [Nat.zero_add]; exact row_cell h h2, by rw [Nat.zero_add]; exact row_cell h h3, by rw [Nat.zero_add]; exact row_cell h h4⟩
end Go.Proofs.YtkaimeogebgofaaDoor.Xs
