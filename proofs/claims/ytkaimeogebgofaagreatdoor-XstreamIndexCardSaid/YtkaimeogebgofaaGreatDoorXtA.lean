/-
  XsA, XsB, XsC, XsD, XsE, in one text.
-/
import Derived.Test.YtkaimeogebgofaaGreatDoorPkW
/-! XsA: Entries of a section, plain: which may be, all of so many numbers, their rows. -/
namespace Go.Proofs.YtkaimeogebgofaaGreatDoor.Xs
open Go.RowKit
open Go.Proofs.YtkaimeogebgofaaGreatDoor.Tr

structure En where
  num : Int
  kind : Int
  a : Int
  b : Int
def mayN (x : En) : Bool :=
  decide (0 ≤ x.num ∧ x.num ≤ 8388607) && (if x.kind = 0 then decide (x.a = 0 ∧ x.b = 0) else if x.kind = 1 then decide (0 ≤ x.a ∧ x.a ≤ 9999999999 ∧ 0 ≤ x.b ∧ x.b ≤ 65535) else if x.kind = 2 then decide (1 ≤ x.a ∧ x.a ≤ 8388607 ∧ 0 ≤ x.b ∧ x.b < 4096) else false)
def belowI : Option Int → Int → Bool
  | none, _ => true
  | some q, n => decide (q < n)
def secN : Option Int → List En → Bool
  | _, [] => true
  | p, x :: r => mayN x && (belowI p x.num && secN (some x.num) r)
def secC (l : List En) : Int := if secN none l then 0 else 2
theorem secN_mem : ∀ (l : List En) (p : Option Int), secN p l = true → ∀ x ∈ l, mayN x = true ∧ belowI p x.num = true
  | [], _, _, x, hx => by cases hx
  | y :: r, p, h, x, hx => by
    rw [secN, Bool.and_eq_true, Bool.and_eq_true] at h
    obtain ⟨h1, h2, h3⟩ := h
    rcases List.mem_cons.1 hx with rfl | hx
    · exact ⟨h1, h2⟩
    · obtain ⟨q1, q2⟩ := secN_mem r _ h3 x hx
      refine ⟨q1, ?_⟩
      cases p with
      | none => rfl
      | some q =>
        have h2' : q < y.num := of_decide_eq_true h2
        have q2' : y.num < x.num := of_decide_eq_true q2
        exact decide_eq_true (by omega)
theorem secN_append : ∀ (l : List En) (p : Option Int) (y : En), secN p (l ++ [y]) = true → ∀ x ∈ l, x.num < y.num
  | [], _, _, _, x, hx => by cases hx
  | z :: r, p, y, h, x, hx => by
    rw [List.cons_append, secN, Bool.and_eq_true, Bool.and_eq_true] at h
    obtain ⟨h1, h2, h3⟩ := h
    rcases List.mem_cons.1 hx with rfl | hx
    · exact of_decide_eq_true (secN_mem _ _ h3 y (by simp)).2
    · exact secN_append r _ y h3 x hx
theorem may_facts {x : En} (h : mayN x = true) : 0 ≤ x.num ∧ x.num ≤ 8388607 ∧ 0 ≤ x.kind ∧ x.kind ≤ 2 ∧ 0 ≤ x.a ∧ x.a ≤ 9999999999 ∧ 0 ≤ x.b ∧ x.b ≤ 65535 ∧ (x.kind = 0 → x.a = 0 ∧ x.b = 0) := by
  obtain ⟨n, k, a, b⟩ := x
  simp only [mayN, Bool.and_eq_true, decide_eq_true_eq] at h
  obtain ⟨h1, h2⟩ := h
  split at h2
  · simp only [decide_eq_true_eq] at h2
    simp only
    omega
  · split at h2
    · simp only [decide_eq_true_eq] at h2
      simp only
      omega
    · split at h2
      · simp only [decide_eq_true_eq] at h2
        simp only
        omega
      · cases h2
/-! ### all of so many numbers -/
def freeE (i : Nat) : En := ⟨i, 0, 0, 0⟩
def allF : Nat → Nat → List En → List En
  | 0, _, _ => []
  | g + 1, i, [] => freeE i :: allF g (i + 1) []
  | g + 1, i, x :: r => if x.num = i then x :: allF g (i + 1) r else freeE i :: allF g (i + 1) (x :: r)
theorem allF_len : ∀ (g i : Nat) (l : List En), (allF g i l).length = g
  | 0, _, _ => rfl
  | g + 1, i, [] => by rw [allF, List.length_cons, allF_len]
  | g + 1, i, x :: r => by
    rw [allF]
    split <;> rw [List.length_cons, allF_len]
theorem allF_num : ∀ (g i : Nat) (l : List En), (allF g i l).map (·.num) = (List.range' i g).map (fun n : Nat => (n : Int))
  | 0, _, _ => rfl
  | g + 1, i, [] => by rw [allF, List.map_cons, allF_num, List.range'_succ, List.map_cons]; rfl
  | g + 1, i, x :: r => by
    rw [allF]
    split
    · rename_i h
      rw [List.map_cons, allF_num, List.range'_succ, List.map_cons, h]
    · rw [List.map_cons, allF_num, List.range'_succ, List.map_cons]; rfl
/-- rising, from a number on -/
def Up : Int → List En → Prop
  | _, [] => True
  | i, x :: r => i ≤ x.num ∧ Up (x.num + 1) r
theorem Up.mono : ∀ {l : List En} {i j : Int}, Up j l → i ≤ j → Up i l
  | [], _, _, _, _ => trivial
  | _ :: _, _, _, h, hij => ⟨by have := h.1; omega, h.2⟩
theorem up_some : ∀ (l : List En) (q : Int), secN (some q) l = true → Up (q + 1) l
  | [], _, _ => trivial
  | x :: r, q, h => by
    rw [secN, Bool.and_eq_true, Bool.and_eq_true] at h
    have h2 : q < x.num := of_decide_eq_true h.2.1
    exact ⟨by omega, up_some r _ h.2.2⟩
theorem up_none {l : List En} (h : secN none l = true) : Up 0 l := by
  cases l with
  | nil => trivial
  | cons x r =>
    rw [secN, Bool.and_eq_true, Bool.and_eq_true] at h
    exact ⟨(may_facts h.1).1, up_some r _ h.2.2⟩
theorem up_take : ∀ (l : List En) (i : Int) (k : Nat), Up i l → Up i (l.take k)
  | [], _, _, _ => by rw [List.take_nil]; trivial
  | x :: r, i, 0, _ => trivial
  | x :: r, i, k + 1, h => ⟨h.1, up_take r _ k h.2⟩
theorem up_last : ∀ (l : List En) (i : Int) (y : En), Up i (l ++ [y]) → i ≤ y.num ∧ ∀ x ∈ l, x.num < y.num
  | [], _, _, h => ⟨h.1, fun x hx => by cases hx⟩
  | z :: r, i, y, h => by
    obtain ⟨h1, h2⟩ := h
    obtain ⟨h3, h4⟩ := up_last r _ y h2
    refine ⟨by omega, fun x hx => ?_⟩
    rcases List.mem_cons.1 hx with rfl | hx
    · omega
    · exact h4 x hx
/-- one more entry, behind the others -/
theorem allF_snoc : ∀ (g i : Nat) (l : List En) (y : En) (k : Nat), Up i (l ++ [y]) → y.num = ((i + k : Nat) : Int) → k < g → allF g i (l ++ [y]) = (allF g i l).set k y
  | 0, _, _, _, _, _, _, h => by omega
  | g + 1, i, [], y, k, hl, hy, hk => by
    rw [List.nil_append, allF, allF]
    cases k with
    | zero =>
      rw [if_pos (by rw [hy, Nat.add_zero]), List.set_cons_zero]
    | succ k =>
      rw [if_neg (by omega), List.set_cons_succ]
      have := allF_snoc g (i + 1) [] y k ⟨by omega, trivial⟩ (by rw [hy]; omega) (by omega)
      rw [List.nil_append] at this
      rw [this]
  | g + 1, i, x :: r, y, k, hl, hy, hk => by
    obtain ⟨h1, h2⟩ := up_last (x :: r) i y hl
    have hxy := h2 x (by simp)
    obtain ⟨hx1, hx2⟩ := hl
    rw [List.cons_append, allF, allF]
    cases k with
    | zero => omega
    | succ k =>
      by_cases hx : x.num = i
      · rw [if_pos hx, if_pos hx, List.set_cons_succ, allF_snoc g (i + 1) r y k (hx2.mono (by omega)) (by rw [hy]; omega) (by omega)]
      · rw [if_neg hx, if_neg hx, List.set_cons_succ, ← List.cons_append, allF_snoc g (i + 1) (x :: r) y k ⟨by omega, hx2⟩ (by rw [hy]; omega) (by omega)]
/-! ### rows of seven bytes -/
def u8n (n : Int) : UInt8 := UInt8.ofNat n.toNat
def rowU (x : En) : List UInt8 := [u8n (x.kind % 256), u8n (x.a / 16777216 % 256), u8n (x.a / 65536 % 256), u8n (x.a / 256 % 256), u8n (x.a % 256), u8n (x.b / 256 % 256), u8n (x.b % 256)]
def rowsU (l : List En) : List UInt8 := l.flatMap rowU
theorem rowsU_len : ∀ l : List En, (rowsU l).length = 7 * l.length
  | [] => rfl
  | x :: r => by
    show (rowU x ++ rowsU r).length = _
    rw [List.length_append, rowsU_len r, List.length_cons]
    show 7 + _ = _
    omega
theorem rowsU_set : ∀ (l : List En) (k : Nat) (y : En), k < l.length → rowsU (l.set k y) = (rowsU l).take (7 * k) ++ rowU y ++ (rowsU l).drop (7 * k + 7)
  | [], _, _, h => by simp at h
  | x :: r, 0, y, _ => rfl
  | x :: r, k + 1, y, h => by
    have ih := rowsU_set r k y (by simpa using h)
    show rowU x ++ rowsU (r.set k y) = (rowU x ++ rowsU r).take (7 * (k + 1)) ++ rowU y ++ (rowU x ++ rowsU r).drop (7 * (k + 1) + 7)
    have hl : (rowU x).length = 7 := rfl
    rw [ih, List.take_append, List.drop_append, hl, List.take_of_length_le (l := rowU x) (by rw [hl]; omega), List.drop_of_length_le (l := rowU x) (by rw [hl]; omega), show 7 * (k + 1) - 7 = 7 * k by omega, show 7 * (k + 1) + 7 - 7 = 7 * k + 7 by omega]
    simp only [List.append_assoc, List.nil_append]
theorem allF_free : ∀ (g i : Nat), rowsU (allF g i []) = List.replicate (7 * g) 0
  | 0, _ => rfl
  | g + 1, i => by
    show rowU (freeE i) ++ rowsU (allF g (i + 1) []) = _
    rw [allF_free g (i + 1), show 7 * (g + 1) = 7 + 7 * g by omega, ← List.replicate_append_replicate]
    rfl
/-! ### what Put tells -/
def putBad (l : List En) (size : Int) : Bool := decide (size < 0) || (decide (8388608 < size) || l.any fun x => decide (size ≤ x.num) || decide (4294967295 < x.a))
def putN (l : List En) (size : Int) : List UInt8 × Int :=
  if secN none l = false then ([], 2) else if putBad l size then ([], 2) else (rowsU (allF size.toNat 0 l), 0)
/-! ### entries in memory -/
structure EnAt (w : World) (b o : Nat) (x : En) : Prop where
  num : w.cell? ⟨b, o, none⟩ = some (.int .i64 x.num)
  kind : w.cell? ⟨b, o + 1, none⟩ = some (.int .i64 x.kind)
  a : w.cell? ⟨b, o + 2, none⟩ = some (.int .i64 x.a)
  b : w.cell? ⟨b, o + 3, none⟩ = some (.int .i64 x.b)
structure EnWf (x : En) : Prop where
  num : -9223372036854775808 ≤ x.num ∧ x.num ≤ 9223372036854775807
  kind : -9223372036854775808 ≤ x.kind ∧ x.kind ≤ 9223372036854775807
  a : -9223372036854775808 ≤ x.a ∧ x.a ≤ 9223372036854775807
  b : -9223372036854775808 ≤ x.b ∧ x.b ≤ 9223372036854775807
def EnsIn (w : World) (base : Option Addr) (l : List En) : Prop := ∀ i (h : i < l.length), ∃ b o, base = some ⟨b, o, none⟩ ∧ EnAt w b (o + i * 4) (l[i]'h)
def EnsAt (w : World) (v : Value) (l : List En) : Prop := ∃ base cap, v = .slice base l.length cap ∧ l.length ≤ cap ∧ EnsIn w base l
theorem EnAt.ext {w w' : World} {b o : Nat} {x : En} (h : EnAt w b o x) (hx : Ext [] w w') : EnAt w' b o x := ⟨hx.cell h.num, hx.cell h.kind, hx.cell h.a, hx.cell h.b⟩
theorem EnsIn.ext {w w' : World} {base : Option Addr} {l : List En} (h : EnsIn w base l) (hx : Ext [] w w') : EnsIn w' base l := fun i hi => by
  obtain ⟨b, o, h1, h2⟩ := h i hi
  exact ⟨b, o, h1, h2.ext hx⟩
theorem EnsAt.ext {w w' : World} {v : Value} {l : List En} (h : EnsAt w v l) (hx : Ext [] w w') : EnsAt w' v l := by
  obtain ⟨base, cap, h1, h2, h3⟩ := h
  exact ⟨base, cap, h1, h2, h3.ext hx⟩
def enC (l : List En) : List Value := l.flatMap fun x => [.int .i64 x.num, .int .i64 x.kind, .int .i64 x.a, .int .i64 x.b]
theorem enC_append (a b : List En) : enC (a ++ b) = enC a ++ enC b := by unfold enC; rw [List.flatMap_append]
theorem enC_len : ∀ l : List En, (enC l).length = l.length * 4
  | [] => rfl
  | x :: r => by
    show (_ :: _ :: _ :: _ :: enC r).length = _
    simp only [List.length_cons, enC_len r]
    omega
theorem enC_at : ∀ (l : List En) (i : Nat) (h : i < l.length), (enC l)[i * 4]? = some (.int .i64 (l[i]'h).num) ∧ (enC l)[i * 4 + 1]? = some (.int .i64 (l[i]'h).kind) ∧ (enC l)[i * 4 + 2]? = some (.int .i64 (l[i]'h).a) ∧ (enC l)[i * 4 + 3]? = some (.int .i64 (l[i]'h).b)
  | [], i, h => by simp at h
  | p :: l, i, h => by
    have e : enC (p :: l) = .int .i64 p.num :: .int .i64 p.kind :: .int .i64 p.a :: .int .i64 p.b :: enC l := rfl
    rw [e]
    cases i with
    | zero => exact ⟨rfl, rfl, rfl, rfl⟩
    | succ i =>
      rw [show (i + 1) * 4 = i * 4 + 4 by omega]
      exact enC_at l i (by simpa using h)
theorem ens_own {w : World} {v : Value} {l : List En} (h : w.ownsRow 0 37 4 v l.length (enC l)) : EnsAt w v l := by
  obtain ⟨ao, cap, rfl⟩ := row_slice h
  refine ⟨ao, cap, rfl, row_le h, fun i hi => ?_⟩
  obtain ⟨g, c2, he⟩ := row_form h (by omega)
  cases he
  obtain ⟨h1, h2, h3, h4⟩ := enC_at l i hi
  exact ⟨g, 0, rfl, by rw [Nat.zero_add]; exact row_cell h h1, by rw [Nat.zero_add]; exact row_cell h h2, by rw [Nat.zero_add]; exact row_cell h h3, by rw [Nat.zero_add]; exact row_cell h h4⟩
end Go.Proofs.YtkaimeogebgofaaGreatDoor.Xs

/-! XsB: section.may, section.Check walked (wip/mkxsb.py). -/
namespace Go.Proofs.YtkaimeogebgofaaGreatDoor.Xs
open Go.RowKit
open Go.Proofs.YtkaimeogebgofaaGreatDoor.Tr

abbrev enV (x : En) : Value := .agg #[.int .i64 x.num, .int .i64 x.kind, .int .i64 x.a, .int .i64 x.b]
set_option maxRecDepth 100000 in
set_option maxHeartbeats 2000000 in
theorem may_0 (num a b : Int) (w : World) :
    Calls Tryz.prog 31 #[enV ⟨num, 0, a, b⟩] w fun e w' => e = .returned (.bool (mayN ⟨num, 0, a, b⟩)) ∧ Ext [] w w' := by
  by_cases d0 : 0 ≤ num
  case neg =>
    have hR : mayN ⟨num, 0, a, b⟩ = false := by simp [mayN, d0]
    rw [hR]
    clear hR
    go_enter Tryz.func31, Tryz.ntmps31
    go_wp2_with fail
    go_ret
    exact ⟨rfl, by first | exact Ext.refl _ _ | exact (Ext.refl [] w).alloc _⟩
  case pos =>
  by_cases d1 : num ≤ 8388607
  case neg =>
    have hR : mayN ⟨num, 0, a, b⟩ = false := by simp [mayN, d0, d1]
    rw [hR]
    clear hR
    go_enter Tryz.func31, Tryz.ntmps31
    go_wp2_with fail
    go_ret
    exact ⟨rfl, by first | exact Ext.refl _ _ | exact (Ext.refl [] w).alloc _⟩
  case pos =>
  by_cases d2 : a = 0
  case neg =>
    have hz : (a == 0) = false := beq_eq_false_iff_ne.2 d2
    have hR : mayN ⟨num, 0, a, b⟩ = false := by simp [mayN, d0, d1, d2]
    rw [hR]
    clear hR
    go_enter Tryz.func31, Tryz.ntmps31
    go_wp2_with fail
    go_ret
    exact ⟨rfl, by first | exact Ext.refl _ _ | exact (Ext.refl [] w).alloc _⟩
  case pos =>
  by_cases d3 : b = 0
  case neg =>
    have hz : (b == 0) = false := beq_eq_false_iff_ne.2 d3
    have hR : mayN ⟨num, 0, a, b⟩ = false := by simp [mayN, d0, d1, d2, d3]
    rw [hR]
    clear hR
    go_enter Tryz.func31, Tryz.ntmps31
    go_wp2_with fail
    go_ret
    exact ⟨rfl, by first | exact Ext.refl _ _ | exact (Ext.refl [] w).alloc _⟩
  case pos =>
  subst d2 d3
  have hR : mayN ⟨num, 0, 0, 0⟩ = true := by simp [mayN, d0, d1]
  rw [hR]
  clear hR
  go_enter Tryz.func31, Tryz.ntmps31
  go_wp2_with fail
  go_ret
  exact ⟨rfl, by first | exact Ext.refl _ _ | exact (Ext.refl [] w).alloc _⟩
set_option maxRecDepth 100000 in
set_option maxHeartbeats 2000000 in
theorem may_1 (num a b : Int) (w : World) :
    Calls Tryz.prog 31 #[enV ⟨num, 1, a, b⟩] w fun e w' => e = .returned (.bool (mayN ⟨num, 1, a, b⟩)) ∧ Ext [] w w' := by
  by_cases d0 : 0 ≤ num
  case neg =>
    have hR : mayN ⟨num, 1, a, b⟩ = false := by simp [mayN, d0]
    rw [hR]
    clear hR
    go_enter Tryz.func31, Tryz.ntmps31
    go_wp2_with fail
    go_ret
    exact ⟨rfl, by first | exact Ext.refl _ _ | exact (Ext.refl [] w).alloc _⟩
  case pos =>
  by_cases d1 : num ≤ 8388607
  case neg =>
    have hR : mayN ⟨num, 1, a, b⟩ = false := by simp [mayN, d0, d1]
    rw [hR]
    clear hR
    go_enter Tryz.func31, Tryz.ntmps31
    go_wp2_with fail
    go_ret
    exact ⟨rfl, by first | exact Ext.refl _ _ | exact (Ext.refl [] w).alloc _⟩
  case pos =>
  by_cases d2 : 0 ≤ a
  case neg =>
    have hR : mayN ⟨num, 1, a, b⟩ = false := by simp [mayN, d0, d1, d2]
    rw [hR]
    clear hR
    go_enter Tryz.func31, Tryz.ntmps31
    go_wp2_with fail
    go_ret
    exact ⟨rfl, by first | exact Ext.refl _ _ | exact (Ext.refl [] w).alloc _⟩
  case pos =>
  by_cases d3 : a ≤ 9999999999
  case neg =>
    have hR : mayN ⟨num, 1, a, b⟩ = false := by simp [mayN, d0, d1, d2, d3]
    rw [hR]
    clear hR
    go_enter Tryz.func31, Tryz.ntmps31
    go_wp2_with fail
    go_ret
    exact ⟨rfl, by first | exact Ext.refl _ _ | exact (Ext.refl [] w).alloc _⟩
  case pos =>
  by_cases d4 : 0 ≤ b
  case neg =>
    have hR : mayN ⟨num, 1, a, b⟩ = false := by simp [mayN, d0, d1, d2, d3, d4]
    rw [hR]
    clear hR
    go_enter Tryz.func31, Tryz.ntmps31
    go_wp2_with fail
    go_ret
    exact ⟨rfl, by first | exact Ext.refl _ _ | exact (Ext.refl [] w).alloc _⟩
  case pos =>
  by_cases d5 : b ≤ 65535
  case neg =>
    have hR : mayN ⟨num, 1, a, b⟩ = false := by simp [mayN, d0, d1, d2, d3, d4, d5]
    rw [hR]
    clear hR
    go_enter Tryz.func31, Tryz.ntmps31
    go_wp2_with fail
    go_ret
    exact ⟨rfl, by first | exact Ext.refl _ _ | exact (Ext.refl [] w).alloc _⟩
  case pos =>
  have hR : mayN ⟨num, 1, a, b⟩ = true := by simp [mayN, d0, d1, d2, d3, d4, d5]
  rw [hR]
  clear hR
  go_enter Tryz.func31, Tryz.ntmps31
  go_wp2_with fail
  go_ret
  exact ⟨rfl, by first | exact Ext.refl _ _ | exact (Ext.refl [] w).alloc _⟩
set_option maxRecDepth 100000 in
set_option maxHeartbeats 2000000 in
theorem may_2 (num a b : Int) (w : World) :
    Calls Tryz.prog 31 #[enV ⟨num, 2, a, b⟩] w fun e w' => e = .returned (.bool (mayN ⟨num, 2, a, b⟩)) ∧ Ext [] w w' := by
  by_cases d0 : 0 ≤ num
  case neg =>
    have hR : mayN ⟨num, 2, a, b⟩ = false := by simp [mayN, d0]
    rw [hR]
    clear hR
    go_enter Tryz.func31, Tryz.ntmps31
    go_wp2_with fail
    go_ret
    exact ⟨rfl, by first | exact Ext.refl _ _ | exact (Ext.refl [] w).alloc _⟩
  case pos =>
  by_cases d1 : num ≤ 8388607
  case neg =>
    have hR : mayN ⟨num, 2, a, b⟩ = false := by simp [mayN, d0, d1]
    rw [hR]
    clear hR
    go_enter Tryz.func31, Tryz.ntmps31
    go_wp2_with fail
    go_ret
    exact ⟨rfl, by first | exact Ext.refl _ _ | exact (Ext.refl [] w).alloc _⟩
  case pos =>
  by_cases d2 : 1 ≤ a
  case neg =>
    have hR : mayN ⟨num, 2, a, b⟩ = false := by simp [mayN, d0, d1, d2]
    rw [hR]
    clear hR
    go_enter Tryz.func31, Tryz.ntmps31
    go_wp2_with fail
    go_ret
    exact ⟨rfl, by first | exact Ext.refl _ _ | exact (Ext.refl [] w).alloc _⟩
  case pos =>
  by_cases d3 : a ≤ 8388607
  case neg =>
    have hR : mayN ⟨num, 2, a, b⟩ = false := by simp [mayN, d0, d1, d2, d3]
    rw [hR]
    clear hR
    go_enter Tryz.func31, Tryz.ntmps31
    go_wp2_with fail
    go_ret
    exact ⟨rfl, by first | exact Ext.refl _ _ | exact (Ext.refl [] w).alloc _⟩
  case pos =>
  by_cases d4 : 0 ≤ b
  case neg =>
    have hR : mayN ⟨num, 2, a, b⟩ = false := by simp [mayN, d0, d1, d2, d3, d4]
    rw [hR]
    clear hR
    go_enter Tryz.func31, Tryz.ntmps31
    go_wp2_with fail
    go_ret
    exact ⟨rfl, by first | exact Ext.refl _ _ | exact (Ext.refl [] w).alloc _⟩
  case pos =>
  by_cases d5 : b < 4096
  case neg =>
    have hR : mayN ⟨num, 2, a, b⟩ = false := by simp [mayN, d0, d1, d2, d3, d4, d5]
    rw [hR]
    clear hR
    go_enter Tryz.func31, Tryz.ntmps31
    go_wp2_with fail
    go_ret
    exact ⟨rfl, by first | exact Ext.refl _ _ | exact (Ext.refl [] w).alloc _⟩
  case pos =>
  have hR : mayN ⟨num, 2, a, b⟩ = true := by simp [mayN, d0, d1, d2, d3, d4, d5]
  rw [hR]
  clear hR
  go_enter Tryz.func31, Tryz.ntmps31
  go_wp2_with fail
  go_ret
  exact ⟨rfl, by first | exact Ext.refl _ _ | exact (Ext.refl [] w).alloc _⟩
set_option maxRecDepth 100000 in
set_option maxHeartbeats 2000000 in
theorem may_x (num kind a b : Int) (hk0 : kind ≠ 0) (hk1 : kind ≠ 1) (hk2 : kind ≠ 2) (w : World) :
    Calls Tryz.prog 31 #[enV ⟨num, kind, a, b⟩] w fun e w' => e = .returned (.bool (mayN ⟨num, kind, a, b⟩)) ∧ Ext [] w w' := by
  have q0 : (kind == 0) = false := beq_eq_false_iff_ne.2 hk0
  have q1 : (kind == 1) = false := beq_eq_false_iff_ne.2 hk1
  have q2 : (kind == 2) = false := beq_eq_false_iff_ne.2 hk2
  by_cases d0 : 0 ≤ num
  case neg =>
    have hR : mayN ⟨num, kind, a, b⟩ = false := by simp [mayN, hk0, hk1, hk2, d0]
    rw [hR]
    clear hR
    go_enter Tryz.func31, Tryz.ntmps31
    go_wp2_with fail
    go_ret
    exact ⟨rfl, by first | exact Ext.refl _ _ | exact (Ext.refl [] w).alloc _⟩
  case pos =>
  by_cases d1 : num ≤ 8388607
  case neg =>
    have hR : mayN ⟨num, kind, a, b⟩ = false := by simp [mayN, hk0, hk1, hk2, d0, d1]
    rw [hR]
    clear hR
    go_enter Tryz.func31, Tryz.ntmps31
    go_wp2_with fail
    go_ret
    exact ⟨rfl, by first | exact Ext.refl _ _ | exact (Ext.refl [] w).alloc _⟩
  case pos =>
  have hR : mayN ⟨num, kind, a, b⟩ = false := by simp [mayN, hk0, hk1, hk2, d0, d1]
  rw [hR]
  clear hR
  go_enter Tryz.func31, Tryz.ntmps31
  go_wp2_with fail
  go_ret
  exact ⟨rfl, by first | exact Ext.refl _ _ | exact (Ext.refl [] w).alloc _⟩
theorem may_walk (x : En) (w : World) : Calls Tryz.prog 31 #[enV x] w fun e w' => e = .returned (.bool (mayN x)) ∧ Ext [] w w' := by
  obtain ⟨num, kind, a, b⟩ := x
  by_cases h0 : kind = 0
  · subst h0; exact may_0 num a b w
  by_cases h1 : kind = 1
  · subst h1; exact may_1 num a b w
  by_cases h2 : kind = 2
  · subst h2; exact may_2 num a b w
  exact may_x num kind a b h0 h1 h2 w
set_option maxRecDepth 100000 in
set_option maxHeartbeats 4000000 in
theorem sec_walk (v : Value) (l : List En) (w : World) (h : EnsAt w v l) (hl : l.length ≤ 9223372036854775807) :
    Calls Tryz.prog 12 #[v] w fun e w' => e = .returned (.int .i64 (secC l)) ∧ Ext [] w w' := by
  obtain ⟨R, hR⟩ : ∃ R, secC l = R := ⟨_, rfl⟩
  rw [hR]
  rw [secC] at hR
  obtain ⟨base, cap, rfl, -, hN⟩ := h
  obtain ⟨n, hn⟩ : ∃ n, l.length = n := ⟨_, rfl⟩
  have HH := Lib.hid (⟨hN, hR, hn⟩ : _ ∧ _ ∧ _)
  rw [hn] at hl ⊢
  clear hN hR hn
  go_enter Tryz.func12, Tryz.ntmps12
  go_wp2_with fail
  go_loopg [3, 4, 7] n (fun g v3 v4 iv wr => ∃ (i : Nat) (p : Option Int), g + i = n ∧ iv = .int .i64 i ∧ (if secN p (l.drop i) then (0 : Int) else 2) = R ∧ (p = none ∧ i = 0 ∨ 0 < i ∧ ∃ (h : i - 1 < l.length), p = some (l[i - 1]'h).num) ∧ Ext [] w wr)
  case atStart => exact ⟨0, none, by omega, rfl, HH.out.2.1, .inl ⟨rfl, rfl⟩, Ext.refl _ _⟩
  case round =>
    obtain ⟨i, p, hgi, rfl, hR, hp, hx⟩ := hrel
    by_cases hlt : i < n
    case neg =>
      obtain rfl : gk = 0 := by omega
      rw [List.drop_eq_nil_of_le (by rw [HH.out.2.2]; omega)] at hR
      obtain rfl : 0 = R := hR
      have HX := Lib.hid hx
      clear hx hp
      go_wp2_with fail
      go_ret
      exact ⟨rfl, HX.out⟩
    case pos =>
    obtain ⟨g, rfl⟩ : ∃ g, gk = g + 1 := ⟨gk - 1, by omega⟩
    have hltz : (i : Int) < (n : Int) := by omega
    have hil : i < l.length := by rw [HH.out.2.2]; exact hlt
    rw [drop_at l i hil, secN] at hR
    obtain ⟨bb, o, rfl, n1, n2, n3, n4⟩ := HH.out.1.ext hx i hil
    have hxx : l[i]? = some (l[i]'hil) := List.getElem?_eq_getElem hil
    generalize l[i]'hil = x at *
    have HB := Lib.hid (fun W => may_walk x W)
    have HX := Lib.hid (⟨hx, hR, hp, hxx⟩ : _ ∧ _ ∧ _ ∧ _)
    clear hx hR hp hxx
    go_upto_region 4 with (fail)
    obtain ⟨W, hW⟩ : ∃ W, wr.alloc (Obj.cells #[.int .i64 x.num, .int .i64 x.kind, .int .i64 x.a, .int .i64 x.b] 37) = W := ⟨_, rfl⟩
    have hxW : Ext [] w W := by rw [← hW]; exact HX.out.1.alloc _
    have hb := heap_alloc_at (w := wr) (Obj.cells #[.int .i64 x.num, .int .i64 x.kind, .int .i64 x.a, .int .i64 x.b] 37)
    rw [hW] at hb ⊢
    obtain ⟨q, hq⟩ : ∃ q, wr.heap.size = q := ⟨_, rfl⟩
    rw [hq] at hb ⊢
    have k0 : ∀ y : Ex W, y.w.cell? ⟨q, 0, none⟩ = some (.int .i64 x.num) := fun y => cellOf (y.ext.keep hb (by simp)) 0
    have k1 : ∀ y : Ex W, y.w.cell? ⟨q, 1, none⟩ = some (.int .i64 x.kind) := fun y => cellOf (y.ext.keep hb (by simp)) 1
    have k2 : ∀ y : Ex W, y.w.cell? ⟨q, 2, none⟩ = some (.int .i64 x.a) := fun y => cellOf (y.ext.keep hb (by simp)) 2
    have k3 : ∀ y : Ex W, y.w.cell? ⟨q, 3, none⟩ = some (.int .i64 x.b) := fun y => cellOf (y.ext.keep hb (by simp)) 3
    have HXW := Lib.hid hxW
    clear hW hb hq hxW n1 n2 n3 n4
    cases hm : mayN x with
    | false =>
      rw [hm] at HB HX
      have hR := HX.out.2.1
      rw [Bool.false_and] at hR
      obtain rfl : 2 = R := hR
      refine wp_region_ext (by kernel_rfl) (by kernel_rfl) ?_
      repeat (go_big_quiet_step (first | (go_at_call 31; refine Calls.ext_of (HB.out _))))
      refine wpQuiet_nil ?_
      rintro _ ⟨y, rfl⟩
      have HX2 := Lib.hid (HXW.out.trans y.ext)
      clear k0 k1 k2 k3 HB
      go_wp2_with fail
      go_ret
      exact ⟨rfl, HX2.out⟩
    | true =>
      rw [hm] at HB HX
      have HR := Lib.hid HX.out.2.1
      by_cases hi0 : i = 0
      · subst hi0
        have hp : p = none := by
          rcases HX.out.2.2.1 with h | h
          · exact h.1
          · omega
        subst hp
        refine wp_region_ext (by kernel_rfl) (by kernel_rfl) ?_
        repeat (go_big_quiet_step (first | (go_at_call 31; refine Calls.ext_of (HB.out _))))
        refine wpQuiet_nil ?_
        rintro _ ⟨y, rfl⟩
        have HX2 := Lib.hid (HXW.out.trans y.ext)
        clear k0 k1 k2 k3 HB
        go_wp2_with fail
        go_roundg g
        case measure => omega
        case rel => exact ⟨1, some x.num, by omega, by go_num, by simpa [belowI] using HR.out, .inr ⟨by omega, by omega, by
          have := HX.out.2.2.2
          rw [List.getElem?_eq_getElem (by omega)] at this
          exact congrArg (fun z : En => some z.num) (Option.some.inj this).symm⟩, HX2.out⟩
      · have hip : decide ((0 : Int) < (i : Int)) = true := decide_eq_true (by omega)
        have hip2 : decide (0 < i) = true := decide_eq_true (by omega)
        obtain ⟨i1, hi1e⟩ : ∃ i1, i - 1 = i1 := ⟨_, rfl⟩
        have hi1 : i1 < l.length := by omega
        have hi1z : (i : Int) - 1 = (i1 : Int) := by omega
        have hi1n : (i1 : Int) < (n : Int) := by omega
        obtain ⟨b9, o9, e9, m1, -⟩ := HH.out.1 i1 hi1
        cases e9
        obtain ⟨qn, hqn⟩ : ∃ q, (l[i1]'hi1).num = q := ⟨_, rfl⟩
        rw [hqn] at m1
        have hp : p = some qn := by
          rcases HX.out.2.2.1 with h | ⟨-, h, hp⟩
          · omega
          · rw [hp, ← hqn]; simp only [hi1e]
        subst hp
        have HQ := Lib.hid hi1e
        have k4 : ∀ y : Ex W, y.w.cell? ⟨bb, o + i1 * 4, none⟩ = some (.int .i64 qn) := fun y => (HXW.out.trans y.ext).cell m1
        clear hqn m1 hi1e
        by_cases hqx : qn < x.num
        · have hqd : decide (x.num ≤ qn) = false := decide_eq_false (by omega)
          refine wp_region_ext (by kernel_rfl) (by kernel_rfl) ?_
          repeat (go_big_quiet_step (first | (go_at_call 31; refine Calls.ext_of (HB.out _))))
          refine wpQuiet_nil ?_
          rintro _ ⟨y, rfl⟩
          have HX2 := Lib.hid (HXW.out.trans y.ext)
          clear k0 k1 k2 k3 k4 HB
          go_wp2_with fail
          go_roundg g
          case measure => omega
          case rel =>
            have hR := HR.out
            rw [Bool.true_and, belowI, decide_eq_true hqx, Bool.true_and] at hR
            exact ⟨i + 1, some x.num, by omega, by go_num, hR, .inr ⟨by omega, by omega, by
              have := HX.out.2.2.2
              rw [List.getElem?_eq_getElem (by omega)] at this
              exact congrArg (fun z : En => some z.num) (Option.some.inj this).symm⟩, HX2.out⟩
        · have hqd : decide (x.num ≤ qn) = true := decide_eq_true (by omega)
          have hR := HR.out
          rw [Bool.true_and, belowI, decide_eq_false hqx, Bool.false_and] at hR
          obtain rfl : 2 = R := hR
          refine wp_region_ext (by kernel_rfl) (by kernel_rfl) ?_
          repeat (go_big_quiet_step (first | (go_at_call 31; refine Calls.ext_of (HB.out _))))
          refine wpQuiet_nil ?_
          rintro _ ⟨y, rfl⟩
          have HX2 := Lib.hid (HXW.out.trans y.ext)
          clear k0 k1 k2 k3 k4 HB
          go_wp2_with fail
          go_ret
          exact ⟨rfl, HX2.out⟩
end Go.Proofs.YtkaimeogebgofaaGreatDoor.Xs

/-! XsC: xstream.Put walked. -/
namespace Go.Proofs.YtkaimeogebgofaaGreatDoor.Xs
open Go.RowKit
open Go.Proofs.YtkaimeogebgofaaGreatDoor.Tr

def S8 (l : List UInt8) : ByteArray := ⟨l.toArray⟩
abbrev c8 (b : UInt8) : Value := .int .u8 ((b.toNat : Nat) : Int)
theorem infoB21 : (Tryz.prog.info? 5).map (fun i => (i.zero, i.size, i.bytes)) = some (some (.int .u8 0), 1, 1) := by kernel_rfl
set_option maxRecDepth 100000 in
theorem run_text21 {w : World} {v : Value} {n : Nat} {l : List UInt8} (h : w.ownsRow 0 5 1 v n (l.map c8)) : (convert 42 9 v).run Tryz.prog w = .ok (.string (S8 l)) w := by
  rcases h.2 with ⟨rfl, h0⟩ | ⟨g, cap, cur, rfl, _, hg, hnc, _, hcs, htake⟩
  · have hx : l = [] := by have := h.1; simp [h0] at this; exact this
    subst hx
    exact run_convert_bytes_nil w 42 5 Tryz.underlying42 Tryz.underlying5 0 0 9 Tryz.underlying9
  · have hl : l.length = n := by have := h.1; simpa using this
    have := run_convert_bytes_arg w 42 5 Tryz.underlying42 Tryz.underlying5 g 0 n cap (l.map fun b => ((b.toNat : Nat) : Int)) (by simpa using hl) (fun i hi => by
      have := ownsRow_at (i := i) (u := c8 (l.getD i 0)) h (by rw [List.getElem?_map, List.getElem?_eq_getElem (by omega), List.getD_eq_getElem?_getD, List.getElem?_eq_getElem (by omega)]; rfl)
      rw [Nat.zero_add, this]
      simp [c8, List.getD_eq_getElem?_getD]
      cases l[i]? <;> rfl) 9 Tryz.underlying9
    have e : strOfNums (l.map fun b => ((b.toNat : Nat) : Int)) = S8 l := by
      simp only [strOfNums, S8, List.map_map]
      congr 2
      refine (List.map_congr_left (fun b _ => ?_)).trans (List.map_id l)
      simp
    rw [e] at this
    exact this
def badE (size : Int) (x : En) : Bool := decide (size ≤ x.num) || decide (4294967295 < x.a)
def badI (size : Int) : List En → Nat → Int
  | [], _ => -1
  | x :: r, k => if badE size x then k else badI size r (k + 1)
theorem badI_any (size : Int) : ∀ (l : List En) (k : Nat), decide (0 ≤ badI size l k) = l.any (badE size)
  | [], k => by simp [badI]
  | x :: r, k => by
    rw [badI, List.any_cons]
    cases h : badE size x
    · rw [if_neg (by simp), badI_any size r, Bool.false_or]
    · rw [if_pos rfl, Bool.true_or]
      simp
set_option maxRecDepth 100000 in
set_option maxHeartbeats 2000000 in
theorem put1_walk (x : En) (size : Int) (q : Nat) (w : World) (hq : w.cell? ⟨q, 0, none⟩ = some (.int .i64 size)) :
    Calls Tryz.prog 14 #[enV x, .pointer (some ⟨q, 0, none⟩)] w fun e w' => e = .returned (.bool (badE size x)) ∧ Ext [] w w' := by
  obtain ⟨num, kind, a, b⟩ := x
  have hq1 := ((Ext.refl [] w).alloc (.cells #[.int .i64 num, .int .i64 kind, .int .i64 a, .int .i64 b] 37)).cell hq
  by_cases h1 : size ≤ num
  · have hR : badE size ⟨num, kind, a, b⟩ = true := by simp [badE, h1]
    rw [hR]
    clear hR hq
    go_enter Tryz.func14, Tryz.ntmps14
    go_wp2_with fail
    go_ret
    exact ⟨rfl, (Ext.refl [] w).alloc _⟩
  by_cases h2 : 4294967295 < a
  · have hR : badE size ⟨num, kind, a, b⟩ = true := by simp [badE, h2]
    rw [hR]
    clear hR hq
    go_enter Tryz.func14, Tryz.ntmps14
    go_wp2_with fail
    go_ret
    exact ⟨rfl, (Ext.refl [] w).alloc _⟩
  have hR : badE size ⟨num, kind, a, b⟩ = false := by simp [badE]; omega
  rw [hR]
  have hd : decide (4294967295 < a) = false := decide_eq_false h2
  clear hR hq
  go_enter Tryz.func14, Tryz.ntmps14
  go_wp2_with fail
  go_ret
  exact ⟨rfl, (Ext.refl [] w).alloc _⟩
set_option maxRecDepth 100000 in
set_option maxHeartbeats 8000000 in
theorem idx21_walk (v : Value) (l : List En) (size : Int) (q : Nat) (w : World) (h : EnsAt w v l) (hq : w.cell? ⟨q, 0, none⟩ = some (.int .i64 size)) (hl : l.length ≤ 1048576) :
    Calls Tryz.prog 32 #[v, .func (.func 14) #[] #[.pointer (some ⟨q, 0, none⟩)]] w fun e w' => e = .returned (.int .i64 (badI size l 0)) ∧ Ext [] w w' := by
  obtain ⟨base, cap, rfl, -, hT⟩ := h
  obtain ⟨n, hln⟩ : ∃ n, l.length = n := ⟨_, rfl⟩
  obtain ⟨R, hR⟩ : ∃ R, badI size l 0 = R := ⟨_, rfl⟩
  have HH := Lib.hid (⟨hT, hln, hR, hq⟩ : _ ∧ _ ∧ _ ∧ _)
  rw [hR]
  rw [hln] at hl ⊢
  clear hT hln hR hq
  go_enter Tryz.func32, Tryz.ntmps32
  go_wp2_with fail
  go_loopg [4, 5, 8] n (fun g v4 v5 iv wr => ∃ i : Nat, g + i = n ∧ iv = .int .i64 i ∧ badI size (l.drop i) i = R ∧ Ext [] w wr)
  case atStart => exact ⟨0, by omega, rfl, HH.out.2.2.1, Ext.refl _ _⟩
  case round =>
    obtain ⟨i, hgi, rfl, hR, hx⟩ := hrel
    by_cases hlt : i < n
    · obtain ⟨g, rfl⟩ : ∃ g, gk = g + 1 := ⟨gk - 1, by omega⟩
      have hltz : (i : Int) < (n : Int) := by omega
      have hil : i < l.length := by rw [HH.out.2.1]; exact hlt
      rw [drop_at l i hil, badI] at hR
      obtain ⟨b, o, rfl, n1, n2, n3, n4⟩ := HH.out.1.ext hx i hil
      generalize l[i]'hil = x at *
      have H := Lib.hid (put1_walk x size q wr (hx.cell HH.out.2.2.2))
      have HX := Lib.hid (⟨hx, hR⟩ : _ ∧ _)
      clear hx hR
      cases hb : badE size x with
      | false =>
        rw [hb] at H HX
        go_wp2_with fail
        refine H.out.mono ?_
        rintro ee w2 ⟨rfl, hx2⟩
        have HX2 := Lib.hid (HX.out.1.trans hx2)
        clear hx2 H n1 n2 n3 n4
        go_wp2_with fail
        go_roundg g
        case measure => omega
        case rel => exact ⟨i + 1, by omega, by go_num, by simpa using HX.out.2, HX2.out⟩
      | true =>
        rw [hb] at H HX
        have hRi : R = (i : Int) := by have := HX.out.2; rw [if_pos rfl] at this; exact this.symm
        subst hRi
        go_wp2_with fail
        refine H.out.mono ?_
        rintro ee w2 ⟨rfl, hx2⟩
        have HX2 := Lib.hid (HX.out.1.trans hx2)
        clear hx2 H n1 n2 n3 n4
        go_wp2_with fail
        go_ret
        exact ⟨rfl, HX2.out⟩
    · obtain rfl : gk = 0 := by omega
      have hR0 : R = -1 := by rw [← hR, List.drop_eq_nil_of_le (by rw [HH.out.2.1]; omega)]; rfl
      subst hR0
      have HX := Lib.hid hx
      clear hx hR
      go_wp2_with fail
      go_ret
      exact ⟨rfl, HX.out⟩
set_option maxRecDepth 100000 in
set_option maxHeartbeats 2000000 in
theorem cont21_walk (v : Value) (l : List En) (size : Int) (q : Nat) (w : World) (h : EnsAt w v l) (hq : w.cell? ⟨q, 0, none⟩ = some (.int .i64 size)) (hl : l.length ≤ 1048576) :
    Calls Tryz.prog 13 #[v, .func (.func 14) #[] #[.pointer (some ⟨q, 0, none⟩)]] w fun e w' => e = .returned (.bool (l.any (badE size))) ∧ Ext [] w w' := by
  have HI := Lib.hid (idx21_walk v l size q w h hq hl)
  rw [← badI_any size l 0]
  obtain ⟨base, cap, rfl, -, -⟩ := h
  generalize badI size l 0 = R at *
  clear hq
  go_enter Tryz.func13, Tryz.ntmps13
  go_wp2_with fail
  refine HI.out.mono ?_
  rintro ee w2 ⟨rfl, hx2⟩
  have HX := Lib.hid hx2
  clear hx2 HI
  go_wp2_with fail
  go_ret
  exact ⟨rfl, HX.out⟩
/-! ### seven cells -/
theorem set7 {α : Type} (a b c d e f g : α) : ∀ (p : Nat) (xs : List α), p + 7 ≤ xs.length → xs.take p ++ [a, b, c, d, e, f, g] ++ xs.drop (p + 7) = ((((((xs.set p a).set (p + 1) b).set (p + 2) c).set (p + 3) d).set (p + 4) e).set (p + 5) f).set (p + 6) g
  | 0, x0 :: x1 :: x2 :: x3 :: x4 :: x5 :: x6 :: r, _ => rfl
  | 0, [], h | 0, [_], h | 0, [_, _], h | 0, [_, _, _], h | 0, [_, _, _, _], h | 0, [_, _, _, _, _], h | 0, [_, _, _, _, _, _], h => by simp at h
  | p + 1, [], h => by simp at h
  | p + 1, x :: r, h => by
    have ih := set7 a b c d e f g p r (by simpa using h)
    show x :: (r.take p ++ [a, b, c, d, e, f, g] ++ r.drop (p + 7)) = x :: _
    rw [ih]
    try rfl
theorem u8_val (n : Int) : c8 (u8n (n % 256)) = .int .u8 (n % 256) := by
  have : ((u8n (n % 256)).toNat : Int) = n % 256 := by
    have h2 : (n % 256).toNat < 256 := by omega
    have : (u8n (n % 256)).toNat = (n % 256).toNat := by simp [u8n, Nat.mod_eq_of_lt h2]
    rw [this]
    omega
  show Value.int .u8 (((u8n (n % 256)).toNat : Nat) : Int) = _
  rw [this]
end Go.Proofs.YtkaimeogebgofaaGreatDoor.Xs

/-! XsD: xstream.Put walked, to its end. -/
namespace Go.Proofs.YtkaimeogebgofaaGreatDoor.Xs
open Go.RowKit
open Go.Proofs.YtkaimeogebgofaaGreatDoor.Tr

theorem rowU_c8 (x : En) : (rowU x).map c8 = [.int .u8 (x.kind % 256), .int .u8 (x.a / 16777216 % 256), .int .u8 (x.a / 65536 % 256), .int .u8 (x.a / 256 % 256), .int .u8 (x.a % 256), .int .u8 (x.b / 256 % 256), .int .u8 (x.b % 256)] := by
  show [c8 _, c8 _, c8 _, c8 _, c8 _, c8 _, c8 _] = _
  rw [u8_val, u8_val, u8_val, u8_val, u8_val, u8_val, u8_val]
theorem rows_put {l : List En} {k : Nat} {y : En} (h : k < l.length) : (rowsU (l.set k y)).map c8 =
    (((((((((rowsU l).map c8).set (7 * k) (.int .u8 (y.kind % 256))).set (7 * k + 1) (.int .u8 (y.a / 16777216 % 256))).set (7 * k + 2) (.int .u8 (y.a / 65536 % 256))).set (7 * k + 3) (.int .u8 (y.a / 256 % 256))).set (7 * k + 4) (.int .u8 (y.a % 256))).set (7 * k + 5) (.int .u8 (y.b / 256 % 256))).set (7 * k + 6) (.int .u8 (y.b % 256))) := by
  rw [← set7 _ _ _ _ _ _ _ (7 * k) ((rowsU l).map c8) (by rw [List.length_map, rowsU_len]; omega), rowsU_set l k y h, List.map_append, List.map_append, rowU_c8, List.map_take, List.map_drop]
theorem st21 {w W : World} {A : Ob} {G M i : Nat} {xs : List Value} {u : Value} (S : Sep w W [A, oSl 5 1 (.slice (some ⟨G, 0, none⟩) M M) M xs]) : Sep w (W.setCell ⟨G, i, none⟩ u) [A, oSl 5 1 (.slice (some ⟨G, 0, none⟩) M M) M (xs.set i u)] :=
  S.upd 1 (oSl 5 1 (.slice (some ⟨G, 0, none⟩) M M) M (xs.set i u)) rfl ((Ext.refl _ W).setCell _ _ (.inl (by simp [oSl, Value.ownBlock]))) (Fr.refl _ _) (row_put (S.get 1 rfl) u)
theorem at21 {w W : World} {A : Ob} {G M : Nat} {xs : List Value} (S : Sep w W [A, oSl 5 1 (.slice (some ⟨G, 0, none⟩) M M) M xs]) (hl : xs.length = M) {i : Nat} (hi : i < M) : W.cell? ⟨G, i, none⟩ = some (xs[i]'(by omega)) ∧ W.frozen? ⟨G, i, none⟩ = false :=
  ⟨row_cell (S.get 1 rfl) (List.getElem?_eq_getElem (by omega)), row_free (S.get 1 rfl) i⟩
theorem ne21 {w W : World} {p : Nat} {O : Obj} {G M : Nat} {xs : List Value} (S : Sep w W [Ob.one p O, oSl 5 1 (.slice (some ⟨G, 0, none⟩) M M) M xs]) : p ≠ G := fun e =>
  S.apart 0 1 _ _ rfl rfl (by omega) p (by simp [Ob.one]) (by simp [oSl, Value.ownBlock, e])
set_option maxRecDepth 100000 in
set_option maxHeartbeats 8000000 in
theorem put21_walk (v : Value) (l : List En) (size : Int) (w : World) (h : EnsAt w v l) (hl : l.length ≤ 1048576) (hs : size ≤ 300) (hsb : -9223372036854775808 ≤ size) :
    Calls Tryz.prog 5 #[v, .int .i64 size] w fun e w' => e = .returned (.tuple #[.string (S8 (putN l size).1), .int .i64 (putN l size).2]) ∧ Ext [] w w' := by
  have HC := Lib.hid (fun W (hx : Ext [] w W) => sec_walk v l W (h.ext hx) (by omega))
  have HB0 := Lib.hid (heap_alloc_at (w := w) (.cells #[.int .i64 size] 3))
  have HX0 := Lib.hid ((Ext.refl [] w).alloc (.cells #[.int .i64 size] 3))
  obtain ⟨q, hq⟩ : ∃ q, w.heap.size = q := ⟨_, rfl⟩
  rw [hq] at HB0
  have hh := Lib.hid h
  cases hsec : secN none l with
  | false =>
    have hR : putN l size = ([], 2) := by rw [putN, hsec]; rfl
    have hc : secC l = 2 := by rw [secC, hsec]; rfl
    rw [hR]
    rw [hc] at HC
    obtain ⟨base, cap, rfl, -, -⟩ := h
    clear hR hc hsec hq
    go_enter Tryz.func5, Tryz.ntmps5
    go_wp2_with fail
    refine (HC.out _ HX0.out).mono ?_
    rintro e w1 ⟨rfl, hx⟩
    have HX := Lib.hid (HX0.out.trans hx)
    clear hx HC
    go_wp2_with fail
    go_ret2
    exact ⟨rfl, HX.out⟩
  | true =>
  have hc : secC l = 0 := by rw [secC, hsec]; rfl
  rw [hc] at HC
  by_cases hneg : size < 0
  · have hR : putN l size = ([], 2) := by rw [putN, hsec, putBad, decide_eq_true hneg]; rfl
    rw [hR]
    obtain ⟨base, cap, rfl, -, -⟩ := h
    clear hR hc hsec
    go_enter Tryz.func5, Tryz.ntmps5
    go_wp2_with fail
    refine (HC.out _ HX0.out).mono ?_
    rintro e w1 ⟨rfl, hx⟩
    have hb := hx.keep HB0.out (by simp)
    have q0 := cellOf hb 0
    have HX := Lib.hid (HX0.out.trans hx)
    clear hx HC hb hq
    go_wp2_with fail
    go_ret2
    exact ⟨rfl, HX.out⟩
  have HCo := Lib.hid (fun W (hx : Ext [] w W) (hw : W.cell? ⟨q, 0, none⟩ = some (.int .i64 size)) => cont21_walk v l size q W (h.ext hx) hw hl)
  have hbig : decide (8388608 < size) = false := decide_eq_false (by omega)
  have hng : decide (size < 0) = false := decide_eq_false hneg
  cases hbad : l.any (badE size) with
  | true =>
    have hR : putN l size = ([], 2) := by
      rw [putN, hsec, putBad, hng, hbig, show (l.any fun x => decide (size ≤ x.num) || decide (4294967295 < x.a)) = true from hbad]
      rfl
    rw [hR]
    rw [hbad] at HCo
    obtain ⟨base, cap, rfl, -, -⟩ := h
    clear hR hc hsec hbad
    go_enter Tryz.func5, Tryz.ntmps5
    go_wp2_with fail
    refine (HC.out _ HX0.out).mono ?_
    rintro e w1 ⟨rfl, hx⟩
    have hb := hx.keep HB0.out (by simp)
    have q0 := cellOf hb 0
    have HX := Lib.hid (HX0.out.trans hx)
    clear hx HC hb hq
    go_wp2_with fail
    refine (HCo.out _ HX.out q0).mono ?_
    rintro e w2 ⟨rfl, hx2⟩
    have HX2 := Lib.hid (HX.out.trans hx2)
    clear hx2 HCo q0
    go_wp2_with fail
    go_ret2
    exact ⟨rfl, HX2.out⟩
  | false =>
  obtain ⟨N, rfl⟩ : ∃ N : Nat, size = (N : Int) := ⟨size.toNat, by omega⟩
  have hR : putN l N = (rowsU (allF N 0 l), 0) := by
    rw [putN, hsec, putBad, hng, hbig, show (l.any fun x => decide ((N : Int) ≤ x.num) || decide (4294967295 < x.a)) = false from hbad, Int.toNat_natCast]
    rfl
  rw [hR]
  rw [hbad] at HCo
  have hup := up_none hsec
  have hmem : ∀ x ∈ l, 0 ≤ x.num ∧ x.num < N ∧ 0 ≤ x.kind ∧ 0 ≤ x.a ∧ 0 ≤ x.b := fun x hx => by
    have h1 := may_facts (secN_mem l none hsec x hx).1
    have h2 := (List.any_eq_false.1 hbad) x hx
    simp [badE] at h2
    omega
  have HM := Lib.hid (⟨hup, hmem⟩ : _ ∧ _)
  have h7 : (7 : Int) * (N : Int) = ((7 * N : Nat) : Int) := by omega
  obtain ⟨M, hM⟩ : ∃ M, 7 * N = M := ⟨_, rfl⟩
  rw [hM] at h7
  have hM3 : M ≤ 2100 := by omega
  obtain ⟨i0, hif, hz0, hz1, hz2⟩ := info_parts infoB21
  have HMk := Lib.hid (fun W => run_make_full (P := Tryz.prog) W 0 42 5 i0 (.int .u8 0) 1 Tryz.underlying42 hif hz0 hz1 .i64 .i64 M (by rw [hz2]; omega) (by unfold maxLen; omega) (by omega))
  obtain ⟨base, cap, rfl, -, hT⟩ := h
  obtain ⟨n, hln⟩ : ∃ n, l.length = n := ⟨_, rfl⟩
  have HH := Lib.hid (⟨hT, hln, hM⟩ : _ ∧ _ ∧ _)
  rw [hln] at HC HCo hl ⊢
  clear hR hc hsec hbad hup hmem hT hln hM hneg hh hbig hng
  go_enter Tryz.func5, Tryz.ntmps5
  go_wp2_with fail
  refine (HC.out _ HX0.out).mono ?_
  rintro e w1 ⟨rfl, hx⟩
  have hb := hx.keep HB0.out (by simp)
  have q0 := cellOf hb 0
  have HX := Lib.hid (HX0.out.trans hx)
  clear hx HC hb hq
  go_wp2_with fail
  refine (HCo.out _ HX.out q0).mono ?_
  rintro e w2 ⟨rfl, hx2⟩
  have q0 := hx2.cell q0
  have HX2 := Lib.hid (HX.out.trans hx2)
  clear hx2 HCo HX
  obtain ⟨w3, hmk, hown, hgrow⟩ := HMk.out w2
  have hx3 : Ext [] w2 w3 := (Ext.refl [] w2).grown hgrow (fun k hk => by cases hk)
  have S := ((Sep.start w).quiet HX2.out).new hx3 (oSl 5 1 (.slice (some ⟨w2.heap.size, 0, none⟩) M M) M ((rowsU (allF N 0 (l.take 0))).map c8)) (by
    have hm : (madeCells (Value.int .u8 0).cells (M * 1)).toList = (rowsU (allF N 0 (l.take 0))).map c8 := by
      rw [List.take_zero, allF_free, List.map_replicate, Nat.mul_one, HH.out.2.2]
      exact toList_madeCells_one _ _
    rw [← hm]; exact hown) (fun k hk => by simp [oSl, Value.ownBlock] at hk; omega)
  obtain ⟨G, hG⟩ : ∃ G, w2.heap.size = G := ⟨_, rfl⟩
  rw [hG] at hmk S
  have HS := Lib.hid S
  clear S hown hgrow hx3 hG HMk
  go_wp2_with fail
  clear hmk q0
  go_loopg [9, 10, 32] n (fun g v9 v10 iv wr => ∃ i : Nat, g + i = n ∧ iv = .int .i64 i ∧ Sep w wr [oSl 5 1 (.slice (some ⟨G, 0, none⟩) M M) M ((rowsU (allF N 0 (l.take i))).map c8)])
  case atStart => exact ⟨0, by omega, rfl, HS.out⟩
  case round =>
    clear HS
    obtain ⟨i, hgi, rfl, S⟩ := hrel
    by_cases hlt : i < n
    case neg =>
      obtain rfl : gk = 0 := by omega
      have hfull : l.take i = l := List.take_of_length_le (by rw [HH.out.2.1]; omega)
      rw [hfull] at S
      have hrow : wr.ownsRow 0 5 1 (.slice (some ⟨G, 0, none⟩) M M) M _ := S.get 0 rfl
      have hct := run_text21 hrow
      have HF := Lib.hid S.ext
      clear S hrow hfull
      go_wp2_with fail
      go_ret2
      exact ⟨rfl, HF.out⟩
    case pos =>
    obtain ⟨g, rfl⟩ : ∃ g, gk = g + 1 := ⟨gk - 1, by omega⟩
    have hltz : (i : Int) < (n : Int) := by omega
    have hil : i < l.length := by rw [HH.out.2.1]; exact hlt
    obtain ⟨b, o, rfl, n1, n2, n3, n4⟩ := HH.out.1.ext S.ext i hil
    obtain ⟨hx1, hx2, hx3, hx4, hx5⟩ := HM.out.2 _ (List.getElem_mem hil)
    have htk : l.take (i + 1) = l.take i ++ [l[i]'hil] := by rw [List.take_succ_eq_append_getElem hil]
    have hupk := up_take l 0 (i + 1) HM.out.1
    rw [htk] at hupk
    generalize l[i]'hil = x at *
    obtain ⟨z, hz⟩ : ∃ z : Nat, x.num = (z : Int) := ⟨x.num.toNat, by omega⟩
    have hsn := allF_snoc N 0 (l.take i) x z hupk (by rw [hz]; omega) (by omega)
    have hrp := rows_put (l := allF N 0 (l.take i)) (k := z) (y := x) (by rw [allF_len]; omega)
    rw [← hsn, ← htk] at hrp
    have HQ := Lib.hid (⟨hrp, S⟩ : _ ∧ _)
    clear hrp hsn hupk htk S
    obtain ⟨P, hP⟩ : ∃ P, 7 * z = P := ⟨_, rfl⟩
    rw [hP] at HQ
    have hP7 : (7 : Int) * x.num = (P : Int) := by rw [hz]; omega
    have hPM : P + 7 ≤ M := by have := HH.out.2.2; omega
    have hPMz : (P : Int) + 7 ≤ (M : Int) := by omega
    have hPz : (0 : Int) ≤ (P : Int) := by omega
    clear hP hz
    go_upto_region 10 with (fail)
    obtain ⟨W, hW⟩ : ∃ W, wr.alloc (Obj.cells #[.int .i64 x.num, .int .i64 x.kind, .int .i64 x.a, .int .i64 x.b] 37) = W := ⟨_, rfl⟩
    have hxW : Ext [] wr W := by rw [← hW]; exact (Ext.refl [] wr).alloc _
    have hb := heap_alloc_at (w := wr) (Obj.cells #[.int .i64 x.num, .int .i64 x.kind, .int .i64 x.a, .int .i64 x.b] 37)
    rw [hW] at hb ⊢
    obtain ⟨p, hp⟩ : ∃ p, wr.heap.size = p := ⟨_, rfl⟩
    have S := HQ.out.2.new hxW (Ob.one p (.cells #[.int .i64 x.num, .int .i64 x.kind, .int .i64 x.a, .int .i64 x.b] 37)) (by rw [← hp]; exact hb) (fun k hk => by simp [Ob.one] at hk; omega)
    rw [hp] at hb ⊢
    have k0 := cellOf hb 0
    have HSW := Lib.hid S
    clear hW hxW hb hp S n1 n2 n3 n4
    go_upto_region 11 with (fail)
    rw [show P + 7 - P = 7 from by omega]
    obtain ⟨cp, hcp⟩ : ∃ cp, M - P = cp := ⟨_, rfl⟩
    rw [hcp]
    obtain ⟨xs, hxs⟩ : ∃ xs, (rowsU (allF N 0 (l.take i))).map c8 = xs := ⟨_, rfl⟩
    rw [hxs] at HSW HQ
    have hlen : xs.length = M := by rw [← hxs, List.length_map, rowsU_len, allF_len]; exact HH.out.2.2
    have HL := Lib.hid hlen
    clear hxs hlen hcp k0
    have hb : W.heap[p]? = some _ := HSW.out.get 0 rfl
    have k1 := cellOf hb 1
    obtain ⟨g0, f0⟩ := at21 HSW.out HL.out (i := P) (by omega)
    clear hb
    go_upto_region 12 with (fail)
    obtain ⟨W1, hW1⟩ : ∃ W1, W.setCell ⟨G, P, none⟩ (.int .u8 (x.kind % 256)) = W1 := ⟨_, rfl⟩
    have S1 := st21 (i := P) (u := .int .u8 (x.kind % 256)) HSW.out
    rw [hW1] at S1 ⊢
    have HS1 := Lib.hid S1
    clear hW1 S1 g0 f0 k1
    obtain ⟨xs1, hxs1⟩ : ∃ xs1, xs.set P (.int .u8 (x.kind % 256)) = xs1 := ⟨_, rfl⟩
    rw [hxs1] at HS1
    have HL1 := Lib.hid (show xs1.length = M by rw [← hxs1, List.length_set]; exact HL.out)
    have HE1 := Lib.hid hxs1
    clear hxs1
    have hb : W1.heap[p]? = some _ := HS1.out.get 0 rfl
    have k2 : ∀ y : ExS [G] W1, y.w.cell? ⟨p, 2, none⟩ = some (.int .i64 x.a) := fun y => cellOf (y.heap hb (by simpa using ne21 HS1.out)) 2
    clear hb
    refine wp_region_perm (C := fun w' => ∃ y : ExS [G] W1, w' = y.w) [0, 1, 2, 3, 4, 5, 6, 7, 8, 9, 10, 11, 12, 13, 14, 15, 16, 17, 18] 25 (by kernel_rfl) (by kernel_rfl) ⟨ExS.mk _ ((Ext.refl _ W1).drew), rfl⟩ ?_
    simp only [pick, List.getElem?_toArray, List.getElem?_cons_zero, List.getElem?_cons_succ, List.drop_succ_cons, List.drop_zero]
    repeat (go_big_quiet_step (fail))
    refine wpQuiet_nil ?_
    clear k2
    have hx0 : Ext [G] W1 W1.drew := (Ext.refl _ W1).drew
    have HSa := Lib.hid (HS1.out.quiet ((Ext.refl [] W1).drew))
    obtain ⟨V1, hV⟩ : ∃ V, W1.drew = V := ⟨_, rfl⟩
    rw [hV] at HSa hx0 ⊢
    clear HS1
    have HS1 := HSa
    clear HSa
    have HX1 := Lib.hid hx0
    clear hx0 hV
    refine anyC_one (f := 5) (i := 19) (by kernel_rfl) (by decide) rfl rfl (fun K9 hK9 => ?_)
    go_wp2_with fail
    refine hK9 _ _ ⟨ExS.mk V1 HX1.out, rfl⟩ ?_
    clear hK9 K9
    refine anyC_one (f := 4) (i := 20) (by kernel_rfl) (by decide) rfl rfl (fun K9 hK9 => ?_)
    obtain ⟨g0, f0⟩ := at21 HS1.out HL1.out (i := P + 1) (by omega)
    go_wp2_with fail
    have hx0 : Ext [G] W1 (V1.setCell ⟨G, P + 1, none⟩ (.int .u8 (x.a / 16777216 % 256))) := HX1.out.setCell _ _ (.inl (by simp))
    refine hK9 _ _ ⟨ExS.mk _ hx0, rfl⟩ ?_
    clear hK9 K9 g0 f0
    have S0 := st21 (i := P + 1) (u := .int .u8 (x.a / 16777216 % 256)) HS1.out
    obtain ⟨V2, hV⟩ : ∃ V, V1.setCell ⟨G, P + 1, none⟩ (.int .u8 (x.a / 16777216 % 256)) = V := ⟨_, rfl⟩
    rw [hV] at S0 hx0 ⊢
    obtain ⟨xs2, hxs⟩ : ∃ ys, xs1.set (P + 1) (.int .u8 (x.a / 16777216 % 256)) = ys := ⟨_, rfl⟩
    rw [hxs] at S0
    have HS2 := Lib.hid S0
    have HX2 := Lib.hid hx0
    have HL2 := Lib.hid (show xs2.length = M by rw [← hxs, List.length_set]; exact HL1.out)
    have HE2 := Lib.hid hxs
    clear S0 hx0 hV hxs
    refine anyC_one (f := 3) (i := 21) (by kernel_rfl) (by decide) rfl rfl (fun K9 hK9 => ?_)
    go_wp2_with fail
    refine hK9 _ _ ⟨ExS.mk V2 HX2.out, rfl⟩ ?_
    clear hK9 K9
    refine anyC_one (f := 2) (i := 22) (by kernel_rfl) (by decide) rfl rfl (fun K9 hK9 => ?_)
    obtain ⟨g0, f0⟩ := at21 HS2.out HL2.out (i := P + 2) (by omega)
    go_wp2_with fail
    have hx0 : Ext [G] W1 (V2.setCell ⟨G, P + 2, none⟩ (.int .u8 (x.a / 65536 % 256))) := HX2.out.setCell _ _ (.inl (by simp))
    refine hK9 _ _ ⟨ExS.mk _ hx0, rfl⟩ ?_
    clear hK9 K9 g0 f0
    have S0 := st21 (i := P + 2) (u := .int .u8 (x.a / 65536 % 256)) HS2.out
    obtain ⟨V3, hV⟩ : ∃ V, V2.setCell ⟨G, P + 2, none⟩ (.int .u8 (x.a / 65536 % 256)) = V := ⟨_, rfl⟩
    rw [hV] at S0 hx0 ⊢
    obtain ⟨xs3, hxs⟩ : ∃ ys, xs2.set (P + 2) (.int .u8 (x.a / 65536 % 256)) = ys := ⟨_, rfl⟩
    rw [hxs] at S0
    have HS3 := Lib.hid S0
    have HX3 := Lib.hid hx0
    have HL3 := Lib.hid (show xs3.length = M by rw [← hxs, List.length_set]; exact HL2.out)
    have HE3 := Lib.hid hxs
    clear S0 hx0 hV hxs
    refine anyC_one (f := 1) (i := 23) (by kernel_rfl) (by decide) rfl rfl (fun K9 hK9 => ?_)
    go_wp2_with fail
    refine hK9 _ _ ⟨ExS.mk V3 HX3.out, rfl⟩ ?_
    clear hK9 K9
    refine anyC_one (f := 0) (i := 24) (by kernel_rfl) (by decide) rfl rfl (fun K9 hK9 => ?_)
    obtain ⟨g0, f0⟩ := at21 HS3.out HL3.out (i := P + 3) (by omega)
    go_wp2_with fail
    have hx0 : Ext [G] W1 (V3.setCell ⟨G, P + 3, none⟩ (.int .u8 (x.a / 256 % 256))) := HX3.out.setCell _ _ (.inl (by simp))
    refine hK9 _ _ ⟨ExS.mk _ hx0, rfl⟩ ?_
    clear hK9 K9 g0 f0
    have S0 := st21 (i := P + 3) (u := .int .u8 (x.a / 256 % 256)) HS3.out
    obtain ⟨V4, hV⟩ : ∃ V, V3.setCell ⟨G, P + 3, none⟩ (.int .u8 (x.a / 256 % 256)) = V := ⟨_, rfl⟩
    rw [hV] at S0 hx0 ⊢
    obtain ⟨xs4, hxs⟩ : ∃ ys, xs3.set (P + 3) (.int .u8 (x.a / 256 % 256)) = ys := ⟨_, rfl⟩
    rw [hxs] at S0
    have HS4 := Lib.hid S0
    have HX4 := Lib.hid hx0
    have HL4 := Lib.hid (show xs4.length = M by rw [← hxs, List.length_set]; exact HL3.out)
    have HE4 := Lib.hid hxs
    clear S0 hx0 hV hxs
    refine ⟨by kernel_rfl, ?_⟩
    obtain ⟨g0, f0⟩ := at21 HS4.out HL4.out (i := P + 4) (by omega)
    go_wp2_with fail
    refine NoPanic.normal ?_
    have S0 := st21 (i := P + 4) (u := .int .u8 (x.a % 256)) HS4.out
    clear g0 f0
    obtain ⟨U5, hV⟩ : ∃ V, V4.setCell ⟨G, P + 4, none⟩ (.int .u8 (x.a % 256)) = V := ⟨_, rfl⟩
    rw [hV] at S0 ⊢
    obtain ⟨xs5, hxs⟩ : ∃ ys, xs4.set (P + 4) (.int .u8 (x.a % 256)) = ys := ⟨_, rfl⟩
    rw [hxs] at S0
    have HT5 := Lib.hid S0
    have HL5' := Lib.hid (show xs5.length = M by rw [← hxs, List.length_set]; exact HL4.out)
    have HE5 := Lib.hid hxs
    clear S0 hV hxs
    go_upto_region 13 with (fail)
    have hb : U5.heap[p]? = some _ := HT5.out.get 0 rfl
    have k2 : ∀ y : ExS [G] U5, y.w.cell? ⟨p, 3, none⟩ = some (.int .i64 x.b) := fun y => cellOf (y.heap hb (by simpa using ne21 HT5.out)) 3
    clear hb
    refine wp_region_perm (C := fun w' => ∃ y : ExS [G] U5, w' = y.w) [0, 1, 2, 3, 4, 5, 6, 7, 8] 11 (by kernel_rfl) (by kernel_rfl) ⟨ExS.mk _ ((Ext.refl _ U5).drew), rfl⟩ ?_
    simp only [pick, List.getElem?_toArray, List.getElem?_cons_zero, List.getElem?_cons_succ, List.drop_succ_cons, List.drop_zero]
    repeat (go_big_quiet_step (fail))
    refine wpQuiet_nil ?_
    clear k2
    have hx0 : Ext [G] U5 U5.drew := (Ext.refl _ U5).drew
    have HS5 := Lib.hid (HT5.out.quiet ((Ext.refl [] U5).drew))
    obtain ⟨V5, hV⟩ : ∃ V, U5.drew = V := ⟨_, rfl⟩
    rw [hV] at HS5 hx0 ⊢
    have HX5 := Lib.hid hx0
    clear hx0 hV
    have HL5 := Lib.hid HL5'.out
    refine anyC_one (f := 1) (i := 9) (by kernel_rfl) (by decide) rfl rfl (fun K9 hK9 => ?_)
    go_wp2_with fail
    refine hK9 _ _ ⟨ExS.mk V5 HX5.out, rfl⟩ ?_
    clear hK9 K9
    refine anyC_one (f := 0) (i := 10) (by kernel_rfl) (by decide) rfl rfl (fun K9 hK9 => ?_)
    obtain ⟨g0, f0⟩ := at21 HS5.out HL5.out (i := P + 5) (by omega)
    go_wp2_with fail
    have hx0 : Ext [G] U5 (V5.setCell ⟨G, P + 5, none⟩ (.int .u8 (x.b / 256 % 256))) := HX5.out.setCell _ _ (.inl (by simp))
    refine hK9 _ _ ⟨ExS.mk _ hx0, rfl⟩ ?_
    clear hK9 K9 g0 f0
    have S0 := st21 (i := P + 5) (u := .int .u8 (x.b / 256 % 256)) HS5.out
    obtain ⟨V6, hV⟩ : ∃ V, V5.setCell ⟨G, P + 5, none⟩ (.int .u8 (x.b / 256 % 256)) = V := ⟨_, rfl⟩
    rw [hV] at S0 hx0 ⊢
    obtain ⟨xs6, hxs⟩ : ∃ ys, xs5.set (P + 5) (.int .u8 (x.b / 256 % 256)) = ys := ⟨_, rfl⟩
    rw [hxs] at S0
    have HS6 := Lib.hid S0
    have HX6 := Lib.hid hx0
    have HL6 := Lib.hid (show xs6.length = M by rw [← hxs, List.length_set]; exact HL5.out)
    have HE6 := Lib.hid hxs
    clear S0 hx0 hV hxs
    refine ⟨by kernel_rfl, ?_⟩
    obtain ⟨g0, f0⟩ := at21 HS6.out HL6.out (i := P + 6) (by omega)
    go_wp2_with fail
    refine NoPanic.normal ?_
    have S0 := st21 (i := P + 6) (u := .int .u8 (x.b % 256)) HS6.out
    clear g0 f0
    obtain ⟨U7, hV⟩ : ∃ V, V6.setCell ⟨G, P + 6, none⟩ (.int .u8 (x.b % 256)) = V := ⟨_, rfl⟩
    rw [hV] at S0 ⊢
    obtain ⟨xs7, hxs⟩ : ∃ ys, xs6.set (P + 6) (.int .u8 (x.b % 256)) = ys := ⟨_, rfl⟩
    rw [hxs] at S0
    have HT7 := Lib.hid S0
    have HL7' := Lib.hid (show xs7.length = M by rw [← hxs, List.length_set]; exact HL6.out)
    have HE7 := Lib.hid hxs
    clear S0 hV hxs
    go_wp2_with fail
    go_roundg g
    case measure => omega
    case rel =>
      refine ⟨i + 1, by omega, by go_num, ?_⟩
      have S9 := Sep.tail HT7.out
      rw [← HE7.out, ← HE6.out, ← HE5.out, ← HE4.out, ← HE3.out, ← HE2.out, ← HE1.out, ← HQ.out.1] at S9
      exact S9
end Go.Proofs.YtkaimeogebgofaaGreatDoor.Xs

/-! XsE: xstream.array, widths walked, of what may be. -/
namespace Go.Proofs.YtkaimeogebgofaaGreatDoor.Xs
open Go.RowKit
open Go.Proofs.YtkaimeogebgofaaGreatDoor.Tr

/-- an array of ints alone, in nodes -/
structure KInts (v : List Nd) (L : List Int) : Prop where
  one : 0 < v.length
  kind : (ndAt v 0).kind = 7
  len : (ndAt v 0).kids.length = L.length
  each : ∀ (i : Nat) (h : i < L.length), ∃ c : Nat, (ndAt v 0).kids[i]? = some (c : Int) ∧ c < v.length ∧ (ndAt v (c : Int)).kind = 3 ∧ (ndAt v (c : Int)).n = L[i]'h
theorem ints_row {w : World} {v : Value} {L : List Int} (h : w.ownsRow 0 3 1 v L.length (L.map iz)) : ∃ b c, v = .slice b L.length c ∧ IntsAt w b L := by
  obtain ⟨ao, cap, rfl⟩ := row_slice h
  refine ⟨ao, cap, rfl, fun i hi => ?_⟩
  obtain ⟨g, c2, he⟩ := row_form h (by omega)
  cases he
  exact ⟨g, 0, rfl, by rw [Nat.zero_add]; exact row_cell h (by rw [List.getElem?_map, List.getElem?_eq_getElem hi]; rfl)⟩
set_option maxRecDepth 100000 in
set_option maxHeartbeats 4000000 in
theorem array21_walk (v : Value) (l : List Nd) (L : List Int) (w : World) (h : NodesAt w v l) (hI : KInts l L) (hL : L.length ≤ 65536) :
    Calls Tryz.prog 44 #[v] w fun e w' => ∃ b c, e = .returned (.tuple #[.slice b L.length c, .bool true]) ∧ Ext [] w w' ∧ IntsAt w' b L := by
  obtain ⟨i0, hif, hz0, hz1, hz2⟩ := info_parts infoInt
  obtain ⟨h0, hk7, hkl, hE⟩ := hI
  obtain ⟨base, cap, rfl, -, hN⟩ := h
  obtain ⟨b, o, rfl, hnd⟩ := node_in hN 0 h0
  rw [Nat.zero_mul, Nat.add_zero, show ((0 : Nat) : Int) = 0 from rfl] at hnd
  obtain ⟨r1, -, -, -, -, rb, rc, r5, r6⟩ := hnd
  rw [hk7] at r1
  obtain ⟨x, hx0⟩ : ∃ x, ndAt l 0 = x := ⟨_, rfl⟩
  rw [hx0] at hkl hE r5 r6
  obtain ⟨n, hln⟩ : ∃ n, l.length = n := ⟨_, rfl⟩
  obtain ⟨K, hK⟩ : ∃ K, L.length = K := ⟨_, rfl⟩
  rw [hkl, hK] at r5
  have HH := Lib.hid (⟨hN, hE, r6, hln, hK, hkl⟩ : _ ∧ _ ∧ _ ∧ _ ∧ _ ∧ _)
  rw [hln] at h0 ⊢
  rw [hK] at hL
  have h0z : (0 : Int) < (n : Int) := by omega
  clear hN hE r6 hln hK hkl hk7 hx0 h0
  go_enter Tryz.func44, Tryz.ntmps44
  go_wp2_with fail
  have S := (Sep.start w).new (Ext.refl _ _) (oSl 3 1 (.slice none 0 0) 0 []) (World.ownsRow_nil _ _ _ _) (fun q hq => by simp [oSl, Value.ownBlock] at hq)
  have HS := Lib.hid S
  clear S r1 r5
  go_loopg [4, 6, 17] K (fun g ov v6 iv wr => ∃ i : Nat, g + i = K ∧ iv = .int .i64 i ∧ Sep w wr [oSl 3 1 ov i ((L.take i).map iz)])
  case atStart => exact ⟨0, by omega, rfl, HS.out⟩
  case round =>
    clear HS
    obtain ⟨i, hgi, rfl, S⟩ := hrel
    have hr0 : wr.ownsRow 0 3 1 u4 i ((L.take i).map iz) := S.get 0 rfl
    by_cases hlt : i < K
    case neg =>
      obtain rfl : gk = 0 := by omega
      obtain rfl : i = K := by omega
      have hfull : L.take i = L := List.take_of_length_le (by rw [HH.out.2.2.2.2.1]; omega)
      rw [hfull] at hr0
      have hr1 : wr.ownsRow 0 3 1 u4 L.length (L.map iz) := by rw [HH.out.2.2.2.2.1]; exact hr0
      obtain ⟨bb, cc, rfl, hI⟩ := ints_row hr1
      have HF := Lib.hid (⟨S.ext, hI⟩ : _ ∧ _)
      clear S hr0 hr1 hfull hI
      go_wp2_with fail
      go_ret2
      exact ⟨bb, cc, rfl, HF.out.1, HF.out.2⟩
    case pos =>
    obtain ⟨ao3, c3, rfl⟩ := row_slice hr0
    obtain ⟨g, rfl⟩ : ∃ g, gk = g + 1 := ⟨gk - 1, by omega⟩
    have hltz : (i : Int) < (K : Int) := by omega
    have hiL : i < L.length := by rw [HH.out.2.2.2.2.1]; exact hlt
    have hix : i < x.kids.length := by rw [HH.out.2.2.2.2.2]; exact hiL
    obtain ⟨c, hc1, hc2, hc3, hc4⟩ := HH.out.2.1 i hiL
    obtain ⟨b5, o5, rfl, c5⟩ := HH.out.2.2.1 i hix
    rw [(List.getElem?_eq_some_iff.1 hc1).2] at c5
    obtain ⟨b6, o6, e6, d1, d2, -⟩ := node_in HH.out.1 c hc2
    cases e6
    rw [hc3] at d1
    rw [hc4] at d2
    have c5 := S.ext.cell c5
    have d1 := S.ext.cell d1
    have d2 := S.ext.cell d2
    have hcz : (c : Int) < (n : Int) := by have := HH.out.2.2.2.1; omega
    have htk : L.take (i + 1) = L.take i ++ [L[i]'hiL] := by rw [List.take_succ_eq_append_getElem hiL]
    generalize L[i]'hiL = y at *
    have HX := Lib.hid (⟨S, hr0, htk⟩ : _ ∧ _ ∧ _)
    clear S hr0 htk hc1 hc3 hc4
    go_wp2_with (first | (at_builtin; refine wpList_append_lies _ rfl _ _ 45 rfl 0 3 i0 _ 1 8 Tryz.underlying45 hif hz0 hz1 hz2 rfl (by decide) (.slice ao3 i c3) i _ rfl (World.ownsRow.alloc HX.out.2.1 _) ⟨wr.heap.size, 0, none⟩ 1 1 [.int .i64 y] rfl rfl (cell_one_new _ _ _) (by simp [Value.oneCell']) (by decide) (by unfold maxLen; omega) (by omega) (by omega) (wr.heap.size + 1) (by simp) ?_; intro g6 cap2 w6 hown1 hgrow hat6 hlt6))
    have Pl := push_local (cap := cap2) (n := i + 1) hgrow hat6
    go_roundg g
    case measure => omega
    case rel => exact ⟨i + 1, by omega, by go_num, HX.out.1.upd 0 (oSl 3 1 (.slice (some ⟨g6, 0, none⟩) (i + 1) cap2) (i + 1) ((L.take (i + 1)).map iz)) rfl Pl.1 Pl.2 (by rw [HX.out.2.2, List.map_append]; exact hown1)⟩
/-- W -/
def kW : ByteArray := ⟨#[87]⟩
set_option maxRecDepth 100000 in
set_option maxHeartbeats 2000000 in
theorem widths21_walk (v : Value) (d t : List Nd) (w : World) (h : NodesAt w v d) (hl : Lt d) (hW : getN d kW = some t) (hI : KInts t [1, 4, 2]) :
    Calls Tryz.prog 24 #[v] w fun e w' => ∃ b c, e = .returned (.tuple #[.slice b 3 c, .int .i64 7, .bool true]) ∧ Ext [] w w' ∧ IntsAt w' b [1, 4, 2] := by
  have HG := Lib.hid (get_walk v d kW w h hl)
  rw [hW] at HG
  have HA := Lib.hid (fun u W (hu : NodesAt W u t) => array21_walk u t [1, 4, 2] W hu hI (by simp))
  obtain ⟨base, cap, rfl, -, -⟩ := h
  clear hW hI
  unfold kW at HG
  simp only [Option.isSome_some, Option.getD_some] at HG
  go_enter Tryz.func24, Tryz.ntmps24
  go_wp2_with fail
  refine HG.out.mono ?_
  rintro e w1 ⟨v2, rfl, hx, hN⟩
  have HX := Lib.hid (⟨hx, hN⟩ : _ ∧ _)
  clear hx hN HG
  go_wp2_with fail
  refine (HA.out _ _ HX.out.2).mono ?_
  rintro e w2 ⟨b, c, rfl, hx2, hI⟩
  have HX2 := Lib.hid (⟨HX.out.1.trans hx2, hI⟩ : _ ∧ _)
  obtain ⟨b0, o0, rfl, e0⟩ := hI 0 (by simp)
  obtain ⟨b1, o1, q1, e1⟩ := hI 1 (by simp)
  obtain ⟨b2, o2, q2, e2⟩ := hI 2 (by simp)
  cases q1
  cases q2
  have hMin := Lib.hid (Tryz.slices_Min_int b0 o0 3 c [1, 4, 2] w2 (by omega) (by simp) (by omega) (fun j hj => by
    obtain ⟨b9, o9, q9, e9⟩ := hI j hj
    cases q9
    rw [e9, List.getD_eq_getElem?_getD, List.getElem?_eq_getElem hj]; rfl))
  have hMax := Lib.hid (Tryz.slices_Max_int b0 o0 3 c [1, 4, 2] w2 (by omega) (by simp) (by omega) (fun j hj => by
    obtain ⟨b9, o9, q9, e9⟩ := hI j hj
    cases q9
    rw [e9, List.getD_eq_getElem?_getD, List.getElem?_eq_getElem hj]; rfl))
  rw [show Lib.minOf ([1, 4, 2].take 3) = 1 from rfl] at hMin
  rw [show Lib.maxOf ([1, 4, 2].take 3) = 4 from rfl] at hMax
  have e0 : w2.cell? ⟨b0, o0, none⟩ = some (.int .i64 1) := e0
  have e1 : w2.cell? ⟨b0, o0 + 1, none⟩ = some (.int .i64 4) := e1
  have e2 : w2.cell? ⟨b0, o0 + 2, none⟩ = some (.int .i64 2) := e2
  clear hx2 hI HX HA
  simp only [List.length_cons, List.length_nil]
  go_wp2_with fail
  refine hMin.out.mono ?_
  rintro e w3 ⟨rfl, rfl⟩
  go_wp2_with fail
  refine hMax.out.mono ?_
  rintro e w3 ⟨rfl, rfl⟩
  go_wp2_with fail
  refine hMax.out.mono ?_
  rintro e w3 ⟨rfl, rfl⟩
  go_upto_region 7 with (fail)
  go_quiet (fail)
  go_wp2_with fail
  go_ret3
  exact ⟨_, _, rfl, HX2.out.1.drewN _, HX2.out.2.ext ((Ext.refl [] _).drewN _)⟩
end Go.Proofs.YtkaimeogebgofaaGreatDoor.Xs
