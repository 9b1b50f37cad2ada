/-
  predict: Check, Row, Paeth: walked.
-/
import Derived.Test.YtoiegmdlbcbgoaaSep
import Derived.Test.YtoiegmdlbcbgoaaReg
import Derived.Test.YtoiegmdlbcbgoaaRow
import Derived.Test.YtoiegmdlbcbgoaaSrc
import Derived.Test.YtoiegmdlbcbgoaaKit
import Derived.Outline
import Derived.RegionTactic
namespace Go.Proofs.Ytoiegmdlbcbgoaa.Pr
open Go.RowKit

/-! ### slices.Index, slices.Contains over the bits that may be -/
def bitsL : List Int := [1, 2, 4, 8, 16]
def bitsCells : Array Value := #[.int .i64 1, .int .i64 2, .int .i64 4, .int .i64 8, .int .i64 16]
def bitsOk (x : Int) : Prop := x = 1 ∨ x = 2 ∨ x = 4 ∨ x = 8 ∨ x = 16
instance (x : Int) : Decidable (bitsOk x) := by unfold bitsOk; infer_instance
set_option maxRecDepth 100000 in
set_option maxHeartbeats 4000000 in
theorem index_walk (x : Int) (q : Nat) (w : World) (hq : w.heap[q]? = some (.cells bitsCells 3 (0, 0))) :
    Calls Try.prog 24 #[.slice (some ⟨q, 0, none⟩) 5 5, .int .i64 x] w fun e w' => ∃ r : Int, e = .returned (.int .i64 r) ∧ (0 ≤ r ↔ bitsOk x) ∧ w = w' := by
  have c0 : w.cell? ⟨q, 0, none⟩ = some (.int .i64 1) := cellOf hq 0
  have c1 : w.cell? ⟨q, 1, none⟩ = some (.int .i64 2) := cellOf hq 1
  have c2 : w.cell? ⟨q, 2, none⟩ = some (.int .i64 4) := cellOf hq 2
  have c3 : w.cell? ⟨q, 3, none⟩ = some (.int .i64 8) := cellOf hq 3
  have c4 : w.cell? ⟨q, 4, none⟩ = some (.int .i64 16) := cellOf hq 4
  clear hq
  go_enter Try.func24, Try.ntmps24
  by_cases h0 : x = 1
  · subst h0
    go_wp2_with fail
    refine wp_loop_rounds 1 ?_
    rw [rounds_succ]
    go_wp2_with fail
    go_ret
    exact ⟨0, rfl, by decide, rfl⟩
  by_cases h1 : x = 2
  · subst h1
    go_wp2_with fail
    refine wp_loop_rounds 2 ?_
    iterate 2 (rw [rounds_succ]; go_wp2_with fail)
    go_ret
    exact ⟨1, rfl, by decide, rfl⟩
  by_cases h2 : x = 4
  · subst h2
    go_wp2_with fail
    refine wp_loop_rounds 3 ?_
    iterate 3 (rw [rounds_succ]; go_wp2_with fail)
    go_ret
    exact ⟨2, rfl, by decide, rfl⟩
  by_cases h3 : x = 8
  · subst h3
    go_wp2_with fail
    refine wp_loop_rounds 4 ?_
    iterate 4 (rw [rounds_succ]; go_wp2_with fail)
    go_ret
    exact ⟨3, rfl, by decide, rfl⟩
  by_cases h4 : x = 16
  · subst h4
    go_wp2_with fail
    refine wp_loop_rounds 5 ?_
    iterate 5 (rw [rounds_succ]; go_wp2_with fail)
    go_ret
    exact ⟨4, rfl, by decide, rfl⟩
  have q0 : (x == 1) = false := beq_eq_false_iff_ne.2 h0
  have q1 : (x == 2) = false := beq_eq_false_iff_ne.2 h1
  have q2 : (x == 4) = false := beq_eq_false_iff_ne.2 h2
  have q3 : (x == 8) = false := beq_eq_false_iff_ne.2 h3
  have q4 : (x == 16) = false := beq_eq_false_iff_ne.2 h4
  have hno : ¬ bitsOk x := by unfold bitsOk; omega
  have HN := Lib.hid hno
  clear hno h0 h1 h2 h3 h4
  go_wp2_with fail
  refine wp_loop_rounds 6 ?_
  iterate 6 (rw [rounds_succ]; go_wp2_with fail)
  go_ret
  exact ⟨-1, rfl, ⟨by omega, fun h => absurd h HN.out⟩, rfl⟩
set_option maxHeartbeats 4000000 in
theorem contains_walk (x : Int) (q : Nat) (w : World) (hq : w.heap[q]? = some (.cells bitsCells 3 (0, 0))) :
    Calls Try.prog 15 #[.slice (some ⟨q, 0, none⟩) 5 5, .int .i64 x] w fun e w' => e = .returned (.bool (decide (bitsOk x))) ∧ w = w' := by
  have HQ := Lib.hid hq
  clear hq
  go_enter Try.func15, Try.ntmps15
  go_wp2_with fail
  refine (index_walk x q _ HQ.out).mono ?_
  rintro e w1 ⟨r, rfl, hr, rfl⟩
  by_cases h : 0 ≤ r
  · have hb := hr.1 h
    have Hb := Lib.hid (decide_eq_true hb)
    clear hr hb
    go_wp2_with fail
    go_ret
    exact ⟨by rw [Hb.out]; first | rfl | simp, rfl⟩
  · have hb : ¬ bitsOk x := fun q => h (hr.2 q)
    have Hb := Lib.hid (decide_eq_false hb)
    clear hr hb
    go_wp2_with fail
    go_ret
    exact ⟨by rw [Hb.out]; simp; omega, rfl⟩

/-! ### Check -/
theorem alloc2 (w : World) (o1 o2 : Obj) : ((w.alloc o1).alloc o2).heap[w.heap.size + 1]? = some o2 := by
  have h := heap_alloc_at (w := w.alloc o1) o2
  rw [show (w.alloc o1).heap.size = w.heap.size + 1 from by simp] at h
  exact h
def gV (p c b k : Int) : Value := .agg #[.int .i64 p, .int .i64 c, .int .i64 b, .int .i64 k]
def predOk (p : Int) : Prop := p = 1 ∨ p = 2 ∨ (10 ≤ p ∧ p ≤ 15)
instance (p : Int) : Decidable (predOk p) := by unfold predOk; infer_instance
def gOk (p c b k : Int) : Prop := predOk p ∧ (1 ≤ c ∧ c ≤ 4) ∧ bitsOk b ∧ (1 ≤ k ∧ k ≤ 4096)
instance (p c b k : Int) : Decidable (gOk p c b k) := by unfold gOk; infer_instance
def gE (p c b k : Int) : Nat := if gOk p c b k then 0 else 2
set_option maxRecDepth 100000 in
set_option maxHeartbeats 8000000 in
theorem check_p1 (c b k : Int) (w : World) : Calls Try.prog 8 #[.agg #[.int .i64 1, .int .i64 c, .int .i64 b, .int .i64 k]] w fun e w' => e = .returned (.int .i64 (gE 1 c b k : Nat)) ∧ Ext [] w w' := by
  by_cases c1 : c < 1
  · have hE : gE 1 c b k = 2 := by unfold gE; rw [if_neg (by unfold gOk predOk bitsOk; omega)]
    rw [hE]
    have HH := Lib.hid hE
    clear hE
    go_enter Try.func8, Try.ntmps8
    go_wp2_with fail
    go_ret
    exact ⟨rfl, (Ext.refl _ _).alloc _⟩
  by_cases c2 : 4 < c
  · have hE : gE 1 c b k = 2 := by unfold gE; rw [if_neg (by unfold gOk predOk bitsOk; omega)]
    rw [hE]
    have HH := Lib.hid hE
    clear hE
    go_enter Try.func8, Try.ntmps8
    go_wp2_with fail
    go_ret
    exact ⟨rfl, (Ext.refl _ _).alloc _⟩
  by_cases b0 : bitsOk b
  · have hb := decide_eq_true b0
    unfold bitsOk at b0
    by_cases k1 : k < 1
    · have hE : gE 1 c b k = 2 := by unfold gE; rw [if_neg (by unfold gOk predOk bitsOk; omega)]
      rw [hE]
      have HH := Lib.hid hE
      clear hE
      have HB := Lib.hid hb
      clear hb
      go_enter Try.func8, Try.ntmps8
      go_wp2_with fail
      refine (contains_walk b (w.heap.size + 1) _ (alloc2 _ _ _)).mono ?_
      rintro e w1 ⟨rfl, rfl⟩
      rw [HB.out]
      go_wp2_with fail
      go_ret
      exact ⟨rfl, ((Ext.refl _ _).alloc _).alloc _⟩
    by_cases k2 : 4096 < k
    · have hE : gE 1 c b k = 2 := by unfold gE; rw [if_neg (by unfold gOk predOk bitsOk; omega)]
      rw [hE]
      have HH := Lib.hid hE
      clear hE
      have HB := Lib.hid hb
      clear hb
      go_enter Try.func8, Try.ntmps8
      go_wp2_with fail
      refine (contains_walk b (w.heap.size + 1) _ (alloc2 _ _ _)).mono ?_
      rintro e w1 ⟨rfl, rfl⟩
      rw [HB.out]
      go_wp2_with fail
      go_ret
      exact ⟨rfl, ((Ext.refl _ _).alloc _).alloc _⟩
    have hE : gE 1 c b k = 0 := by unfold gE; rw [if_pos (by unfold gOk predOk bitsOk; omega)]
    rw [hE]
    have HH := Lib.hid hE
    clear hE
    have HB := Lib.hid hb
    clear hb
    go_enter Try.func8, Try.ntmps8
    go_wp2_with fail
    refine (contains_walk b (w.heap.size + 1) _ (alloc2 _ _ _)).mono ?_
    rintro e w1 ⟨rfl, rfl⟩
    rw [HB.out]
    go_wp2_with fail
    go_ret
    exact ⟨rfl, ((Ext.refl _ _).alloc _).alloc _⟩
  · have hb := decide_eq_false b0
    unfold bitsOk at b0
    have hE : gE 1 c b k = 2 := by unfold gE; rw [if_neg (by unfold gOk predOk bitsOk; omega)]
    rw [hE]
    have HH := Lib.hid hE
    clear hE
    have HB := Lib.hid hb
    clear hb
    go_enter Try.func8, Try.ntmps8
    go_wp2_with fail
    refine (contains_walk b (w.heap.size + 1) _ (alloc2 _ _ _)).mono ?_
    rintro e w1 ⟨rfl, rfl⟩
    rw [HB.out]
    go_wp2_with fail
    go_ret
    exact ⟨rfl, ((Ext.refl _ _).alloc _).alloc _⟩
set_option maxRecDepth 100000 in
set_option maxHeartbeats 8000000 in
theorem check_p2 (c b k : Int) (w : World) : Calls Try.prog 8 #[.agg #[.int .i64 2, .int .i64 c, .int .i64 b, .int .i64 k]] w fun e w' => e = .returned (.int .i64 (gE 2 c b k : Nat)) ∧ Ext [] w w' := by
  by_cases c1 : c < 1
  · have hE : gE 2 c b k = 2 := by unfold gE; rw [if_neg (by unfold gOk predOk bitsOk; omega)]
    rw [hE]
    have HH := Lib.hid hE
    clear hE
    go_enter Try.func8, Try.ntmps8
    go_wp2_with fail
    go_ret
    exact ⟨rfl, (Ext.refl _ _).alloc _⟩
  by_cases c2 : 4 < c
  · have hE : gE 2 c b k = 2 := by unfold gE; rw [if_neg (by unfold gOk predOk bitsOk; omega)]
    rw [hE]
    have HH := Lib.hid hE
    clear hE
    go_enter Try.func8, Try.ntmps8
    go_wp2_with fail
    go_ret
    exact ⟨rfl, (Ext.refl _ _).alloc _⟩
  by_cases b0 : bitsOk b
  · have hb := decide_eq_true b0
    unfold bitsOk at b0
    by_cases k1 : k < 1
    · have hE : gE 2 c b k = 2 := by unfold gE; rw [if_neg (by unfold gOk predOk bitsOk; omega)]
      rw [hE]
      have HH := Lib.hid hE
      clear hE
      have HB := Lib.hid hb
      clear hb
      go_enter Try.func8, Try.ntmps8
      go_wp2_with fail
      refine (contains_walk b (w.heap.size + 1) _ (alloc2 _ _ _)).mono ?_
      rintro e w1 ⟨rfl, rfl⟩
      rw [HB.out]
      go_wp2_with fail
      go_ret
      exact ⟨rfl, ((Ext.refl _ _).alloc _).alloc _⟩
    by_cases k2 : 4096 < k
    · have hE : gE 2 c b k = 2 := by unfold gE; rw [if_neg (by unfold gOk predOk bitsOk; omega)]
      rw [hE]
      have HH := Lib.hid hE
      clear hE
      have HB := Lib.hid hb
      clear hb
      go_enter Try.func8, Try.ntmps8
      go_wp2_with fail
      refine (contains_walk b (w.heap.size + 1) _ (alloc2 _ _ _)).mono ?_
      rintro e w1 ⟨rfl, rfl⟩
      rw [HB.out]
      go_wp2_with fail
      go_ret
      exact ⟨rfl, ((Ext.refl _ _).alloc _).alloc _⟩
    have hE : gE 2 c b k = 0 := by unfold gE; rw [if_pos (by unfold gOk predOk bitsOk; omega)]
    rw [hE]
    have HH := Lib.hid hE
    clear hE
    have HB := Lib.hid hb
    clear hb
    go_enter Try.func8, Try.ntmps8
    go_wp2_with fail
    refine (contains_walk b (w.heap.size + 1) _ (alloc2 _ _ _)).mono ?_
    rintro e w1 ⟨rfl, rfl⟩
    rw [HB.out]
    go_wp2_with fail
    go_ret
    exact ⟨rfl, ((Ext.refl _ _).alloc _).alloc _⟩
  · have hb := decide_eq_false b0
    unfold bitsOk at b0
    have hE : gE 2 c b k = 2 := by unfold gE; rw [if_neg (by unfold gOk predOk bitsOk; omega)]
    rw [hE]
    have HH := Lib.hid hE
    clear hE
    have HB := Lib.hid hb
    clear hb
    go_enter Try.func8, Try.ntmps8
    go_wp2_with fail
    refine (contains_walk b (w.heap.size + 1) _ (alloc2 _ _ _)).mono ?_
    rintro e w1 ⟨rfl, rfl⟩
    rw [HB.out]
    go_wp2_with fail
    go_ret
    exact ⟨rfl, ((Ext.refl _ _).alloc _).alloc _⟩
set_option maxRecDepth 100000 in
set_option maxHeartbeats 8000000 in
theorem check_p10 (p c b k : Int) (w : World) (p1 : 10 ≤ p) (p2 : p ≤ 15) : Calls Try.prog 8 #[.agg #[.int .i64 p, .int .i64 c, .int .i64 b, .int .i64 k]] w fun e w' => e = .returned (.int .i64 (gE p c b k : Nat)) ∧ Ext [] w w' := by
  have e1 : (p == 1) = false := beq_eq_false_iff_ne.2 (by omega)
  have e2 : (p == 2) = false := beq_eq_false_iff_ne.2 (by omega)
  by_cases c1 : c < 1
  · have hE : gE p c b k = 2 := by unfold gE; rw [if_neg (by unfold gOk predOk bitsOk; omega)]
    rw [hE]
    have HH := Lib.hid hE
    clear hE
    go_enter Try.func8, Try.ntmps8
    go_wp2_with fail
    go_ret
    exact ⟨rfl, (Ext.refl _ _).alloc _⟩
  by_cases c2 : 4 < c
  · have hE : gE p c b k = 2 := by unfold gE; rw [if_neg (by unfold gOk predOk bitsOk; omega)]
    rw [hE]
    have HH := Lib.hid hE
    clear hE
    go_enter Try.func8, Try.ntmps8
    go_wp2_with fail
    go_ret
    exact ⟨rfl, (Ext.refl _ _).alloc _⟩
  by_cases b0 : bitsOk b
  · have hb := decide_eq_true b0
    unfold bitsOk at b0
    by_cases k1 : k < 1
    · have hE : gE p c b k = 2 := by unfold gE; rw [if_neg (by unfold gOk predOk bitsOk; omega)]
      rw [hE]
      have HH := Lib.hid hE
      clear hE
      have HB := Lib.hid hb
      clear hb
      go_enter Try.func8, Try.ntmps8
      go_wp2_with fail
      refine (contains_walk b (w.heap.size + 1) _ (alloc2 _ _ _)).mono ?_
      rintro e w1 ⟨rfl, rfl⟩
      rw [HB.out]
      go_wp2_with fail
      go_ret
      exact ⟨rfl, ((Ext.refl _ _).alloc _).alloc _⟩
    by_cases k2 : 4096 < k
    · have hE : gE p c b k = 2 := by unfold gE; rw [if_neg (by unfold gOk predOk bitsOk; omega)]
      rw [hE]
      have HH := Lib.hid hE
      clear hE
      have HB := Lib.hid hb
      clear hb
      go_enter Try.func8, Try.ntmps8
      go_wp2_with fail
      refine (contains_walk b (w.heap.size + 1) _ (alloc2 _ _ _)).mono ?_
      rintro e w1 ⟨rfl, rfl⟩
      rw [HB.out]
      go_wp2_with fail
      go_ret
      exact ⟨rfl, ((Ext.refl _ _).alloc _).alloc _⟩
    have hE : gE p c b k = 0 := by unfold gE; rw [if_pos (by unfold gOk predOk bitsOk; omega)]
    rw [hE]
    have HH := Lib.hid hE
    clear hE
    have HB := Lib.hid hb
    clear hb
    go_enter Try.func8, Try.ntmps8
    go_wp2_with fail
    refine (contains_walk b (w.heap.size + 1) _ (alloc2 _ _ _)).mono ?_
    rintro e w1 ⟨rfl, rfl⟩
    rw [HB.out]
    go_wp2_with fail
    go_ret
    exact ⟨rfl, ((Ext.refl _ _).alloc _).alloc _⟩
  · have hb := decide_eq_false b0
    unfold bitsOk at b0
    have hE : gE p c b k = 2 := by unfold gE; rw [if_neg (by unfold gOk predOk bitsOk; omega)]
    rw [hE]
    have HH := Lib.hid hE
    clear hE
    have HB := Lib.hid hb
    clear hb
    go_enter Try.func8, Try.ntmps8
    go_wp2_with fail
    refine (contains_walk b (w.heap.size + 1) _ (alloc2 _ _ _)).mono ?_
    rintro e w1 ⟨rfl, rfl⟩
    rw [HB.out]
    go_wp2_with fail
    go_ret
    exact ⟨rfl, ((Ext.refl _ _).alloc _).alloc _⟩
set_option maxRecDepth 100000 in
set_option maxHeartbeats 8000000 in
theorem check_no1 (p c b k : Int) (w : World) (hp : ¬ predOk p) (p1 : p < 10) : Calls Try.prog 8 #[.agg #[.int .i64 p, .int .i64 c, .int .i64 b, .int .i64 k]] w fun e w' => e = .returned (.int .i64 (gE p c b k : Nat)) ∧ Ext [] w w' := by
  have e1 : (p == 1) = false := beq_eq_false_iff_ne.2 (fun h => hp (.inl h))
  have e2 : (p == 2) = false := beq_eq_false_iff_ne.2 (fun h => hp (.inr (.inl h)))
  have HP := Lib.hid hp
  clear hp
  have hE : gE p c b k = 2 := by unfold gE; rw [if_neg (fun h => HP.out h.1)]
  rw [hE]
  have HH := Lib.hid hE
  clear hE
  go_enter Try.func8, Try.ntmps8
  go_wp2_with fail
  go_ret
  exact ⟨rfl, (Ext.refl _ _).alloc _⟩
set_option maxRecDepth 100000 in
set_option maxHeartbeats 8000000 in
theorem check_no2 (p c b k : Int) (w : World) (hp : ¬ predOk p) (p1 : 15 < p) : Calls Try.prog 8 #[.agg #[.int .i64 p, .int .i64 c, .int .i64 b, .int .i64 k]] w fun e w' => e = .returned (.int .i64 (gE p c b k : Nat)) ∧ Ext [] w w' := by
  have e1 : (p == 1) = false := beq_eq_false_iff_ne.2 (fun h => hp (.inl h))
  have e2 : (p == 2) = false := beq_eq_false_iff_ne.2 (fun h => hp (.inr (.inl h)))
  have HP := Lib.hid hp
  clear hp
  have hE : gE p c b k = 2 := by unfold gE; rw [if_neg (fun h => HP.out h.1)]
  rw [hE]
  have HH := Lib.hid hE
  clear hE
  go_enter Try.func8, Try.ntmps8
  go_wp2_with fail
  go_ret
  exact ⟨rfl, (Ext.refl _ _).alloc _⟩
theorem check_walk (p c b k : Int) (w : World) :
    Calls Try.prog 8 #[gV p c b k] w fun e w' => e = .returned (.int .i64 (gE p c b k : Nat)) ∧ Ext [] w w' := by
  unfold gV
  by_cases h : predOk p
  · rcases h with rfl | rfl | ⟨h1, h2⟩
    · exact check_p1 c b k w
    · exact check_p2 c b k w
    · exact check_p10 p c b k w h1 h2
  · by_cases h1 : p < 10
    · exact check_no1 p c b k w h h1
    · exact check_no2 p c b k w h (by unfold predOk at h; omega)
end Go.Proofs.Ytoiegmdlbcbgoaa.Pr
