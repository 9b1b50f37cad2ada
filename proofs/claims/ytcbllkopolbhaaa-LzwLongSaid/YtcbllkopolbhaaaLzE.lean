/-
  lzw.anew, behind, Put.
-/
import Derived.Test.YtcbllkopolbhaaaLzD
import Derived.Outline
namespace Go.Proofs.Ytcbllkopolbhaaa.Lz
open Go.RowKit Go.Maps

/-! ### a counter: how many numbers a reader has; was a code ahead? -/
def cv (n : Nat) (b : Bool) : Value := .agg #[.int .i64 n, .bool b]
def cO (n : Nat) (b : Bool) : Obj := .cells #[.int .i64 n, .bool b] 45 (0, 0)
theorem heap_at {w : World} {k : Nat} (o : Obj) (h : w.heap.size = k) : (w.alloc o).heap[k]? = some o := by subst h; exact heap_alloc_at o
theorem sizeCtr : (Try.prog.info? 45).map (·.size) = Option.some 2 := by kernel_rfl
theorem anew_any (w : World) : Calls Try.prog 19 #[] w fun e w' => e = .returned (.agg #[.int .i64 258, .bool false]) ∧ Ext [] w w' := by
  go_enter Try.func19, Try.ntmps19
  go_wp2
  (try simp only [Exit.inBlock, Exit.then])
  refine bodyPost_ret (results_cell_row rfl _ _ w.heap.size 45 #[.int .i64 258, .bool false] (0, 0) _ rfl (heap_alloc_at _) Try.underlying45 rfl sizeCtr) rfl ?_
  exact ⟨rfl, (Ext.refl [] w).alloc _⟩
def bhN (n : Nat) (b : Bool) (code : Nat) : Nat := if code = 256 then 258 else if b = true ∧ n < 4096 then n + 1 else n
def bhB (code : Nat) : Bool := decide (code ≠ 256)
set_option maxHeartbeats 4000000 in
theorem behind_clear (n : Nat) (b : Bool) (w : World) : Calls Try.prog 22 #[.agg #[.int .i64 n, .bool b], .int .i64 256] w fun e w' => e = .returned (.agg #[.int .i64 258, .bool false]) ∧ Ext [] w w' := by
  go_enter Try.func22, Try.ntmps22
  go_wp2_with fail
  refine (anew_any _).mono ?_; rintro e w2 ⟨rfl, hx⟩
  have hb2 : w2.heap[w.heap.size + 1]? = some (.cells #[.int .i64 0, .bool false] 45 (0, 0)) := hx.keep (heap_at _ (by simp)) (by simp)
  have c0 := cellOf hb2 0
  have c1 := cellOf hb2 1
  have f0 := freeOf hb2 0
  have f1 := freeOf hb2 1
  simp at c0 c1
  go_wp2_with fail
  (try simp only [Exit.inBlock, Exit.then])
  refine bodyPost_ret (results_cell_row rfl _ _ (w.heap.size + 1) 45 #[.int .i64 258, .bool false] (0, 0) _ rfl (heap_setCell_same (heap_setCell_same hb2 _) _) Try.underlying45 rfl sizeCtr) rfl ?_
  refine ⟨rfl, ?_⟩
  exact (((((Ext.refl [] w).alloc _).alloc _).trans hx).setCell _ _ (by simp)).setCell _ _ (by simp)
set_option maxRecDepth 100000 in
set_option maxHeartbeats 4000000 in
theorem behind_more (n code : Nat) (w : World) (h : code ≠ 256) (hn : n < 4096) : Calls Try.prog 22 #[.agg #[.int .i64 n, .bool true], .int .i64 code] w fun e w' => e = .returned (.agg #[.int .i64 ((n : Int) + 1), .bool true]) ∧ Ext [] w w' := by
  go_enter Try.func22, Try.ntmps22
  go_wp2_with fail
  (try simp only [Exit.inBlock, Exit.then])
  refine bodyPost_ret (results_cell_row rfl _ _ (w.heap.size + 1) 45 #[.int .i64 ((n : Int) + 1), .bool true] (0, 0) _ rfl (heap_at _ (by simp)) Try.underlying45 rfl sizeCtr) rfl ?_
  exact ⟨rfl, ((Ext.refl [] w).alloc _).alloc _⟩
set_option maxRecDepth 100000 in
set_option maxHeartbeats 4000000 in
theorem behind_full (n code : Nat) (w : World) (h : code ≠ 256) (hn : 4096 ≤ n) : Calls Try.prog 22 #[.agg #[.int .i64 n, .bool true], .int .i64 code] w fun e w' => e = .returned (.agg #[.int .i64 (n : Int), .bool true]) ∧ Ext [] w w' := by
  go_enter Try.func22, Try.ntmps22
  go_wp2_with fail
  (try simp only [Exit.inBlock, Exit.then])
  refine bodyPost_ret (results_cell_row rfl _ _ (w.heap.size + 1) 45 #[.int .i64 (n : Int), .bool true] (0, 0) _ rfl (heap_at _ (by simp)) Try.underlying45 rfl sizeCtr) rfl ?_
  exact ⟨rfl, ((Ext.refl [] w).alloc _).alloc _⟩
set_option maxRecDepth 100000 in
set_option maxHeartbeats 4000000 in
theorem behind_first (n code : Nat) (w : World) (h : code ≠ 256) : Calls Try.prog 22 #[.agg #[.int .i64 n, .bool false], .int .i64 code] w fun e w' => e = .returned (.agg #[.int .i64 (n : Int), .bool true]) ∧ Ext [] w w' := by
  go_enter Try.func22, Try.ntmps22
  go_wp2_with fail
  (try simp only [Exit.inBlock, Exit.then])
  refine bodyPost_ret (results_cell_row rfl _ _ (w.heap.size + 1) 45 #[.int .i64 (n : Int), .bool true] (0, 0) _ rfl (heap_at _ (by simp)) Try.underlying45 rfl sizeCtr) rfl ?_
  exact ⟨rfl, ((Ext.refl [] w).alloc _).alloc _⟩
theorem behind_any (n code : Nat) (b : Bool) (w : World) : Calls Try.prog 22 #[.agg #[.int .i64 n, .bool b], .int .i64 code] w fun e w' => e = .returned (.agg #[.int .i64 (bhN n b code : Nat), .bool (bhB code)]) ∧ Ext [] w w' := by
  by_cases hc : code = 256
  · subst hc
    exact behind_clear n b w
  · have hB : bhB code = true := by simp [bhB, hc]
    rw [hB]
    cases b with
    | false =>
      have hN : bhN n false code = n := by simp [bhN, hc]
      rw [hN]
      exact behind_first n code w hc
    | true =>
      by_cases hn : n < 4096
      · have hN : bhN n true code = n + 1 := by simp [bhN, hc, hn]
        rw [hN]
        exact behind_more n code w hc hn
      · have hN : bhN n true code = n := by simp [bhN, hc, hn]
        rw [hN]
        exact behind_full n code w hc (by omega)

end Go.Proofs.Ytcbllkopolbhaaa.Lz
