/-
  predict: begin: walked.
-/
import Derived.Test.YtoiegmdlbcbgoaaPrE
import Derived.Deep.RegionHeld3
namespace Go.Proofs.Ytoiegmdlbcbgoaa.Pr
open Go.RowKit

def besN (c b : Int) : Nat := max 1 (c * b / 8).toNat
theorem make_ex (n : Nat) (hn : n ≤ 1048576) (w1 : World) : ∃ w2, (Instr.makeSlice 42 (.int .i64 n) (.int .i64 n)).run Try.prog w1 = .ok (.slice (some ⟨w1.heap.size, 0, none⟩) n n) w2 ∧ w2.ownsRow 0 5 1 (.slice (some ⟨w1.heap.size, 0, none⟩) n n) n ((List.replicate n 0).map c8) ∧ Ext [] w1 w2 ∧ w1.heap.size < w2.heap.size := by
  obtain ⟨i0, hif, hz0, hz1, hz2⟩ := info_parts infoByte
  obtain ⟨w2, hmk, hown, hgrow⟩ := run_make_full (P := Try.prog) w1 0 42 5 i0 (.int .u8 0) 1 Try.underlying42 hif hz0 hz1 .i64 .i64 n (by rw [hz2]; omega) (by unfold maxLen; omega) (by omega)
  have hx2 : Ext [] w1 w2 := (Ext.refl [] w1).grown hgrow (fun k hk => by cases hk)
  refine ⟨w2, hmk, ?_, hx2, ?_⟩
  · have hm : (madeCells (Value.int .u8 0).cells (n * 1)).toList = (List.replicate n 0).map c8 := by
      rw [List.map_replicate, Nat.mul_one]
      exact toList_madeCells_one _ _
    rw [← hm]; exact hown
  · exact hown.lt w1.heap.size (by simp [Value.ownBlock]) |>.2
set_option maxRecDepth 100000 in
set_option maxHeartbeats 8000000 in
theorem begin_walk (p c b k : Int) (w : World) (h : gOk p c b k) :
    Calls Try.prog 17 #[gV p c b k] w fun e w' => ∃ cb ab, e = .returned (.pointer (some ⟨cb, 0, none⟩)) ∧
      Sep w w' [Ob.one cb (coderO (besN c b) (rowN c b k) ab 0 (rowN c b k)), oSl 5 1 (.slice (some ⟨ab, 0, none⟩) (rowN c b k) (rowN c b k)) (rowN c b k) ((List.replicate (rowN c b k) 0).map c8)] := by
  obtain ⟨_, _, b1, b2, k1, k2, m1, m2, n1, n2⟩ := gOk_bounds h
  have hrw := row_walk p c b k
  have hrb := rowN_bounds h
  generalize rowN c b k = n at *
  have hbs : (if (1 : Int) < c * b / 8 then c * b / 8 else 1) = ((besN c b : Nat) : Int) := by unfold besN; split <;> omega
  generalize besN c b = bs at *
  have HRW := Lib.hid (fun w => hrw w h)
  unfold gV at *
  have HBS := Lib.hid hbs
  have MK := Lib.hid (make_ex n (by omega))
  clear hrw h
  obtain ⟨m, hm⟩ : ∃ m, c * b = m := ⟨_, rfl⟩
  rw [hm] at m1 m2 n1 n2 hbs
  go_enter Try.func17, Try.ntmps17
  go_wp2_with fail
  obtain ⟨W, hW, hgb, hxW⟩ : ∃ W, w.alloc (.cells #[.int .i64 p, .int .i64 c, .int .i64 b, .int .i64 k] 23) = W ∧ W.heap[w.heap.size]? = some (.cells #[.int .i64 p, .int .i64 c, .int .i64 b, .int .i64 k] 23 (0, 0)) ∧ Ext [] w W := ⟨_, rfl, heap_alloc_at _, (Ext.refl _ _).alloc _⟩
  rw [hW]
  refine wp_region_mid (C := fun w' => ∃ x : Ex W, w' = x.w) 8 2 (by kernel_rfl) (by kernel_rfl) ⟨Ex.mk _ ((Ext.refl _ W).drew), rfl⟩ ?_
  simp only [List.take_succ_cons, List.take_zero, List.drop_succ_cons, List.drop_zero]
  have c0 : ∀ x : Ex W, x.w.cell? ⟨w.heap.size, 0, none⟩ = some (.int .i64 p) := fun x => cellOf (x.heap hgb) 0
  have c1 : ∀ x : Ex W, x.w.cell? ⟨w.heap.size, 1, none⟩ = some (.int .i64 c) := fun x => cellOf (x.heap hgb) 1
  have c2 : ∀ x : Ex W, x.w.cell? ⟨w.heap.size, 2, none⟩ = some (.int .i64 b) := fun x => cellOf (x.heap hgb) 2
  have c3 : ∀ x : Ex W, x.w.cell? ⟨w.heap.size, 3, none⟩ = some (.int .i64 k) := fun x => cellOf (x.heap hgb) 3
  clear hW
  repeat (go_big_quiet_step (fail))
  refine wpQuiet_nil ?_
  refine midW_step rfl (fun K hK => ?_)
  go_wp2_with fail
  refine (HRW.out _).mono ?_
  rintro e w1 ⟨rfl, hx1⟩
  have hx1' : Ext [] W w1 := ((Ext.refl _ W).drew).trans hx1
  refine hK _ _ ⟨⟨Ex.mk w1 hx1', rfl⟩, ?_⟩
  clear hK K c0 c1 c2 c3
  refine midW_step rfl (fun K hK => ?_)
  obtain ⟨w2, hmk, hown, hx2, hsz⟩ := MK.out w1
  have HOWN := Lib.hid hown
  have HX2 := Lib.hid hx2
  have HX1 := Lib.hid hx1'
  have HSZ := Lib.hid hsz
  clear hown hx2 hx1 hx1' hsz
  go_wp2_with fail
  refine ⟨⟨Ex.mk w2 (HX1.out.trans HX2.out), rfl⟩, ?_⟩
  refine midW_nil ?_
  go_wp2_with fail
  refine NoPanic.normal ?_
  go_wp2_with fail
  go_ret
  have hn2 := HSZ.out
  have S := ((Sep.start w).quiet (hxW.trans HX1.out)).new HX2.out (oSl 5 1 (.slice (some ⟨w1.heap.size, 0, none⟩) n n) n ((List.replicate n 0).map c8)) HOWN.out (fun q hq => by simp [oSl, Value.ownBlock] at hq; omega)
  exact ⟨w2.heap.size, w1.heap.size, rfl, S.new ((Ext.refl _ w2).alloc _) (Ob.one w2.heap.size (coderO bs n w1.heap.size 0 n)) (heap_alloc_at _) (fun q hq => by rw [List.mem_singleton.1 hq]; exact Nat.le_refl _)⟩
end Go.Proofs.Ytoiegmdlbcbgoaa.Pr
