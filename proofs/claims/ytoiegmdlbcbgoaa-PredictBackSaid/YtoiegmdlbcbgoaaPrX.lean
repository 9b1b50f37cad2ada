/-
  predict: Put and Get as PredictBack uses them.
-/
import Derived.Test.YtoiegmdlbcbgoaaPrW
namespace Go.Proofs.Ytoiegmdlbcbgoaa.Pr
open Go.RowKit

set_option maxRecDepth 100000 in
set_option maxHeartbeats 8000000 in
theorem putN_walk (s : ByteArray) (c b k : Int) (w : World) (h : gOk 1 c b k) : Calls Try.prog 11 #[.string s, gV 1 c b k] w fun e w' => e = .returned (.tuple #[.string s, .int .i64 0]) ∧ Ext [] w w' := by
  have hcw := check_walk 1 c b k
  rw [show gE 1 c b k = 0 from if_pos h] at hcw
  have hrw := fun w => row_walk 1 c b k w h
  unfold gV at *
  have HCW := Lib.hid hcw
  have HRW := Lib.hid hrw
  clear hcw hrw h
  refine (callsIn_wide (n := 0)).1 (callsIn_of_wp_marks Try.func11 rfl trivial ((wpIn_wide (n := 0)).2 ?_))
  simp only [Try.ntmps11, List.size_toArray, List.length_cons, List.length_nil, Nat.reduceAdd, Nat.reduceSub, Array.replicate_succ, Array.replicate_zero, List.push_toArray, List.append_toArray, List.nil_append, List.cons_append]
  go_wp2_with fail
  obtain ⟨gb, hgb⟩ : ∃ gb, w.heap.size = gb := ⟨_, rfl⟩
  have Sp := (Sep.start w).new ((Ext.refl _ w).alloc (.cells #[.int .i64 1, .int .i64 c, .int .i64 b, .int .i64 k] 23)) (Ob.one w.heap.size (.cells #[.int .i64 1, .int .i64 c, .int .i64 b, .int .i64 k] 23 (0, 0))) (heap_alloc_at _) (fun q hq => by rw [List.mem_singleton.1 hq]; exact Nat.le_refl _)
  obtain ⟨W0, hW0⟩ : ∃ W0, w.alloc (.cells #[.int .i64 1, .int .i64 c, .int .i64 b, .int .i64 k] 23) = W0 := ⟨_, rfl⟩
  rw [hW0, hgb] at Sp
  rw [hW0, hgb]
  have HSp := Lib.hid Sp
  clear Sp hW0 hgb
  refine (HCW.out _).mono ?_
  rintro e w1 ⟨rfl, hx1⟩
  have Sp := HSp.out.quiet hx1
  have HSp := Lib.hid Sp
  have hg := Sp.get 0 rfl
  have d0 : w1.cell? ⟨gb, 0, none⟩ = some (.int .i64 1) := cellOf hg 0
  have d1 : w1.cell? ⟨gb, 1, none⟩ = some (.int .i64 c) := cellOf hg 1
  have d2 : w1.cell? ⟨gb, 2, none⟩ = some (.int .i64 b) := cellOf hg 2
  have d3 : w1.cell? ⟨gb, 3, none⟩ = some (.int .i64 k) := cellOf hg 3
  clear Sp hx1 hg
  go_wp2_with fail
  refine (HRW.out _).mono ?_
  clear d0 d1 d2 d3
  rintro e w2 ⟨rfl, hx1⟩
  have Sp := HSp.out.quiet hx1
  have HSp := Lib.hid Sp
  have hg := Sp.get 0 rfl
  have d0 : w2.cell? ⟨gb, 0, none⟩ = some (.int .i64 1) := cellOf hg 0
  have d1 : w2.cell? ⟨gb, 1, none⟩ = some (.int .i64 c) := cellOf hg 1
  have d2 : w2.cell? ⟨gb, 2, none⟩ = some (.int .i64 b) := cellOf hg 2
  have d3 : w2.cell? ⟨gb, 3, none⟩ = some (.int .i64 k) := cellOf hg 3
  clear Sp hx1 hg
  go_wp2_with fail
  refine ⟨_, results_tmp2 rfl _ _ _, rfl, ?_⟩
  exact HSp.out.ext
set_option maxRecDepth 100000 in
set_option maxHeartbeats 8000000 in
theorem getN_walk (s : ByteArray) (c b k : Int) (w : World) (h : gOk 1 c b k) : Calls Try.prog 14 #[.string s, gV 1 c b k] w fun e w' => e = .returned (.tuple #[.string s, .int .i64 0]) ∧ Ext [] w w' := by
  have hcw := check_walk 1 c b k
  rw [show gE 1 c b k = 0 from if_pos h] at hcw
  have hrw := fun w => row_walk 1 c b k w h
  unfold gV at *
  have HCW := Lib.hid hcw
  have HRW := Lib.hid hrw
  clear hcw hrw h
  refine (callsIn_wide (n := 0)).1 (callsIn_of_wp_marks Try.func14 rfl trivial ((wpIn_wide (n := 0)).2 ?_))
  simp only [Try.ntmps14, List.size_toArray, List.length_cons, List.length_nil, Nat.reduceAdd, Nat.reduceSub, Array.replicate_succ, Array.replicate_zero, List.push_toArray, List.append_toArray, List.nil_append, List.cons_append]
  go_upto_region 1 with (fail)
  obtain ⟨gb, hgb⟩ : ∃ gb, w.heap.size = gb := ⟨_, rfl⟩
  have S0 := (Sep.start w).new ((Ext.refl _ w).alloc (.cells #[.int .i64 1, .int .i64 c, .int .i64 b, .int .i64 k] 23)) (Ob.one w.heap.size (.cells #[.int .i64 1, .int .i64 c, .int .i64 b, .int .i64 k] 23 (0, 0))) (heap_alloc_at _) (fun q hq => by rw [List.mem_singleton.1 hq]; exact Nat.le_refl _)
  have S1 := S0.new ((Ext.refl _ _).alloc (.cells #[.string ⟨#[]⟩] 9)) (Ob.one (w.heap.size + 1) (.cells #[.string ⟨#[]⟩] 9 (0, 0))) (alloc2 _ _ _) (fun q hq => by rw [List.mem_singleton.1 hq]; simp)
  have S2 := S1.new ((Ext.refl _ _).alloc (.cells #[.int .i64 0] 26)) (Ob.one (w.heap.size + 1 + 1) (.cells #[.int .i64 0] 26 (0, 0))) (by
    have h := heap_alloc_at (w := (w.alloc (.cells #[.int .i64 1, .int .i64 c, .int .i64 b, .int .i64 k] 23)).alloc (.cells #[.string ⟨#[]⟩] 9)) (.cells #[.int .i64 0] 26)
    rw [show ((w.alloc (.cells #[.int .i64 1, .int .i64 c, .int .i64 b, .int .i64 k] 23)).alloc (.cells #[.string ⟨#[]⟩] 9)).heap.size = w.heap.size + 1 + 1 from by simp] at h
    exact h) (fun q hq => by rw [List.mem_singleton.1 hq]; simp)
  obtain ⟨W0, hW0⟩ : ∃ W0, ((w.alloc (.cells #[.int .i64 1, .int .i64 c, .int .i64 b, .int .i64 k] 23)).alloc (.cells #[.string ⟨#[]⟩] 9)).alloc (.cells #[.int .i64 0] 26) = W0 := ⟨_, rfl⟩
  rw [hW0] at S2
  rw [hW0]
  rw [hgb] at S2 ⊢
  have hg := S2.get 2 rfl
  have d0 : W0.cell? ⟨gb, 0, none⟩ = some (.int .i64 1) := cellOf hg 0
  have d1 : W0.cell? ⟨gb, 1, none⟩ = some (.int .i64 c) := cellOf hg 1
  have d2 : W0.cell? ⟨gb, 2, none⟩ = some (.int .i64 b) := cellOf hg 2
  have d3 : W0.cell? ⟨gb, 3, none⟩ = some (.int .i64 k) := cellOf hg 3
  have HSp := Lib.hid S2
  clear S0 S1 S2 hW0 hgb hg
  go_wp2_with fail
  refine (HCW.out _).mono ?_
  clear d0 d1 d2 d3
  rintro e w1 ⟨rfl, hx1⟩
  have Sp := HSp.out.quiet hx1
  have HSp := Lib.hid Sp
  have hg := Sp.get 2 rfl
  have d0 : w1.cell? ⟨gb, 0, none⟩ = some (.int .i64 1) := cellOf hg 0
  have d1 : w1.cell? ⟨gb, 1, none⟩ = some (.int .i64 c) := cellOf hg 1
  have d2 : w1.cell? ⟨gb, 2, none⟩ = some (.int .i64 b) := cellOf hg 2
  have d3 : w1.cell? ⟨gb, 3, none⟩ = some (.int .i64 k) := cellOf hg 3
  clear Sp hx1 hg
  go_wp2_with fail
  refine (HRW.out _).mono ?_
  clear d0 d1 d2 d3
  rintro e w2 ⟨rfl, hx1⟩
  have Sp := HSp.out.quiet hx1
  have HSp := Lib.hid Sp
  have hg := Sp.get 2 rfl
  have d0 : w2.cell? ⟨gb, 0, none⟩ = some (.int .i64 1) := cellOf hg 0
  have d1 : w2.cell? ⟨gb, 1, none⟩ = some (.int .i64 c) := cellOf hg 1
  have d2 : w2.cell? ⟨gb, 2, none⟩ = some (.int .i64 b) := cellOf hg 2
  have d3 : w2.cell? ⟨gb, 3, none⟩ = some (.int .i64 k) := cellOf hg 3
  clear Sp hx1 hg
  have hr1 := HSp.out.get 1 rfl
  have hr2 := HSp.out.get 0 rfl
  have c1 : w2.cell? ⟨gb + 1, 0, none⟩ = _ := cellOf hr1 0
  have c2 : w2.cell? ⟨gb + 1 + 1, 0, none⟩ = _ := cellOf hr2 0
  have f1 : w2.frozen? ⟨gb + 1, 0, none⟩ = false := freeOf hr1 0
  have f2 : w2.frozen? ⟨gb + 1 + 1, 0, none⟩ = false := freeOf hr2 0
  have Sp2 := HSp.out.upd 1 (Ob.one (gb + 1) (.cells #[.string s] 9 (0, 0))) rfl ((Ext.refl [gb + 1] w2).setCell ⟨gb + 1, 0, none⟩ (.string s) (.inl (by simp))) (Fr.refl _ _) (heap_setCell_same hr1 _)
  have Sp3 := Sp2.upd 0 (Ob.one (gb + 1 + 1) (.cells #[.int .i64 0] 26 (0, 0))) rfl ((Ext.refl [gb + 1 + 1] _).setCell ⟨gb + 1 + 1, 0, none⟩ (.int .i64 0) (.inl (by simp))) (Fr.refl _ _) (heap_setCell_same (Sp2.get 0 rfl) _)
  have HS := Lib.hid Sp3
  clear Sp2 Sp3 hr1 hr2
  go_wp2_with fail
  refine ⟨_, results_cells rfl _ _ (gb + 1) (gb + 1 + 1) (.string s) (.int .i64 0) rfl rfl (cellOf (HS.out.get 1 rfl) 0) (cellOf (HS.out.get 0 rfl) 0), rfl, ?_⟩
  exact HS.out.ext
end Go.Proofs.Ytoiegmdlbcbgoaa.Pr
