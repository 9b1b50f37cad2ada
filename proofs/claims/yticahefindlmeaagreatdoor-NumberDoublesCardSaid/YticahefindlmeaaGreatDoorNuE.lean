/-
  number: size, Compare walked.
-/
import Derived.Test.YticahefindlmeaaGreatDoorNuD
namespace Go.Proofs.YticahefindlmeaaGreatDoor.Nu
open Go.RowKit

def pnv (k : Nat) (ng : Bool) (a b : List UInt8) : Value := .agg #[.int .i64 (k : Nat), .bool ng, .string (S a), .string (S b)]
/-- two blocks of the call's own, a number in each -/
theorem two_parts (w : World) (x y : Num) : Sep w ((w.alloc (.cells (nvs x) 41)).alloc (.cells (nvs y) 41)) [Ob.one (w.heap.size + 1) (.cells (nvs y) 41 (0, 0)), Ob.one w.heap.size (.cells (nvs x) 41 (0, 0))] :=
  ((Sep.start w).new ((Ext.refl _ w).alloc (.cells (nvs x) 41)) (Ob.one w.heap.size (.cells (nvs x) 41 (0, 0))) (heap_alloc_at _) (fun q hq => by rw [List.mem_singleton.1 hq]; exact Nat.le_refl _)).new ((Ext.refl _ _).alloc (.cells (nvs y) 41)) (Ob.one (w.heap.size + 1) (.cells (nvs y) 41 (0, 0))) (alloc2 _ _ _) (fun q hq => by rw [List.mem_singleton.1 hq]; simp)
set_option maxRecDepth 100000 in
set_option maxHeartbeats 4000000 in
theorem size_walk (x y : Num) (w : World) (hxa : x.a.length ≤ 1048576) (hya : y.a.length ≤ 1048576) :
    Calls Tryz.prog 20 #[nv x, nv y] w fun e w' => e = .returned (.int .i64 (sizeN x y)) ∧ Ext [] w w' := by
  obtain ⟨kx, nx, ax, bx⟩ := x
  obtain ⟨ky, ny, ay, by_⟩ := y
  have H1 := Lib.hid (fun w => Tryz.cmp_Compare_int (ax.length : Int) (ay.length : Int) w)
  have H2 := Lib.hid (fun w => Tryz.strings_Compare (S ax) (S ay) w)
  have H3 := Lib.hid (fun w => Tryz.strings_Compare (S bx) (S by_) w)
  have hR : sizeN ⟨kx, nx, ax, bx⟩ ⟨ky, ny, ay, by_⟩ = orL [Lib.compareInt ax.length ay.length, Lib.compareBytes ax ay, Lib.compareBytes bx by_] := by
    unfold sizeN orL orL orL orL orI
    split
    · split
      · by_cases h : Lib.compareBytes bx by_ = 0
        · rw [if_pos h]; exact h
        · rw [if_neg h]
      · rfl
    · rfl
  rw [hR]
  replace H2 := Lib.hid (show ∀ w, Calls Tryz.prog 35 #[.string (S ax), .string (S ay)] w fun e w' => e = .returned (.int .i64 (Lib.compareBytes ax ay)) ∧ w' = w from H2.out)
  replace H3 := Lib.hid (show ∀ w, Calls Tryz.prog 35 #[.string (S bx), .string (S by_)] w fun e w' => e = .returned (.int .i64 (Lib.compareBytes bx by_)) ∧ w' = w from H3.out)
  generalize Lib.compareInt ax.length ay.length = r1 at *
  generalize Lib.compareBytes ax ay = r2 at *
  generalize Lib.compareBytes bx by_ = r3 at *
  obtain ⟨R, hRR⟩ : ∃ R, orL [r1, r2, r3] = R := ⟨_, rfl⟩
  have HO := Lib.hid (fun g w h => orInt_walk [r1, r2, r3] g 3 w (by simp) h)
  rw [hRR] at HO ⊢
  have HS := Lib.hid (two_parts w ⟨kx, nx, ax, bx⟩ ⟨ky, ny, ay, by_⟩)
  clear hR hRR
  show Calls Tryz.prog 20 #[.agg #[.int .i64 (kx : Nat), .bool nx, .string (S ax), .string (S bx)], .agg #[.int .i64 (ky : Nat), .bool ny, .string (S ay), .string (S by_)]] w _
  go_enter Tryz.func20, Tryz.ntmps20
  go_wp2_with fail
  obtain ⟨g, hg⟩ : ∃ g, w.heap.size = g := ⟨_, rfl⟩
  obtain ⟨W, hW⟩ : ∃ W, (w.alloc (.cells #[.int .i64 (kx : Nat), .bool nx, .string (S ax), .string (S bx)] 41)).alloc (.cells #[.int .i64 (ky : Nat), .bool ny, .string (S ay), .string (S by_)] 41) = W := ⟨_, rfl⟩
  have S0 : Sep w W [Ob.one (w.heap.size + 1) (.cells (nvs ⟨ky, ny, ay, by_⟩) 41 (0, 0)), Ob.one w.heap.size (.cells (nvs ⟨kx, nx, ax, bx⟩) 41 (0, 0))] := by rw [← hW]; exact HS.out
  rw [hW]
  rw [hg] at S0 ⊢
  have HS := Lib.hid S0
  clear S0 hW hg
  have h0 := HS.out.get 1 rfl
  have h1 := HS.out.get 0 rfl
  have c2 : ∀ y : Ex W, y.w.cell? ⟨g, 2, none⟩ = some (.string (S ax)) := fun y => cellOf (load_parts_ex h0 y) 2
  have c3 : ∀ y : Ex W, y.w.cell? ⟨g, 3, none⟩ = some (.string (S bx)) := fun y => cellOf (load_parts_ex h0 y) 3
  have d2 : ∀ y : Ex W, y.w.cell? ⟨g + 1, 2, none⟩ = some (.string (S ay)) := fun y => cellOf (load_parts_ex h1 y) 2
  have d3 : ∀ y : Ex W, y.w.cell? ⟨g + 1, 3, none⟩ = some (.string (S by_)) := fun y => cellOf (load_parts_ex h1 y) 3
  refine wp_region_quiet_tail (C := fun w' => ∃ x : Ex W, w' = x.w) 17 (by kernel_rfl) (by kernel_rfl) ⟨Ex.mk _ ((Ext.refl [] W).drew), rfl⟩ ?_
  simp only [List.take_succ_cons, List.take_zero, List.drop_succ_cons, List.drop_zero]
  repeat (go_big_quiet_step (first | (go_at_call 34; refine Calls.ext_of ((H1.out _).mono (fun e w' h => ⟨h.1, h.2 ▸ Ext.refl _ _⟩))) | (go_at_call 35; first | (refine Calls.ext_of ((H2.out _).mono (fun e w' h => ⟨h.1, h.2 ▸ Ext.refl _ _⟩))) | (refine Calls.ext_of ((H3.out _).mono (fun e w' h => ⟨h.1, h.2 ▸ Ext.refl _ _⟩))))))
  refine wpQuiet_nil ?_
  rintro _ ⟨y, rfl⟩
  clear c2 c3 d2 d3 h0 h1 H1 H2 H3
  obtain ⟨W1, hW1⟩ : ∃ W1, y.w = W1 := ⟨_, rfl⟩
  have hx1 := y.ext
  rw [hW1] at hx1
  rw [hW1]
  have HX := Lib.hid (HS.out.ext.trans hx1)
  clear hx1 hW1 y HS
  go_wp2_with fail
  refine (HO.out _ _ ?_).mono ?_
  · intro k hk
    have hb := heap_alloc_at (w := W1) (.cells #[.int .i64 r1, .int .i64 r2, .int .i64 r3] 3)
    match k, hk with
    | 0, _ => exact cellOf hb 0
    | 1, _ => exact cellOf hb 1
    | 2, _ => exact cellOf hb 2
  rintro e w2 ⟨rfl, rfl⟩
  have HX := Lib.hid (HX.out.alloc (.cells #[.int .i64 r1, .int .i64 r2, .int .i64 r3] 3))
  go_wp2_with fail
  go_ret
  exact ⟨rfl, HX.out⟩
end Go.Proofs.YticahefindlmeaaGreatDoor.Nu
