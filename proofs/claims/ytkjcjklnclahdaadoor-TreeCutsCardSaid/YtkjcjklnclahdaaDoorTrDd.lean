/-
  tree: bare walked, other kinds.
-/
import Derived.Test.YtkjcjklnclahdaaDoorTrD
namespace Go.Proofs.YtkjcjklnclahdaaDoor.Tr
open Go.RowKit

set_option maxRecDepth 100000 in
set_option maxHeartbeats 8000000 in
theorem bare_4 (n gen : Int) (s : ByteArray) (L : List Int) (base : Option Addr) (cap : Nat) (hs : s.size ≤ 1000000) (w : World) :
    Calls Tryd.prog 48 #[.agg #[.int .i64 4, .int .i64 n, .int .i64 gen, .string s, .slice base L.length cap]] w fun e w' => e = .returned (.bool (bareN ⟨4, n, gen, s, L⟩)) ∧ Ext [] w w' := by
  by_cases c1 : 0 < L.length
  · have c1z : (0 : Int) < (L.length : Int) := by omega
    have hR : bareN ⟨4, n, gen, s, L⟩ = false := by simp [bareN, c1]
    rw [hR]
    clear hR
    go_enter Tryd.func48, Tryd.ntmps48
    go_wp2_with fail
    go_ret
    exact ⟨rfl, (Ext.refl [] w).alloc _⟩
  have c1z : ¬ (0 : Int) < (L.length : Int) := by omega
  by_cases c3 : n = 0
  case neg =>
    have c3b : (n != 0) = true := bne_iff_ne.2 c3
    have hR : bareN ⟨4, n, gen, s, L⟩ = false := by simp [bareN, c1, c3]
    rw [hR]
    clear hR
    go_enter Tryd.func48, Tryd.ntmps48
    go_wp2_with fail
    go_ret
    exact ⟨rfl, (Ext.refl [] w).alloc _⟩
  subst c3
  by_cases c4 : gen = 0
  case neg =>
    have c4b : (gen != 0) = true := bne_iff_ne.2 c4
    have hR : bareN ⟨4, 0, gen, s, L⟩ = false := by simp [bareN, c1, c4]
    rw [hR]
    clear hR
    go_enter Tryd.func48, Tryd.ntmps48
    go_wp2_with fail
    go_ret
    exact ⟨rfl, (Ext.refl [] w).alloc _⟩
  subst c4
  have H := Lib.hid (fun w => Nu.real_walk s w hs)
  obtain ⟨r1, r2, hr⟩ : ∃ r1 r2, Nu.realN (Nu.B s) = (r1, r2) := ⟨_, _, rfl⟩
  rw [hr] at H
  have hR : bareN ⟨4, 0, 0, s, L⟩ = decide (r2 = 0 ∧ Nu.S r1 = s) := by
    have e1 : (Nu.S r1 = s) ↔ r1 = Nu.B s := ⟨fun h => by rw [← h, Nu.B_S], fun h => by rw [h, Nu.S_B]⟩
    simp [bareN, c1, hr, e1, and_comm]
  rw [hR]
  obtain ⟨z, hz⟩ : ∃ z, Nu.S r1 = z := ⟨_, rfl⟩
  simp only [hz] at H ⊢
  clear hR hr hz
  by_cases d1 : r2 = 0
  · subst d1
    by_cases d2 : z = s
    · subst d2
      rw [decide_eq_true (by exact ⟨rfl, rfl⟩)]
      go_enter Tryd.func48, Tryd.ntmps48
      go_wp2_with fail
      refine (H.out _).mono ?_
      rintro e w' ⟨rfl, hx⟩
      have b3 : w'.cell? ⟨w.heap.size, 3, none⟩ = some (.string z) := hx.cell (cellOf (heap_alloc_at _) 3)
      have HX := Lib.hid (((Ext.refl [] w).alloc _).trans hx)
      clear hx
      go_wp2_with fail
      go_ret
      exact ⟨rfl, HX.out⟩
    · rw [decide_eq_false (by exact fun h => d2 h.2)]
      have d2b : (z.toList == s.toList) = false := beq_eq_false_iff_ne.2 (fun h => d2 (bytes_eq h))
      go_enter Tryd.func48, Tryd.ntmps48
      go_wp2_with fail
      refine (H.out _).mono ?_
      rintro e w' ⟨rfl, hx⟩
      have b3 : w'.cell? ⟨w.heap.size, 3, none⟩ = some (.string s) := hx.cell (cellOf (heap_alloc_at _) 3)
      have HX := Lib.hid (((Ext.refl [] w).alloc _).trans hx)
      clear hx
      go_wp2_with fail
      go_ret
      exact ⟨rfl, HX.out⟩
  · rw [decide_eq_false (by exact fun h => d1 h.1)]
    have d1b : (r2 == 0) = false := beq_eq_false_iff_ne.2 d1
    go_enter Tryd.func48, Tryd.ntmps48
    go_wp2_with fail
    refine (H.out _).mono ?_
    rintro e w' ⟨rfl, hx⟩
    have b3 : w'.cell? ⟨w.heap.size, 3, none⟩ = some (.string s) := hx.cell (cellOf (heap_alloc_at _) 3)
    have HX := Lib.hid (((Ext.refl [] w).alloc _).trans hx)
    clear hx
    go_wp2_with fail
    go_ret
    exact ⟨rfl, HX.out⟩
set_option maxRecDepth 100000 in
set_option maxHeartbeats 8000000 in
theorem bare_6 (n gen : Int) (s : ByteArray) (L : List Int) (base : Option Addr) (cap : Nat) (w : World) :
    Calls Tryd.prog 48 #[.agg #[.int .i64 6, .int .i64 n, .int .i64 gen, .string s, .slice base L.length cap]] w fun e w' => e = .returned (.bool (bareN ⟨6, n, gen, s, L⟩)) ∧ Ext [] w w' := by
  by_cases c1 : 0 < L.length
  · have c1z : (0 : Int) < (L.length : Int) := by omega
    have hR : bareN ⟨6, n, gen, s, L⟩ = false := by simp [bareN, c1]
    rw [hR]
    clear hR
    go_enter Tryd.func48, Tryd.ntmps48
    go_wp2_with fail
    go_ret
    exact ⟨rfl, (Ext.refl [] w).alloc _⟩
  have c1z : ¬ (0 : Int) < (L.length : Int) := by omega
  by_cases c3 : n = 0
  case neg =>
    have c3b : (n != 0) = true := bne_iff_ne.2 c3
    have hR : bareN ⟨6, n, gen, s, L⟩ = false := by simp [bareN, c1, c3]
    rw [hR]
    clear hR
    go_enter Tryd.func48, Tryd.ntmps48
    go_wp2_with fail
    go_ret
    exact ⟨rfl, (Ext.refl [] w).alloc _⟩
  subst c3
  by_cases c4 : gen = 0
  case neg =>
    have c4b : (gen != 0) = true := bne_iff_ne.2 c4
    have hR : bareN ⟨6, 0, gen, s, L⟩ = false := by simp [bareN, c1, c4]
    rw [hR]
    clear hR
    go_enter Tryd.func48, Tryd.ntmps48
    go_wp2_with fail
    go_ret
    exact ⟨rfl, (Ext.refl [] w).alloc _⟩
  subst c4
  have H := Lib.hid (fun w => name_walk s w)
  have hR : bareN ⟨6, 0, 0, s, L⟩ = decide (nameN s = 0) := by simp [bareN, c1]
  rw [hR]
  generalize nameN s = z at *
  clear hR
  by_cases d1 : z = 0
  · subst d1
    rw [decide_eq_true rfl]
    go_enter Tryd.func48, Tryd.ntmps48
    go_wp2_with fail
    refine (H.out _).mono ?_
    rintro e w' ⟨rfl, hx⟩
    have HX := Lib.hid (((Ext.refl [] w).alloc _).trans hx)
    clear hx
    go_wp2_with fail
    go_ret
    exact ⟨rfl, HX.out⟩
  · rw [decide_eq_false d1]
    have d1b : (z == 0) = false := beq_eq_false_iff_ne.2 d1
    go_enter Tryd.func48, Tryd.ntmps48
    go_wp2_with fail
    refine (H.out _).mono ?_
    rintro e w' ⟨rfl, hx⟩
    have HX := Lib.hid (((Ext.refl [] w).alloc _).trans hx)
    clear hx
    go_wp2_with fail
    go_ret
    exact ⟨rfl, HX.out⟩
end Go.Proofs.YtkjcjklnclahdaaDoor.Tr
