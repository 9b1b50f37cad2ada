/-
  The document's nodes: plain, more kinds.
-/
import Derived.Test.YtgpgamohcafklaaGreatDoorTtU
namespace Go.Proofs.YtgpgamohcafklaaGreatDoor.Tr
open Go.RowKit

set_option maxRecDepth 100000 in
set_option maxHeartbeats 8000000 in
theorem plain_2 (n gen : Int) (s : ByteArray) (L : List Int) (base : Option Addr) (cap : Nat) (w : World) :
    Calls Tryz.prog 38 #[.agg #[.int .i64 2, .int .i64 n, .int .i64 gen, .string s, .slice base L.length cap]] w fun e w' => e = .returned (.bool (bareN ⟨2, n, gen, s, L⟩)) ∧ Ext [] w w' := by
  by_cases c1 : 0 < L.length
  · have c1z : (0 : Int) < (L.length : Int) := by omega
    have hR : bareN ⟨2, n, gen, s, L⟩ = false := by simp [bareN, c1]
    rw [hR]
    clear hR
    go_enter Tryz.func38, Tryz.ntmps38
    go_upto_region 1 with (fail)
    go_quiet (fail)
    go_wp2_with fail
    all_goals first | (exfalso; omega) | (go_ret; exact ⟨rfl, ((Ext.refl [] w).alloc _).drewN _⟩)
  have c1z : ¬ (0 : Int) < (L.length : Int) := by omega
  by_cases c2 : s = ⟨#[]⟩
  case neg =>
    have c2b : s.toList.isEmpty = false := some_bytes c2
    have hR : bareN ⟨2, n, gen, s, L⟩ = false := by simp [bareN, c1, c2]
    rw [hR]
    clear hR
    go_enter Tryz.func38, Tryz.ntmps38
    go_upto_region 1 with (fail)
    go_quiet (fail)
    go_wp2_with fail
    all_goals first | (exfalso; omega) | (go_ret; exact ⟨rfl, ((Ext.refl [] w).alloc _).drewN _⟩)
  subst c2
  by_cases c4 : gen = 0
  case neg =>
    have c4b : (gen != 0) = true := bne_iff_ne.2 c4
    have hR : bareN ⟨2, n, gen, ⟨#[]⟩, L⟩ = false := by simp [bareN, c1, c4]
    rw [hR]
    clear hR
    go_enter Tryz.func38, Tryz.ntmps38
    go_upto_region 1 with (fail)
    go_quiet (fail)
    go_wp2_with fail
    all_goals first | (exfalso; omega) | (go_ret; exact ⟨rfl, ((Ext.refl [] w).alloc _).drewN _⟩)
  subst c4
  by_cases d1 : n = 0
  · subst d1
    have hR : bareN ⟨2, 0, 0, ⟨#[]⟩, L⟩ = true := by simp [bareN, c1]
    rw [hR]
    clear hR
    go_enter Tryz.func38, Tryz.ntmps38
    go_upto_region 1 with (fail)
    go_quiet (fail)
    go_wp2_with fail
    all_goals first | (exfalso; omega) | (go_ret; exact ⟨rfl, ((Ext.refl [] w).alloc _).drewN _⟩)
  · have d1b : (n == 0) = false := beq_eq_false_iff_ne.2 d1
    by_cases d2 : n = 1
    · subst d2
      have hR : bareN ⟨2, 1, 0, ⟨#[]⟩, L⟩ = true := by simp [bareN, c1]
      rw [hR]
      clear hR
      go_enter Tryz.func38, Tryz.ntmps38
      go_upto_region 1 with (fail)
      go_quiet (fail)
      go_wp2_with fail
      all_goals first | (exfalso; omega) | (go_ret; exact ⟨rfl, ((Ext.refl [] w).alloc _).drewN _⟩)
    · have d2b : (n == 1) = false := beq_eq_false_iff_ne.2 d2
      have hR : bareN ⟨2, n, 0, ⟨#[]⟩, L⟩ = false := by simp [bareN, c1, d1, d2]
      rw [hR]
      clear hR
      go_enter Tryz.func38, Tryz.ntmps38
      go_upto_region 1 with (fail)
      go_quiet (fail)
      go_wp2_with fail
      all_goals first | (exfalso; omega) | (go_ret; exact ⟨rfl, ((Ext.refl [] w).alloc _).drewN _⟩)

set_option maxRecDepth 100000 in
set_option maxHeartbeats 8000000 in
theorem plain_3 (n gen : Int) (s : ByteArray) (L : List Int) (base : Option Addr) (cap : Nat) (h0 : -9223372036854775808 ≤ n) (h1 : n ≤ 9223372036854775807) (w : World) :
    Calls Tryz.prog 38 #[.agg #[.int .i64 3, .int .i64 n, .int .i64 gen, .string s, .slice base L.length cap]] w fun e w' => e = .returned (.bool (bareN ⟨3, n, gen, s, L⟩)) ∧ Ext [] w w' := by
  by_cases c1 : 0 < L.length
  · have c1z : (0 : Int) < (L.length : Int) := by omega
    have hR : bareN ⟨3, n, gen, s, L⟩ = false := by simp [bareN, c1]
    rw [hR]
    clear hR
    go_enter Tryz.func38, Tryz.ntmps38
    go_upto_region 1 with (fail)
    go_quiet (fail)
    go_wp2_with fail
    all_goals first | (exfalso; omega) | (go_ret; exact ⟨rfl, ((Ext.refl [] w).alloc _).drewN _⟩)
  have c1z : ¬ (0 : Int) < (L.length : Int) := by omega
  by_cases c2 : s = ⟨#[]⟩
  case neg =>
    have c2b : s.toList.isEmpty = false := some_bytes c2
    have hR : bareN ⟨3, n, gen, s, L⟩ = false := by simp [bareN, c1, c2]
    rw [hR]
    clear hR
    go_enter Tryz.func38, Tryz.ntmps38
    go_upto_region 1 with (fail)
    go_quiet (fail)
    go_wp2_with fail
    all_goals first | (exfalso; omega) | (go_ret; exact ⟨rfl, ((Ext.refl [] w).alloc _).drewN _⟩)
  subst c2
  by_cases c4 : gen = 0
  case neg =>
    have c4b : (gen != 0) = true := bne_iff_ne.2 c4
    have hR : bareN ⟨3, n, gen, ⟨#[]⟩, L⟩ = false := by simp [bareN, c1, c4]
    rw [hR]
    clear hR
    go_enter Tryz.func38, Tryz.ntmps38
    go_upto_region 1 with (fail)
    go_quiet (fail)
    go_wp2_with fail
    all_goals first | (exfalso; omega) | (go_ret; exact ⟨rfl, ((Ext.refl [] w).alloc _).drewN _⟩)
  subst c4
  by_cases d1 : n < -2147483647
  · by_cases d2 : n = -9223372036854775808
    · subst d2
      have hR : bareN ⟨3, (-9223372036854775808), 0, ⟨#[]⟩, L⟩ = false := by simp [bareN, c1]
      rw [hR]
      clear hR
      go_enter Tryz.func38, Tryz.ntmps38
      go_upto_region 1 with (fail)
      go_quiet (fail)
      go_wp2_with fail
      all_goals first | (exfalso; omega) | (go_ret; exact ⟨rfl, ((Ext.refl [] w).alloc _).drewN _⟩)
    · have d3 : -9223372036854775808 < n := by omega
      have d4 : ¬ -2147483647 ≤ n := by omega
      have hR : bareN ⟨3, n, 0, ⟨#[]⟩, L⟩ = false := by simp [bareN, c1, d4]
      rw [hR]
      clear hR
      go_enter Tryz.func38, Tryz.ntmps38
      go_upto_region 1 with (fail)
      go_quiet (fail)
      go_wp2_with fail
      all_goals first | (exfalso; omega) | (go_ret; exact ⟨rfl, ((Ext.refl [] w).alloc _).drewN _⟩)
  · by_cases d2 : 2147483647 < n
    · have d4 : ¬ n ≤ 2147483647 := by omega
      have hR : bareN ⟨3, n, 0, ⟨#[]⟩, L⟩ = false := by simp [bareN, c1, d4]
      rw [hR]
      clear hR
      go_enter Tryz.func38, Tryz.ntmps38
      go_upto_region 1 with (fail)
      go_quiet (fail)
      go_wp2_with fail
      all_goals first | (exfalso; omega) | (go_ret; exact ⟨rfl, ((Ext.refl [] w).alloc _).drewN _⟩)
    · have d3 : -2147483647 ≤ n := by omega
      have d4 : n ≤ 2147483647 := by omega
      have hR : bareN ⟨3, n, 0, ⟨#[]⟩, L⟩ = true := by simp [bareN, c1, d3, d4]
      rw [hR]
      clear hR
      go_enter Tryz.func38, Tryz.ntmps38
      go_upto_region 1 with (fail)
      go_quiet (fail)
      go_wp2_with fail
      all_goals first | (exfalso; omega) | (go_ret; exact ⟨rfl, ((Ext.refl [] w).alloc _).drewN _⟩)

set_option maxRecDepth 100000 in
set_option maxHeartbeats 8000000 in
theorem plain_4 (n gen : Int) (s : ByteArray) (L : List Int) (base : Option Addr) (cap : Nat) (hs : s.size ≤ 1000000) (w : World) :
    Calls Tryz.prog 38 #[.agg #[.int .i64 4, .int .i64 n, .int .i64 gen, .string s, .slice base L.length cap]] w fun e w' => e = .returned (.bool (bareN ⟨4, n, gen, s, L⟩)) ∧ Ext [] w w' := by
  by_cases c1 : 0 < L.length
  · have c1z : (0 : Int) < (L.length : Int) := by omega
    have hR : bareN ⟨4, n, gen, s, L⟩ = false := by simp [bareN, c1]
    rw [hR]
    clear hR
    go_enter Tryz.func38, Tryz.ntmps38
    go_upto_region 1 with (fail)
    go_quiet (fail)
    go_wp2_with fail
    all_goals first | (exfalso; omega) | (go_ret; exact ⟨rfl, ((Ext.refl [] w).alloc _).drewN _⟩)
  have c1z : ¬ (0 : Int) < (L.length : Int) := by omega
  by_cases c3 : n = 0
  case neg =>
    have c3b : (n != 0) = true := bne_iff_ne.2 c3
    have c3e : (n == 0) = false := beq_eq_false_iff_ne.2 c3
    have hR : bareN ⟨4, n, gen, s, L⟩ = false := by simp [bareN, c1, c3]
    rw [hR]
    clear hR
    by_cases c4 : gen = 0
    · subst c4
      have H := Lib.hid (fun w => Nu.real02_walk s w hs)
      go_enter Tryz.func38, Tryz.ntmps38
      go_upto_region 1 with (fail)
      go_quiet (fail)
      go_wp2_with fail
      refine (H.out _).mono ?_
      rintro e w' ⟨rfl, hx⟩
      have b1 : w'.cell? ⟨w.heap.size, 1, none⟩ = some (.int .i64 n) := hx.cell (cellOf (heap_alloc_at _) 1)
      have HX := Lib.hid ((((Ext.refl [] w).alloc _).drewN _).trans hx)
      clear hx
      go_wp2_with fail
      go_ret
      exact ⟨rfl, HX.out⟩
    · have c4b : (gen != 0) = true := bne_iff_ne.2 c4
      go_enter Tryz.func38, Tryz.ntmps38
      go_upto_region 1 with (fail)
      go_quiet (fail)
      go_wp2_with fail
      all_goals first | (exfalso; omega) | (go_ret; exact ⟨rfl, ((Ext.refl [] w).alloc _).drewN _⟩)
  subst c3
  by_cases c4 : gen = 0
  case neg =>
    have c4b : (gen != 0) = true := bne_iff_ne.2 c4
    have hR : bareN ⟨4, 0, gen, s, L⟩ = false := by simp [bareN, c1, c4]
    rw [hR]
    clear hR
    go_enter Tryz.func38, Tryz.ntmps38
    go_upto_region 1 with (fail)
    go_quiet (fail)
    go_wp2_with fail
    all_goals first | (exfalso; omega) | (go_ret; exact ⟨rfl, ((Ext.refl [] w).alloc _).drewN _⟩)
  subst c4
  have H := Lib.hid (fun w => Nu.real02_walk s w hs)
  obtain ⟨r1, r2, hr⟩ : ∃ r1 r2, Nu.realN (Nu.B s) = (r1, r2) := ⟨_, _, rfl⟩
  rw [hr] at H
  have hR : bareN ⟨4, 0, 0, s, L⟩ = decide (r2 = 0 ∧ Nu.S r1 = s) := by
    have e1 : (Nu.S r1 = s) ↔ r1 = Nu.B s := ⟨fun h => by rw [← h, Nu.B_S], fun h => by rw [h, Nu.S_B]⟩
    simp [bareN, c1, hr, e1, and_comm]
  rw [hR]
  obtain ⟨z, hz⟩ : ∃ z, Nu.S r1 = z := ⟨_, rfl⟩
  simp only [hz] at H ⊢
  clear hR hr hz
  by_cases d1 : r2 = 0
  · subst d1
    by_cases d2 : z = s
    · subst d2
      rw [decide_eq_true (by exact ⟨rfl, rfl⟩)]
      go_enter Tryz.func38, Tryz.ntmps38
      go_upto_region 1 with (fail)
      go_quiet (fail)
      go_wp2_with fail
      refine (H.out _).mono ?_
      rintro e w' ⟨rfl, hx⟩
      have b1 : w'.cell? ⟨w.heap.size, 1, none⟩ = some (.int .i64 0) := hx.cell (cellOf (heap_alloc_at _) 1)
      have b3 : w'.cell? ⟨w.heap.size, 3, none⟩ = some (.string z) := hx.cell (cellOf (heap_alloc_at _) 3)
      have HX := Lib.hid ((((Ext.refl [] w).alloc _).drewN _).trans hx)
      clear hx
      go_wp2_with fail
      go_ret
      exact ⟨rfl, HX.out⟩
    · rw [decide_eq_false (by exact fun h => d2 h.2)]
      have d2b : (z.toList == s.toList) = false := beq_eq_false_iff_ne.2 (fun h => d2 (bytes_eq h))
      go_enter Tryz.func38, Tryz.ntmps38
      go_upto_region 1 with (fail)
      go_quiet (fail)
      go_wp2_with fail
      refine (H.out _).mono ?_
      rintro e w' ⟨rfl, hx⟩
      have b1 : w'.cell? ⟨w.heap.size, 1, none⟩ = some (.int .i64 0) := hx.cell (cellOf (heap_alloc_at _) 1)
      have b3 : w'.cell? ⟨w.heap.size, 3, none⟩ = some (.string s) := hx.cell (cellOf (heap_alloc_at _) 3)
      have HX := Lib.hid ((((Ext.refl [] w).alloc _).drewN _).trans hx)
      clear hx
      go_wp2_with fail
      go_ret
      exact ⟨rfl, HX.out⟩
  · rw [decide_eq_false (by exact fun h => d1 h.1)]
    have d1b : (r2 == 0) = false := beq_eq_false_iff_ne.2 d1
    go_enter Tryz.func38, Tryz.ntmps38
    go_upto_region 1 with (fail)
    go_quiet (fail)
    go_wp2_with fail
    refine (H.out _).mono ?_
    rintro e w' ⟨rfl, hx⟩
    have b1 : w'.cell? ⟨w.heap.size, 1, none⟩ = some (.int .i64 0) := hx.cell (cellOf (heap_alloc_at _) 1)
    have b3 : w'.cell? ⟨w.heap.size, 3, none⟩ = some (.string s) := hx.cell (cellOf (heap_alloc_at _) 3)
    have HX := Lib.hid ((((Ext.refl [] w).alloc _).drewN _).trans hx)
    clear hx
    go_wp2_with fail
    go_ret
    exact ⟨rfl, HX.out⟩
end Go.Proofs.YtgpgamohcafklaaGreatDoor.Tr
