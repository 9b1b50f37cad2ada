/-
  The document's nodes: plain, more kinds.
-/
import Derived.Test.YtgpgamohcafklaaGreatDoorTtU
namespace Go.Proofs.YtgpgamohcafklaaGreatDoor.Tr
open Go.RowKit

set_option maxRecDepth 100000 in
set_option maxHeartbeats 8000000 in
theorem plain_5 (n gen : Int) (s : ByteArray) (L : List Int) (base : Option Addr) (cap : Nat) (w : World) :
    Calls Tryz.prog 38 #[.agg #[.int .i64 5, .int .i64 n, .int .i64 gen, .string s, .slice base L.length cap]] w fun e w' => e = .returned (.bool (bareN ⟨5, n, gen, s, L⟩)) ∧ Ext [] w w' := by
  by_cases c1 : 0 < L.length
  · have c1z : (0 : Int) < (L.length : Int) := by omega
    have hR : bareN ⟨5, n, gen, s, L⟩ = false := by simp [bareN, c1]
    rw [hR]
    clear hR
    go_enter Tryz.func38, Tryz.ntmps38
    go_upto_region 1 with (fail)
    go_quiet (fail)
    go_wp2_with fail
    all_goals first | (exfalso; omega) | (go_ret; exact ⟨rfl, ((Ext.refl [] w).alloc _).drewN _⟩)
  have c1z : ¬ (0 : Int) < (L.length : Int) := by omega
  by_cases c3 : n = 0
  case neg =>
    have c3b : (n != 0) = true := bne_iff_ne.2 c3
    have c3e : (n == 0) = false := beq_eq_false_iff_ne.2 c3
    have hR : bareN ⟨5, n, gen, s, L⟩ = false := by simp [bareN, c1, c3]
    rw [hR]
    clear hR
    by_cases c4 : gen = 0
    · subst c4
      go_enter Tryz.func38, Tryz.ntmps38
      go_upto_region 1 with (fail)
      go_quiet (fail)
      go_wp2_with fail
      all_goals first | (exfalso; omega) | (go_ret; exact ⟨rfl, ((Ext.refl [] w).alloc _).drewN _⟩)
    · have c4b : (gen != 0) = true := bne_iff_ne.2 c4
      go_enter Tryz.func38, Tryz.ntmps38
      go_upto_region 1 with (fail)
      go_quiet (fail)
      go_wp2_with fail
      all_goals first | (exfalso; omega) | (go_ret; exact ⟨rfl, ((Ext.refl [] w).alloc _).drewN _⟩)
  subst c3
  by_cases c4 : gen = 0
  case neg =>
    have c4b : (gen != 0) = true := bne_iff_ne.2 c4
    have hR : bareN ⟨5, 0, gen, s, L⟩ = false := by simp [bareN, c1, c4]
    rw [hR]
    clear hR
    go_enter Tryz.func38, Tryz.ntmps38
    go_upto_region 1 with (fail)
    go_quiet (fail)
    go_wp2_with fail
    all_goals first | (exfalso; omega) | (go_ret; exact ⟨rfl, ((Ext.refl [] w).alloc _).drewN _⟩)
  subst c4
  by_cases d1 : s.size ≤ 65536
  · have d1z : (s.size : Int) ≤ 65536 := by omega
    have hR : bareN ⟨5, 0, 0, s, L⟩ = true := by simp [bareN, c1, d1]
    rw [hR]
    clear hR
    go_enter Tryz.func38, Tryz.ntmps38
    go_upto_region 1 with (fail)
    go_quiet (fail)
    go_wp2_with fail
    all_goals first | (exfalso; omega) | (go_ret; exact ⟨rfl, ((Ext.refl [] w).alloc _).drewN _⟩)
  · have d1z : ¬ (s.size : Int) ≤ 65536 := by omega
    have hR : bareN ⟨5, 0, 0, s, L⟩ = false := by simp [bareN, c1, d1]
    rw [hR]
    clear hR
    go_enter Tryz.func38, Tryz.ntmps38
    go_upto_region 1 with (fail)
    go_quiet (fail)
    go_wp2_with fail
    all_goals first | (exfalso; omega) | (go_ret; exact ⟨rfl, ((Ext.refl [] w).alloc _).drewN _⟩)

set_option maxRecDepth 100000 in
set_option maxHeartbeats 8000000 in
theorem plain_7 (n gen : Int) (s : ByteArray) (L : List Int) (base : Option Addr) (cap : Nat) (w : World) :
    Calls Tryz.prog 38 #[.agg #[.int .i64 7, .int .i64 n, .int .i64 gen, .string s, .slice base L.length cap]] w fun e w' => e = .returned (.bool (bareN ⟨7, n, gen, s, L⟩)) ∧ Ext [] w w' := by
  by_cases c2 : s = ⟨#[]⟩
  case neg =>
    have c2b : s.toList.isEmpty = false := some_bytes c2
    have hR : bareN ⟨7, n, gen, s, L⟩ = false := by simp [bareN, c2]
    rw [hR]
    clear hR
    go_enter Tryz.func38, Tryz.ntmps38
    go_upto_region 1 with (fail)
    go_quiet (fail)
    go_wp2_with fail
    all_goals first | (exfalso; omega) | (go_ret; exact ⟨rfl, ((Ext.refl [] w).alloc _).drewN _⟩)
  subst c2
  by_cases c3 : n = 0
  case neg =>
    have c3b : (n != 0) = true := bne_iff_ne.2 c3
    have c3e : (n == 0) = false := beq_eq_false_iff_ne.2 c3
    have hR : bareN ⟨7, n, gen, ⟨#[]⟩, L⟩ = false := by simp [bareN, c3]
    rw [hR]
    clear hR
    by_cases c4 : gen = 0
    · subst c4
      go_enter Tryz.func38, Tryz.ntmps38
      go_upto_region 1 with (fail)
      go_quiet (fail)
      go_wp2_with fail
      all_goals first | (exfalso; omega) | (go_ret; exact ⟨rfl, ((Ext.refl [] w).alloc _).drewN _⟩)
    · have c4b : (gen != 0) = true := bne_iff_ne.2 c4
      go_enter Tryz.func38, Tryz.ntmps38
      go_upto_region 1 with (fail)
      go_quiet (fail)
      go_wp2_with fail
      all_goals first | (exfalso; omega) | (go_ret; exact ⟨rfl, ((Ext.refl [] w).alloc _).drewN _⟩)
  subst c3
  by_cases c4 : gen = 0
  case neg =>
    have c4b : (gen != 0) = true := bne_iff_ne.2 c4
    have hR : bareN ⟨7, 0, gen, ⟨#[]⟩, L⟩ = false := by simp [bareN, c4]
    rw [hR]
    clear hR
    go_enter Tryz.func38, Tryz.ntmps38
    go_upto_region 1 with (fail)
    go_quiet (fail)
    go_wp2_with fail
    all_goals first | (exfalso; omega) | (go_ret; exact ⟨rfl, ((Ext.refl [] w).alloc _).drewN _⟩)
  subst c4
  have hR : bareN ⟨7, 0, 0, ⟨#[]⟩, L⟩ = true := by simp [bareN]
  rw [hR]
  clear hR
  go_enter Tryz.func38, Tryz.ntmps38
  go_upto_region 1 with (fail)
  go_quiet (fail)
  go_wp2_with fail
  all_goals first | (exfalso; omega) | (go_ret; exact ⟨rfl, ((Ext.refl [] w).alloc _).drewN _⟩)

set_option maxRecDepth 100000 in
set_option maxHeartbeats 8000000 in
theorem plain_9 (n gen : Int) (s : ByteArray) (L : List Int) (base : Option Addr) (cap : Nat) (w : World) :
    Calls Tryz.prog 38 #[.agg #[.int .i64 9, .int .i64 n, .int .i64 gen, .string s, .slice base L.length cap]] w fun e w' => e = .returned (.bool (bareN ⟨9, n, gen, s, L⟩)) ∧ Ext [] w w' := by
  by_cases c1 : 0 < L.length
  · have c1z : (0 : Int) < (L.length : Int) := by omega
    have hR : bareN ⟨9, n, gen, s, L⟩ = false := by simp [bareN, c1]
    rw [hR]
    clear hR
    go_enter Tryz.func38, Tryz.ntmps38
    go_upto_region 1 with (fail)
    go_quiet (fail)
    go_wp2_with fail
    all_goals first | (exfalso; omega) | (go_ret; exact ⟨rfl, ((Ext.refl [] w).alloc _).drewN _⟩)
  have c1z : ¬ (0 : Int) < (L.length : Int) := by omega
  by_cases c2 : s = ⟨#[]⟩
  case neg =>
    have c2b : s.toList.isEmpty = false := some_bytes c2
    have hR : bareN ⟨9, n, gen, s, L⟩ = false := by simp [bareN, c1, c2]
    rw [hR]
    clear hR
    go_enter Tryz.func38, Tryz.ntmps38
    go_upto_region 1 with (fail)
    go_quiet (fail)
    go_wp2_with fail
    all_goals first | (exfalso; omega) | (go_ret; exact ⟨rfl, ((Ext.refl [] w).alloc _).drewN _⟩)
  subst c2
  by_cases d1 : 1 ≤ n
  case neg =>
    have hR : bareN ⟨9, n, gen, ⟨#[]⟩, L⟩ = false := by simp [bareN, c1, d1]
    rw [hR]
    clear hR
    go_enter Tryz.func38, Tryz.ntmps38
    go_upto_region 1 with (fail)
    go_quiet (fail)
    go_wp2_with fail
    all_goals first | (exfalso; omega) | (go_ret; exact ⟨rfl, ((Ext.refl [] w).alloc _).drewN _⟩)
  by_cases d2 : n ≤ 8388607
  case neg =>
    have hR : bareN ⟨9, n, gen, ⟨#[]⟩, L⟩ = false := by simp [bareN, c1, d1, d2]
    rw [hR]
    clear hR
    go_enter Tryz.func38, Tryz.ntmps38
    go_upto_region 1 with (fail)
    go_quiet (fail)
    go_wp2_with fail
    all_goals first | (exfalso; omega) | (go_ret; exact ⟨rfl, ((Ext.refl [] w).alloc _).drewN _⟩)
  by_cases d3 : 0 ≤ gen
  case neg =>
    have hR : bareN ⟨9, n, gen, ⟨#[]⟩, L⟩ = false := by simp [bareN, c1, d1, d2, d3]
    rw [hR]
    clear hR
    go_enter Tryz.func38, Tryz.ntmps38
    go_upto_region 1 with (fail)
    go_quiet (fail)
    go_wp2_with fail
    all_goals first | (exfalso; omega) | (go_ret; exact ⟨rfl, ((Ext.refl [] w).alloc _).drewN _⟩)
  by_cases d4 : gen ≤ 65535
  case neg =>
    have hR : bareN ⟨9, n, gen, ⟨#[]⟩, L⟩ = false := by simp [bareN, c1, d1, d2, d3, d4]
    rw [hR]
    clear hR
    go_enter Tryz.func38, Tryz.ntmps38
    go_upto_region 1 with (fail)
    go_quiet (fail)
    go_wp2_with fail
    all_goals first | (exfalso; omega) | (go_ret; exact ⟨rfl, ((Ext.refl [] w).alloc _).drewN _⟩)
  have hR : bareN ⟨9, n, gen, ⟨#[]⟩, L⟩ = true := by simp [bareN, c1, d1, d2, d3, d4]
  rw [hR]
  clear hR
  go_enter Tryz.func38, Tryz.ntmps38
  go_upto_region 1 with (fail)
  go_quiet (fail)
  go_wp2_with fail
  all_goals first | (exfalso; omega) | (go_ret; exact ⟨rfl, ((Ext.refl [] w).alloc _).drewN _⟩)
end Go.Proofs.YtgpgamohcafklaaGreatDoor.Tr
