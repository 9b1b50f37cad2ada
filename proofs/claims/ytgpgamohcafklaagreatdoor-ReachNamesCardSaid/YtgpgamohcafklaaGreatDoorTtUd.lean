/-
  The document's nodes: plain, more kinds.
-/
import Derived.Test.YtgpgamohcafklaaGreatDoorTtU
namespace Go.Proofs.YtgpgamohcafklaaGreatDoor.Tr
open Go.RowKit

set_option maxRecDepth 100000 in
set_option maxHeartbeats 8000000 in
theorem plain_8 (n gen : Int) (s : ByteArray) (L : List Int) (base : Option Addr) (cap : Nat) (w : World) :
    Calls Tryz.prog 38 #[.agg #[.int .i64 8, .int .i64 n, .int .i64 gen, .string s, .slice base L.length cap]] w fun e w' => e = .returned (.bool (bareN ⟨8, n, gen, s, L⟩)) ∧ Ext [] w w' := by
  by_cases c2 : s = ⟨#[]⟩
  case neg =>
    have c2b : s.toList.isEmpty = false := some_bytes c2
    have hR : bareN ⟨8, n, gen, s, L⟩ = false := by simp [bareN, c2]
    rw [hR]
    clear hR
    go_enter Tryz.func38, Tryz.ntmps38
    go_upto_region 1 with (fail)
    go_quiet (fail)
    go_wp2_with fail
    all_goals first | (exfalso; omega) | (go_ret; exact ⟨rfl, ((Ext.refl [] w).alloc _).drewN _⟩)
  subst c2
  by_cases c3 : n = 0
  case neg =>
    have c3b : (n != 0) = true := bne_iff_ne.2 c3
    have c3e : (n == 0) = false := beq_eq_false_iff_ne.2 c3
    have hR : bareN ⟨8, n, gen, ⟨#[]⟩, L⟩ = false := by simp [bareN, c3]
    rw [hR]
    clear hR
    by_cases c4 : gen = 0
    · subst c4
      go_enter Tryz.func38, Tryz.ntmps38
      go_upto_region 1 with (fail)
      go_quiet (fail)
      go_wp2_with fail
      all_goals first | (exfalso; omega) | (go_ret; exact ⟨rfl, ((Ext.refl [] w).alloc _).drewN _⟩)
    · have c4b : (gen != 0) = true := bne_iff_ne.2 c4
      go_enter Tryz.func38, Tryz.ntmps38
      go_upto_region 1 with (fail)
      go_quiet (fail)
      go_wp2_with fail
      all_goals first | (exfalso; omega) | (go_ret; exact ⟨rfl, ((Ext.refl [] w).alloc _).drewN _⟩)
  subst c3
  by_cases c4 : gen = 0
  case neg =>
    have c4b : (gen != 0) = true := bne_iff_ne.2 c4
    have hR : bareN ⟨8, 0, gen, ⟨#[]⟩, L⟩ = false := by simp [bareN, c4]
    rw [hR]
    clear hR
    go_enter Tryz.func38, Tryz.ntmps38
    go_upto_region 1 with (fail)
    go_quiet (fail)
    go_wp2_with fail
    all_goals first | (exfalso; omega) | (go_ret; exact ⟨rfl, ((Ext.refl [] w).alloc _).drewN _⟩)
  subst c4
  have hR : bareN ⟨8, 0, 0, ⟨#[]⟩, L⟩ = true := by simp [bareN]
  rw [hR]
  clear hR
  go_enter Tryz.func38, Tryz.ntmps38
  go_upto_region 1 with (fail)
  go_quiet (fail)
  go_wp2_with fail
  all_goals first | (exfalso; omega) | (go_ret; exact ⟨rfl, ((Ext.refl [] w).alloc _).drewN _⟩)

set_option maxRecDepth 100000 in
set_option maxHeartbeats 8000000 in
theorem plain_x (k : Int) (hk : k < 1 ∨ 9 < k) (n gen : Int) (s : ByteArray) (L : List Int) (base : Option Addr) (cap : Nat) (w : World) :
    Calls Tryz.prog 38 #[.agg #[.int .i64 k, .int .i64 n, .int .i64 gen, .string s, .slice base L.length cap]] w fun e w' => e = .returned (.bool (bareN ⟨k, n, gen, s, L⟩)) ∧ Ext [] w w' := by
  have k1 : k ≠ 1 := by omega
  have k2 : k ≠ 2 := by omega
  have k3 : k ≠ 3 := by omega
  have k4 : k ≠ 4 := by omega
  have k5 : k ≠ 5 := by omega
  have k6 : k ≠ 6 := by omega
  have k7 : k ≠ 7 := by omega
  have k8 : k ≠ 8 := by omega
  have k9 : k ≠ 9 := by omega
  have b1 : (k == 1) = false := beq_eq_false_iff_ne.2 k1
  have b2 : (k == 2) = false := beq_eq_false_iff_ne.2 k2
  have b3 : (k == 3) = false := beq_eq_false_iff_ne.2 k3
  have b4 : (k == 4) = false := beq_eq_false_iff_ne.2 k4
  have b5 : (k == 5) = false := beq_eq_false_iff_ne.2 k5
  have b6 : (k == 6) = false := beq_eq_false_iff_ne.2 k6
  have b7 : (k == 7) = false := beq_eq_false_iff_ne.2 k7
  have b8 : (k == 8) = false := beq_eq_false_iff_ne.2 k8
  have b9 : (k == 9) = false := beq_eq_false_iff_ne.2 k9
  have hk46 : (¬ 4 ≤ k) ∨ (4 ≤ k ∧ ¬ k ≤ 6) := by omega
  have b9n : (k != 9) = true := bne_iff_ne.2 k9
  have hR : bareN ⟨k, n, gen, s, L⟩ = false := by simp [bareN, k1, k2, k3, k4, k5, k6, k7, k8, k9]
  rw [hR]
  clear hR k1 k2 k3 k4 k5 k6 k7 k8 k9 hk
  rcases hk46 with hk4 | ⟨hk4, hk6⟩
  · by_cases c1 : 0 < L.length
    · have c1z : (0 : Int) < (L.length : Int) := by omega
      go_enter Tryz.func38, Tryz.ntmps38
      go_upto_region 1 with (fail)
      go_quiet (fail)
      go_wp2_with fail
      all_goals first | (exfalso; omega) | (go_ret; exact ⟨rfl, ((Ext.refl [] w).alloc _).drewN _⟩)
    have c1z : ¬ (0 : Int) < (L.length : Int) := by omega
    by_cases c2 : s = ⟨#[]⟩
    case neg =>
      have c2b : s.toList.isEmpty = false := some_bytes c2
      go_enter Tryz.func38, Tryz.ntmps38
      go_upto_region 1 with (fail)
      go_quiet (fail)
      go_wp2_with fail
      all_goals first | (exfalso; omega) | (go_ret; exact ⟨rfl, ((Ext.refl [] w).alloc _).drewN _⟩)
    subst c2
    by_cases c3 : n = 0
    case neg =>
      have c3b : (n != 0) = true := bne_iff_ne.2 c3
      have c3e : (n == 0) = false := beq_eq_false_iff_ne.2 c3
      by_cases c4 : gen = 0
      · subst c4
        go_enter Tryz.func38, Tryz.ntmps38
        go_upto_region 1 with (fail)
        go_quiet (fail)
        go_wp2_with fail
        all_goals first | (exfalso; omega) | (go_ret; exact ⟨rfl, ((Ext.refl [] w).alloc _).drewN _⟩)
      · have c4b : (gen != 0) = true := bne_iff_ne.2 c4
        go_enter Tryz.func38, Tryz.ntmps38
        go_upto_region 1 with (fail)
        go_quiet (fail)
        go_wp2_with fail
        all_goals first | (exfalso; omega) | (go_ret; exact ⟨rfl, ((Ext.refl [] w).alloc _).drewN _⟩)
    subst c3
    by_cases c4 : gen = 0
    case neg =>
      have c4b : (gen != 0) = true := bne_iff_ne.2 c4
      go_enter Tryz.func38, Tryz.ntmps38
      go_upto_region 1 with (fail)
      go_quiet (fail)
      go_wp2_with fail
      all_goals first | (exfalso; omega) | (go_ret; exact ⟨rfl, ((Ext.refl [] w).alloc _).drewN _⟩)
    subst c4
    go_enter Tryz.func38, Tryz.ntmps38
    go_upto_region 1 with (fail)
    go_quiet (fail)
    go_wp2_with fail
    all_goals first | (exfalso; omega) | (go_ret; exact ⟨rfl, ((Ext.refl [] w).alloc _).drewN _⟩)
  · by_cases c1 : 0 < L.length
    · have c1z : (0 : Int) < (L.length : Int) := by omega
      go_enter Tryz.func38, Tryz.ntmps38
      go_upto_region 1 with (fail)
      go_quiet (fail)
      go_wp2_with fail
      all_goals first | (exfalso; omega) | (go_ret; exact ⟨rfl, ((Ext.refl [] w).alloc _).drewN _⟩)
    have c1z : ¬ (0 : Int) < (L.length : Int) := by omega
    by_cases c2 : s = ⟨#[]⟩
    case neg =>
      have c2b : s.toList.isEmpty = false := some_bytes c2
      go_enter Tryz.func38, Tryz.ntmps38
      go_upto_region 1 with (fail)
      go_quiet (fail)
      go_wp2_with fail
      all_goals first | (exfalso; omega) | (go_ret; exact ⟨rfl, ((Ext.refl [] w).alloc _).drewN _⟩)
    subst c2
    by_cases c3 : n = 0
    case neg =>
      have c3b : (n != 0) = true := bne_iff_ne.2 c3
      have c3e : (n == 0) = false := beq_eq_false_iff_ne.2 c3
      by_cases c4 : gen = 0
      · subst c4
        go_enter Tryz.func38, Tryz.ntmps38
        go_upto_region 1 with (fail)
        go_quiet (fail)
        go_wp2_with fail
        all_goals first | (exfalso; omega) | (go_ret; exact ⟨rfl, ((Ext.refl [] w).alloc _).drewN _⟩)
      · have c4b : (gen != 0) = true := bne_iff_ne.2 c4
        go_enter Tryz.func38, Tryz.ntmps38
        go_upto_region 1 with (fail)
        go_quiet (fail)
        go_wp2_with fail
        all_goals first | (exfalso; omega) | (go_ret; exact ⟨rfl, ((Ext.refl [] w).alloc _).drewN _⟩)
    subst c3
    by_cases c4 : gen = 0
    case neg =>
      have c4b : (gen != 0) = true := bne_iff_ne.2 c4
      go_enter Tryz.func38, Tryz.ntmps38
      go_upto_region 1 with (fail)
      go_quiet (fail)
      go_wp2_with fail
      all_goals first | (exfalso; omega) | (go_ret; exact ⟨rfl, ((Ext.refl [] w).alloc _).drewN _⟩)
    subst c4
    go_enter Tryz.func38, Tryz.ntmps38
    go_upto_region 1 with (fail)
    go_quiet (fail)
    go_wp2_with fail
    all_goals first | (exfalso; omega) | (go_ret; exact ⟨rfl, ((Ext.refl [] w).alloc _).drewN _⟩)
end Go.Proofs.YtgpgamohcafklaaGreatDoor.Tr
