/-
  tree: bare walked, other kinds.
-/
import Derived.Test.YtkjcjklnclahdaaDoorTrD
namespace Go.Proofs.YtkjcjklnclahdaaDoor.Tr
open Go.RowKit

set_option maxRecDepth 100000 in
set_option maxHeartbeats 8000000 in
theorem bare_3 (n gen : Int) (s : ByteArray) (L : List Int) (base : Option Addr) (cap : Nat) (h0 : -9223372036854775808 ≤ n) (h1 : n ≤ 9223372036854775807) (w : World) :
    Calls Tryd.prog 48 #[.agg #[.int .i64 3, .int .i64 n, .int .i64 gen, .string s, .slice base L.length cap]] w fun e w' => e = .returned (.bool (bareN ⟨3, n, gen, s, L⟩)) ∧ Ext [] w w' := by
  by_cases c1 : 0 < L.length
  · have c1z : (0 : Int) < (L.length : Int) := by omega
    have hR : bareN ⟨3, n, gen, s, L⟩ = false := by simp [bareN, c1]
    rw [hR]
    clear hR
    go_enter Tryd.func48, Tryd.ntmps48
    go_wp2_with fail
    all_goals first | (exfalso; omega) | (go_ret; exact ⟨rfl, (Ext.refl [] w).alloc _⟩)
  have c1z : ¬ (0 : Int) < (L.length : Int) := by omega
  by_cases c2 : s = ⟨#[]⟩
  case neg =>
    have c2b : s.toList.isEmpty = false := some_bytes c2
    have hR : bareN ⟨3, n, gen, s, L⟩ = false := by simp [bareN, c1, c2]
    rw [hR]
    clear hR
    go_enter Tryd.func48, Tryd.ntmps48
    go_wp2_with fail
    all_goals first | (exfalso; omega) | (go_ret; exact ⟨rfl, (Ext.refl [] w).alloc _⟩)
  subst c2
  by_cases c4 : gen = 0
  case neg =>
    have c4b : (gen != 0) = true := bne_iff_ne.2 c4
    have hR : bareN ⟨3, n, gen, ⟨#[]⟩, L⟩ = false := by simp [bareN, c1, c4]
    rw [hR]
    clear hR
    go_enter Tryd.func48, Tryd.ntmps48
    go_wp2_with fail
    all_goals first | (exfalso; omega) | (go_ret; exact ⟨rfl, (Ext.refl [] w).alloc _⟩)
  subst c4
  by_cases d1 : n < -2147483647
  · by_cases d2 : n = -9223372036854775808
    · subst d2
      have hR : bareN ⟨3, (-9223372036854775808), 0, ⟨#[]⟩, L⟩ = false := by simp [bareN, c1]
      rw [hR]
      clear hR
      go_enter Tryd.func48, Tryd.ntmps48
      go_wp2_with fail
      all_goals first | (exfalso; omega) | (go_ret; exact ⟨rfl, (Ext.refl [] w).alloc _⟩)
    · have d3 : -9223372036854775808 < n := by omega
      have d4 : ¬ -2147483647 ≤ n := by omega
      have hR : bareN ⟨3, n, 0, ⟨#[]⟩, L⟩ = false := by simp [bareN, c1, d4]
      rw [hR]
      clear hR
      go_enter Tryd.func48, Tryd.ntmps48
      go_wp2_with fail
      all_goals first | (exfalso; omega) | (go_ret; exact ⟨rfl, (Ext.refl [] w).alloc _⟩)
  · by_cases d2 : 2147483647 < n
    · have d4 : ¬ n ≤ 2147483647 := by omega
      have hR : bareN ⟨3, n, 0, ⟨#[]⟩, L⟩ = false := by simp [bareN, c1, d4]
      rw [hR]
      clear hR
      go_enter Tryd.func48, Tryd.ntmps48
      go_wp2_with fail
      all_goals first | (exfalso; omega) | (go_ret; exact ⟨rfl, (Ext.refl [] w).alloc _⟩)
    · have d3 : -2147483647 ≤ n := by omega
      have d4 : n ≤ 2147483647 := by omega
      have hR : bareN ⟨3, n, 0, ⟨#[]⟩, L⟩ = true := by simp [bareN, c1, d3, d4]
      rw [hR]
      clear hR
      go_enter Tryd.func48, Tryd.ntmps48
      go_wp2_with fail
      all_goals first | (exfalso; omega) | (go_ret; exact ⟨rfl, (Ext.refl [] w).alloc _⟩)
set_option maxRecDepth 100000 in
set_option maxHeartbeats 8000000 in
theorem bare_5 (n gen : Int) (s : ByteArray) (L : List Int) (base : Option Addr) (cap : Nat) (w : World) :
    Calls Tryd.prog 48 #[.agg #[.int .i64 5, .int .i64 n, .int .i64 gen, .string s, .slice base L.length cap]] w fun e w' => e = .returned (.bool (bareN ⟨5, n, gen, s, L⟩)) ∧ Ext [] w w' := by
  by_cases c1 : 0 < L.length
  · have c1z : (0 : Int) < (L.length : Int) := by omega
    have hR : bareN ⟨5, n, gen, s, L⟩ = false := by simp [bareN, c1]
    rw [hR]
    clear hR
    go_enter Tryd.func48, Tryd.ntmps48
    go_wp2_with fail
    go_ret
    exact ⟨rfl, (Ext.refl [] w).alloc _⟩
  have c1z : ¬ (0 : Int) < (L.length : Int) := by omega
  by_cases c3 : n = 0
  case neg =>
    have c3b : (n != 0) = true := bne_iff_ne.2 c3
    have hR : bareN ⟨5, n, gen, s, L⟩ = false := by simp [bareN, c1, c3]
    rw [hR]
    clear hR
    go_enter Tryd.func48, Tryd.ntmps48
    go_wp2_with fail
    go_ret
    exact ⟨rfl, (Ext.refl [] w).alloc _⟩
  subst c3
  by_cases c4 : gen = 0
  case neg =>
    have c4b : (gen != 0) = true := bne_iff_ne.2 c4
    have hR : bareN ⟨5, 0, gen, s, L⟩ = false := by simp [bareN, c1, c4]
    rw [hR]
    clear hR
    go_enter Tryd.func48, Tryd.ntmps48
    go_wp2_with fail
    go_ret
    exact ⟨rfl, (Ext.refl [] w).alloc _⟩
  subst c4
  by_cases d1 : s.size ≤ 65536
  · have d1z : (s.size : Int) ≤ 65536 := by omega
    have hR : bareN ⟨5, 0, 0, s, L⟩ = true := by simp [bareN, c1, d1]
    rw [hR]
    clear hR
    go_enter Tryd.func48, Tryd.ntmps48
    go_wp2_with fail
    go_ret
    exact ⟨rfl, (Ext.refl [] w).alloc _⟩
  · have d1z : ¬ (s.size : Int) ≤ 65536 := by omega
    have hR : bareN ⟨5, 0, 0, s, L⟩ = false := by simp [bareN, c1, d1]
    rw [hR]
    clear hR
    go_enter Tryd.func48, Tryd.ntmps48
    go_wp2_with fail
    go_ret
    exact ⟨rfl, (Ext.refl [] w).alloc _⟩
end Go.Proofs.YtkjcjklnclahdaaDoor.Tr
