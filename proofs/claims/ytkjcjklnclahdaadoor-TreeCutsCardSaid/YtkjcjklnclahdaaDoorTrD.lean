/-
  tree: bare walked.
-/
import Derived.Test.YtkjcjklnclahdaaDoorTrC
namespace Go.Proofs.YtkjcjklnclahdaaDoor.Tr
open Go.RowKit


theorem bytes_eq {s t : ByteArray} (h : s.toList = t.toList) : s = t := by
  rw [ByteArray.toList_eq, ByteArray.toList_eq] at h
  obtain ⟨⟨a⟩⟩ := s
  obtain ⟨⟨b⟩⟩ := t
  simpa using h
theorem some_bytes {s : ByteArray} (h : ¬ s = ⟨#[]⟩) : s.toList.isEmpty = false := by
  rw [ByteArray.toList_eq]
  obtain ⟨⟨l⟩⟩ := s
  cases l with
  | nil => exact absurd rfl h
  | cons _ _ => rfl

set_option maxRecDepth 100000 in
set_option maxHeartbeats 8000000 in
theorem bare_1 (n gen : Int) (s : ByteArray) (L : List Int) (base : Option Addr) (cap : Nat) (w : World) :
    Calls Tryd.prog 48 #[.agg #[.int .i64 1, .int .i64 n, .int .i64 gen, .string s, .slice base L.length cap]] w fun e w' => e = .returned (.bool (bareN ⟨1, n, gen, s, L⟩)) ∧ Ext [] w w' := by
  by_cases c1 : 0 < L.length
  · have c1z : (0 : Int) < (L.length : Int) := by omega
    have hR : bareN ⟨1, n, gen, s, L⟩ = false := by simp [bareN, c1]
    rw [hR]
    clear hR
    go_enter Tryd.func48, Tryd.ntmps48
    go_wp2_with fail
    go_ret
    exact ⟨rfl, (Ext.refl [] w).alloc _⟩
  have c1z : ¬ (0 : Int) < (L.length : Int) := by omega
  by_cases c2 : s = ⟨#[]⟩
  case neg =>
    have c2b : s.toList.isEmpty = false := some_bytes c2
    have hR : bareN ⟨1, n, gen, s, L⟩ = false := by simp [bareN, c1, c2]
    rw [hR]
    clear hR
    go_enter Tryd.func48, Tryd.ntmps48
    go_wp2_with fail
    go_ret
    exact ⟨rfl, (Ext.refl [] w).alloc _⟩
  subst c2
  by_cases c3 : n = 0
  case neg =>
    have c3b : (n != 0) = true := bne_iff_ne.2 c3
    have hR : bareN ⟨1, n, gen, ⟨#[]⟩, L⟩ = false := by simp [bareN, c1, c3]
    rw [hR]
    clear hR
    go_enter Tryd.func48, Tryd.ntmps48
    go_wp2_with fail
    go_ret
    exact ⟨rfl, (Ext.refl [] w).alloc _⟩
  subst c3
  by_cases c4 : gen = 0
  case neg =>
    have c4b : (gen != 0) = true := bne_iff_ne.2 c4
    have hR : bareN ⟨1, 0, gen, ⟨#[]⟩, L⟩ = false := by simp [bareN, c1, c4]
    rw [hR]
    clear hR
    go_enter Tryd.func48, Tryd.ntmps48
    go_wp2_with fail
    go_ret
    exact ⟨rfl, (Ext.refl [] w).alloc _⟩
  subst c4
  have hR : bareN ⟨1, 0, 0, ⟨#[]⟩, L⟩ = true := by simp [bareN, c1]
  rw [hR]
  clear hR
  go_enter Tryd.func48, Tryd.ntmps48
  go_wp2_with fail
  go_ret
  exact ⟨rfl, (Ext.refl [] w).alloc _⟩
set_option maxRecDepth 100000 in
set_option maxHeartbeats 8000000 in
theorem bare_2 (n gen : Int) (s : ByteArray) (L : List Int) (base : Option Addr) (cap : Nat) (w : World) :
    Calls Tryd.prog 48 #[.agg #[.int .i64 2, .int .i64 n, .int .i64 gen, .string s, .slice base L.length cap]] w fun e w' => e = .returned (.bool (bareN ⟨2, n, gen, s, L⟩)) ∧ Ext [] w w' := by
  by_cases c1 : 0 < L.length
  · have c1z : (0 : Int) < (L.length : Int) := by omega
    have hR : bareN ⟨2, n, gen, s, L⟩ = false := by simp [bareN, c1]
    rw [hR]
    clear hR
    go_enter Tryd.func48, Tryd.ntmps48
    go_wp2_with fail
    go_ret
    exact ⟨rfl, (Ext.refl [] w).alloc _⟩
  have c1z : ¬ (0 : Int) < (L.length : Int) := by omega
  by_cases c2 : s = ⟨#[]⟩
  case neg =>
    have c2b : s.toList.isEmpty = false := some_bytes c2
    have hR : bareN ⟨2, n, gen, s, L⟩ = false := by simp [bareN, c1, c2]
    rw [hR]
    clear hR
    go_enter Tryd.func48, Tryd.ntmps48
    go_wp2_with fail
    go_ret
    exact ⟨rfl, (Ext.refl [] w).alloc _⟩
  subst c2
  by_cases c4 : gen = 0
  case neg =>
    have c4b : (gen != 0) = true := bne_iff_ne.2 c4
    have hR : bareN ⟨2, n, gen, ⟨#[]⟩, L⟩ = false := by simp [bareN, c1, c4]
    rw [hR]
    clear hR
    go_enter Tryd.func48, Tryd.ntmps48
    go_wp2_with fail
    go_ret
    exact ⟨rfl, (Ext.refl [] w).alloc _⟩
  subst c4
  by_cases d1 : n = 0
  · subst d1
    have hR : bareN ⟨2, 0, 0, ⟨#[]⟩, L⟩ = true := by simp [bareN, c1]
    rw [hR]
    clear hR
    go_enter Tryd.func48, Tryd.ntmps48
    go_wp2_with fail
    go_ret
    exact ⟨rfl, (Ext.refl [] w).alloc _⟩
  · have d1b : (n == 0) = false := beq_eq_false_iff_ne.2 d1
    by_cases d2 : n = 1
    · subst d2
      have hR : bareN ⟨2, 1, 0, ⟨#[]⟩, L⟩ = true := by simp [bareN, c1]
      rw [hR]
      clear hR
      go_enter Tryd.func48, Tryd.ntmps48
      go_wp2_with fail
      go_ret
      exact ⟨rfl, (Ext.refl [] w).alloc _⟩
    · have d2b : (n == 1) = false := beq_eq_false_iff_ne.2 d2
      have hR : bareN ⟨2, n, 0, ⟨#[]⟩, L⟩ = false := by simp [bareN, c1, d1, d2]
      rw [hR]
      clear hR
      go_enter Tryd.func48, Tryd.ntmps48
      go_wp2_with fail
      go_ret
      exact ⟨rfl, (Ext.refl [] w).alloc _⟩
set_option maxRecDepth 100000 in
set_option maxHeartbeats 8000000 in
theorem bare_7 (n gen : Int) (s : ByteArray) (L : List Int) (base : Option Addr) (cap : Nat) (w : World) :
    Calls Tryd.prog 48 #[.agg #[.int .i64 7, .int .i64 n, .int .i64 gen, .string s, .slice base L.length cap]] w fun e w' => e = .returned (.bool (bareN ⟨7, n, gen, s, L⟩)) ∧ Ext [] w w' := by
  by_cases c2 : s = ⟨#[]⟩
  case neg =>
    have c2b : s.toList.isEmpty = false := some_bytes c2
    have hR : bareN ⟨7, n, gen, s, L⟩ = false := by simp [bareN, c2]
    rw [hR]
    clear hR
    go_enter Tryd.func48, Tryd.ntmps48
    go_wp2_with fail
    go_ret
    exact ⟨rfl, (Ext.refl [] w).alloc _⟩
  subst c2
  by_cases c3 : n = 0
  case neg =>
    have c3b : (n != 0) = true := bne_iff_ne.2 c3
    have hR : bareN ⟨7, n, gen, ⟨#[]⟩, L⟩ = false := by simp [bareN, c3]
    rw [hR]
    clear hR
    go_enter Tryd.func48, Tryd.ntmps48
    go_wp2_with fail
    go_ret
    exact ⟨rfl, (Ext.refl [] w).alloc _⟩
  subst c3
  by_cases c4 : gen = 0
  case neg =>
    have c4b : (gen != 0) = true := bne_iff_ne.2 c4
    have hR : bareN ⟨7, 0, gen, ⟨#[]⟩, L⟩ = false := by simp [bareN, c4]
    rw [hR]
    clear hR
    go_enter Tryd.func48, Tryd.ntmps48
    go_wp2_with fail
    go_ret
    exact ⟨rfl, (Ext.refl [] w).alloc _⟩
  subst c4
  have hR : bareN ⟨7, 0, 0, ⟨#[]⟩, L⟩ = true := by simp [bareN]
  rw [hR]
  clear hR
  go_enter Tryd.func48, Tryd.ntmps48
  go_wp2_with fail
  go_ret
  exact ⟨rfl, (Ext.refl [] w).alloc _⟩
end Go.Proofs.YtkjcjklnclahdaaDoor.Tr
