/-
  cmp.Or of two numbers.
-/
import Derived.Test.YtgpgamohcafklaaGreatDoorSoA
namespace Go.Proofs.YtgpgamohcafklaaGreatDoor.So
open Go.RowKit
open Go.Proofs.YtgpgamohcafklaaGreatDoor.Tr

set_option maxRecDepth 100000 in
set_option maxHeartbeats 2000000 in
theorem or_walk (a b : Int) (g : Nat) (w : World) (h0 : w.cell? ⟨g, 0, none⟩ = some (.int .i64 a)) (h1 : w.cell? ⟨g, 1, none⟩ = some (.int .i64 b)) :
    Calls Tryz.prog 33 #[.slice (some ⟨g, 0, none⟩) 2 2] w fun e w' => e = .returned (.int .i64 (if a ≠ 0 then a else b)) ∧ w' = w := by
  obtain ⟨R, hR⟩ : ∃ R, (if a ≠ 0 then a else b) = R := ⟨_, rfl⟩
  have HR := Lib.hid hR
  have HC := Lib.hid (⟨h0, h1⟩ : _ ∧ _)
  rw [hR]
  clear hR h0 h1
  go_enter Tryz.func33, Tryz.ntmps33
  go_wp2_with fail
  go_loopg [2, 5, 8] 2 (fun gk v2 v5 iv wr => wr = w ∧ ((gk = 2 ∧ iv = .int .i64 0) ∨ (gk = 1 ∧ iv = .int .i64 1 ∧ a = 0) ∨ (gk = 0 ∧ iv = .int .i64 2 ∧ a = 0 ∧ b = 0)))
  case atStart => exact ⟨rfl, .inl ⟨rfl, rfl⟩⟩
  case round =>
    obtain ⟨rfl, (⟨rfl, rfl⟩ | ⟨rfl, rfl, ha⟩ | ⟨rfl, rfl, ha, hb⟩)⟩ := hrel
    · have h0 := HC.out.1
      by_cases ha : a = 0
      · have HA := Lib.hid ha
        have hz : (a != 0) = false := by simp [ha]
        clear ha
        go_wp2_with fail
        go_roundg 1
        case measure => omega
        case rel => exact ⟨rfl, .inr (.inl ⟨rfl, rfl, HA.out⟩)⟩
      · have hz : (a != 0) = true := bne_iff_ne.2 ha
        have hR := HR.out
        rw [if_pos ha] at hR
        subst hR
        clear ha
        go_wp2_with fail
        go_ret
        exact ⟨rfl, rfl⟩
    · have h1 := HC.out.2
      have hR := HR.out
      rw [if_neg (by simp [ha])] at hR
      subst hR
      by_cases hb : b = 0
      · have HA := Lib.hid (⟨ha, hb⟩ : _ ∧ _)
        have hz : (b != 0) = false := by simp [hb]
        clear ha hb
        go_wp2_with fail
        go_roundg 0
        case measure => omega
        case rel => exact ⟨rfl, .inr (.inr ⟨rfl, rfl, HA.out.1, HA.out.2⟩)⟩
      · have hz : (b != 0) = true := bne_iff_ne.2 hb
        clear ha hb
        go_wp2_with fail
        go_ret
        exact ⟨rfl, rfl⟩
    · have hR := HR.out
      rw [if_neg (by simp [ha]), hb] at hR
      subst hR
      clear ha hb
      go_wp2_with fail
      go_ret
      exact ⟨rfl, rfl⟩
end Go.Proofs.YtgpgamohcafklaaGreatDoor.So
