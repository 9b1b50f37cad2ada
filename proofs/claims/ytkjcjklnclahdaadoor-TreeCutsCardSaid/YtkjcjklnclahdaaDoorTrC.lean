/-
  tree: names looked at; what a node may be, plain.
-/
import Derived.Test.YtkjcjklnclahdaaDoorTrB
import Derived.Test.YtkjcjklnclahdaaDoorNuG
namespace Go.Proofs.YtkjcjklnclahdaaDoor.Tr
open Go.RowKit

/-- the number of name.Check's error -/
def nameN (s : ByteArray) : Int := if 127 < s.size then 3 else if 0 ≤ Lib.indexByte s.data.toList 0 then 2 else 0
set_option maxRecDepth 100000 in
set_option maxHeartbeats 2000000 in
theorem name_walk (s : ByteArray) (w : World) : Calls Tryd.prog 41 #[.string s] w fun e w' => e = .returned (.int .i64 (nameN s)) ∧ Ext [] w w' := by
  have H := Lib.hid (Tryd.strings_IndexByte s 0 w)
  by_cases q1 : 127 < s.size
  · have q1z : (127 : Int) < (s.size : Int) := by omega
    have hR : nameN s = 3 := if_pos q1
    rw [hR]
    clear hR
    go_enter Tryd.func41, Tryd.ntmps41
    go_wp2_with fail
    go_ret
    exact ⟨rfl, Ext.refl _ _⟩
  · have q1z : ¬ (127 : Int) < (s.size : Int) := by omega
    have hR : nameN s = if 0 ≤ Lib.indexByte s.data.toList 0 then 2 else 0 := if_neg q1
    rw [hR]
    clear hR
    have H := Lib.hid (show Calls Tryd.prog 61 #[.string s, .int .u8 0] w (fun e w' => e = .returned (.int .i64 (Lib.indexByte s.data.toList 0)) ∧ w' = w) from H.out)
    generalize Lib.indexByte s.data.toList 0 = j at *
    by_cases q2 : 0 ≤ j
    · rw [if_pos q2]
      go_enter Tryd.func41, Tryd.ntmps41
      go_wp2_with fail
      refine H.out.mono ?_
      rintro e w' ⟨rfl, rfl⟩
      go_wp2_with fail
      go_ret
      exact ⟨rfl, Ext.refl _ _⟩
    · rw [if_neg q2]
      go_enter Tryd.func41, Tryd.ntmps41
      go_wp2_with fail
      refine H.out.mono ?_
      rintro e w' ⟨rfl, rfl⟩
      go_wp2_with fail
      go_ret
      exact ⟨rfl, Ext.refl _ _⟩
/-- may a node be, its kids aside? -/
def bareN (x : Nd) : Bool :=
  if (x.kind ≠ 7 ∧ x.kind ≠ 8 ∧ 0 < x.kids.length) ∨ (x.kind ≠ 4 ∧ x.kind ≠ 5 ∧ x.kind ≠ 6 ∧ x.s ≠ ⟨#[]⟩) ∨ (x.kind ≠ 2 ∧ x.kind ≠ 3 ∧ x.kind ≠ 9 ∧ x.n ≠ 0) ∨ (x.kind ≠ 9 ∧ x.gen ≠ 0) then false else
  if x.kind = 1 ∨ x.kind = 7 ∨ x.kind = 8 then true else
  if x.kind = 2 then decide (x.n = 0 ∨ x.n = 1) else
  if x.kind = 3 then decide (-2147483647 ≤ x.n ∧ x.n ≤ 2147483647) else
  if x.kind = 4 then decide (Nu.realN (Nu.B x.s) = (Nu.B x.s, 0)) else
  if x.kind = 5 then decide (x.s.size ≤ 65536) else
  if x.kind = 6 then decide (nameN x.s = 0) else
  if x.kind = 9 then decide (1 ≤ x.n ∧ x.n ≤ 8388607 ∧ 0 ≤ x.gen ∧ x.gen ≤ 65535) else false
end Go.Proofs.YtkjcjklnclahdaaDoor.Tr
