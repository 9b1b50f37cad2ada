/-
  number: size, Compare walked.
-/
import Derived.Test.YtgpgamohcafklaaGreatDoorNuD
namespace Go.Proofs.YtgpgamohcafklaaGreatDoor.Nu
open Go.RowKit

def pnv (k : Nat) (ng : Bool) (a b : List UInt8) : Value := .agg #[.int .i64 (k : Nat), .bool ng, .string (S a), .string (S b)]
/-- two blocks of the call's own, a number in each -/
theorem two_parts (w : World) (x y : Num) : Sep w ((w.alloc (.cells (nvs x) 110)).alloc (.cells (nvs y) 110)) [Ob.one (w.heap.size + 1) (.cells (nvs y) 110 (0, 0)), Ob.one w.heap.size (.cells (nvs x) 110 (0, 0))] :=
  ((Sep.start w).new ((Ext.refl _ w).alloc (.cells (nvs x) 110)) (Ob.one w.heap.size (.cells (nvs x) 110 (0, 0))) (heap_alloc_at _) (fun q hq => by rw [List.mem_singleton.1 hq]; exact Nat.le_refl _)).new ((Ext.refl _ _).alloc (.cells (nvs y) 110)) (Ob.one (w.heap.size + 1) (.cells (nvs y) 110 (0, 0))) (alloc2 _ _ _) (fun q hq => by rw [List.mem_singleton.1 hq]; simp)
end Go.Proofs.YtgpgamohcafklaaGreatDoor.Nu
