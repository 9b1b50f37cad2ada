/-
  No cell of these rows narrows 'for every input' (looked for: loops, veiled, ifaces, maps, wideKeys, modest, calm, conditions, laid).
  DERIVED. THE GIVEN ROWS OF THIS SEAT. 4 by the template 'for every input the law returns true; each argument reads behind the call as it read before'; 0 by the template 'total and deterministic' (their statements: YtoiegmdlbcbgoaaTotals.lean).
  GIVEN WITH THE SEED: the statements are not yours to turn. If you find one false, say at which input.
  Laid BY PROGRAM, IN A SANDBOX (cutbox-rows.mjs): the forced cells as the released guide's own fill.sh prints them over the translation 7b9bbf9d570cc3d8… (all of the seat's roots in one cut). By AI agents, Wed Nov 11 2026. No macro, syntax, notation, axiom, sorry.
-/
import Derived.Test.YtoiegmdlbcbgoaaChecked
import GoSem.Claim
import GoSem.ClaimJoined
import GoSem.ClaimMapViews
import Derived.JoinedTies
import Derived.KernelRfl
namespace Go.Proofs.Ytoiegmdlbcbgoaa
/- THE CELL 'sum', in the pinned program and in every row, IS THE sha256 OF THE DUMP (.gsa) THAT YtoiegmdlbcbgoaaProg.lean LOADS. Nothing in Lean hashes anything: it is a label: what it is worth is what the hold of that sum in a sandbox is worth. -/
noncomputable def Try.pinned : Pinned := { name := "ytoiegmdlbcbgoaa", sum := "7b9bbf9d570cc3d842fce4e7dadaa903ac380d497c069dda5f5dca87e2cda69d", checked := Try.checked }
namespace Rows
def none {H : Type} : Left H := { results := [], args := [] }

/-- 'pagemenderlaw15.PredictRows': WHATEVER THE INPUT: true; the input reads as it did. -/
def predictRowsSpec : ChangeSpec := { name := "predictRows", fn := fun _ => fun
  | [d1, d2, d3, d4] => { results := [.lit (.bool true)], args := [d1, d2, d3, d4] }
  | _ => none }
def predictRowsRow : OpenClaim := { program := "ytoiegmdlbcbgoaa", sum := "7b9bbf9d570cc3d842fce4e7dadaa903ac380d497c069dda5f5dca87e2cda69d", func := "pagemender/pagemenderlaw15.PredictRows", spec := "predictRows", unfollowed := true, recurses := true, apart := false }
def PredictRowsSaid : Prop := predictRowsRow.holds Try.pinned (OpenSpec.ofChange predictRowsSpec)

/-- ITS FALSE NEIGHBOUR: 'it returns false'. Refute it at one input. -/
def predictRowsWrong : ChangeSpec := { name := "predictRows", fn := fun _ => fun
  | [d1, d2, d3, d4] => { results := [.lit (.bool false)], args := [d1, d2, d3, d4] }
  | _ => none }
def PredictRowsWrongFalsely : Prop := predictRowsRow.holds Try.pinned (OpenSpec.ofChange predictRowsWrong)

/-- 'pagemenderlaw15.PredictPaeth': WHATEVER THE INPUT: true; the input reads as it did. -/
def predictPaethSpec : ChangeSpec := { name := "predictPaeth", fn := fun _ => fun
  | [d1, d2, d3] => { results := [.lit (.bool true)], args := [d1, d2, d3] }
  | _ => none }
def predictPaethRow : OpenClaim := { program := "ytoiegmdlbcbgoaa", sum := "7b9bbf9d570cc3d842fce4e7dadaa903ac380d497c069dda5f5dca87e2cda69d", func := "pagemender/pagemenderlaw15.PredictPaeth", spec := "predictPaeth", unfollowed := true, recurses := true, apart := false }
def PredictPaethSaid : Prop := predictPaethRow.holds Try.pinned (OpenSpec.ofChange predictPaethSpec)

/-- ITS FALSE NEIGHBOUR: 'it returns false'. Refute it at one input. -/
def predictPaethWrong : ChangeSpec := { name := "predictPaeth", fn := fun _ => fun
  | [d1, d2, d3] => { results := [.lit (.bool false)], args := [d1, d2, d3] }
  | _ => none }
def PredictPaethWrongFalsely : Prop := predictPaethRow.holds Try.pinned (OpenSpec.ofChange predictPaethWrong)

/-- 'pagemenderlaw15.PredictLeast': WHATEVER THE INPUT: true; the input reads as it did. -/
def predictLeastSpec : ChangeSpec := { name := "predictLeast", fn := fun _ => fun
  | [d1, d2, d3] => { results := [.lit (.bool true)], args := [d1, d2, d3] }
  | _ => none }
def predictLeastRow : OpenClaim := { program := "ytoiegmdlbcbgoaa", sum := "7b9bbf9d570cc3d842fce4e7dadaa903ac380d497c069dda5f5dca87e2cda69d", func := "pagemender/pagemenderlaw15.PredictLeast", spec := "predictLeast", unfollowed := true, recurses := true, apart := false }
def PredictLeastSaid : Prop := predictLeastRow.holds Try.pinned (OpenSpec.ofChange predictLeastSpec)

/-- ITS FALSE NEIGHBOUR: 'it returns false'. Refute it at one input. -/
def predictLeastWrong : ChangeSpec := { name := "predictLeast", fn := fun _ => fun
  | [d1, d2, d3] => { results := [.lit (.bool false)], args := [d1, d2, d3] }
  | _ => none }
def PredictLeastWrongFalsely : Prop := predictLeastRow.holds Try.pinned (OpenSpec.ofChange predictLeastWrong)

/-- 'pagemenderlaw15.PredictBack': WHATEVER THE INPUT: true; the input reads as it did. -/
def predictBackSpec : ChangeSpec := { name := "predictBack", fn := fun _ => fun
  | [d1, d2] => { results := [.lit (.bool true)], args := [d1, d2] }
  | _ => none }
def predictBackRow : OpenClaim := { program := "ytoiegmdlbcbgoaa", sum := "7b9bbf9d570cc3d842fce4e7dadaa903ac380d497c069dda5f5dca87e2cda69d", func := "pagemender/pagemenderlaw15.PredictBack", spec := "predictBack", unfollowed := true, recurses := true, apart := false }
def PredictBackSaid : Prop := predictBackRow.holds Try.pinned (OpenSpec.ofChange predictBackSpec)

/-- ITS FALSE NEIGHBOUR: 'it returns false'. Refute it at one input. -/
def predictBackWrong : ChangeSpec := { name := "predictBack", fn := fun _ => fun
  | [d1, d2] => { results := [.lit (.bool false)], args := [d1, d2] }
  | _ => none }
def PredictBackWrongFalsely : Prop := predictBackRow.holds Try.pinned (OpenSpec.ofChange predictBackWrong)

/- THE SECOND FORM. 'bulk': how many values and letters a reading holds, each counted each time it is reached (what is shared counts as often as it is met; a slice's spare places count too). A statement '..UptoSaid' is the law's where the arguments, and the package variables that the reading takes, are together of bulk at most 1048576: NARROWER than '..Said'. Prove '..Said' where nothing that the law and all that it calls make is longer than what came in: it says more and counts as full. Else prove '..UptoSaid'. A law counts once. -/
mutual
def uptoBulk {H : Type} : DataW H → Nat
  | .lit (.string bytes) => bytes.length + 1
  | .lit _ => 1
  | .nil => 1
  | .ptr d => uptoBulk d + 1
  | .slice elems spare => uptoBulkAll elems + uptoBulkAll spare + 1
  | .agg parts => uptoBulkAll parts + 1
  | .iface _ d => uptoBulk d + 1
  | .map entries => uptoBulkEntries entries + 1
  | .held _ => 1
def uptoBulkAll {H : Type} : List (DataW H) → Nat
  | [] => 0
  | d :: r => uptoBulk d + uptoBulkAll r
def uptoBulkEntries {H : Type} : List (Lit × DataW H) → Nat
  | [] => 0
  | x :: r => uptoBulkEntry x + uptoBulkEntries r
def uptoBulkEntry {H : Type} : Lit × DataW H → Nat
  | (.string bytes, d) => bytes.length + uptoBulk d + 1
  | (_, d) => uptoBulk d + 1
 end
def uptoSmall : (H : Type) → List (DataW H) → Bool := fun _ ds => decide (uptoBulkAll ds ≤ 1048576)
def OpenSpec.upto (s : _root_.Go.ChangeSpec) : _root_.Go.OpenSpec := { _root_.Go.OpenSpec.ofChange s with cond := some uptoSmall }

/-- 'pagemenderlaw15.PredictRows', WHERE WHAT IT READS IS OF BULK AT MOST 1048576: true; the input reads as it did. -/
def predictRowsUptoRow : OpenClaim := { program := "ytoiegmdlbcbgoaa", sum := "7b9bbf9d570cc3d842fce4e7dadaa903ac380d497c069dda5f5dca87e2cda69d", func := "pagemender/pagemenderlaw15.PredictRows", spec := "predictRows", unfollowed := true, recurses := true, apart := false, narrowed := true }
def PredictRowsUptoSaid : Prop := predictRowsUptoRow.holds Try.pinned (OpenSpec.upto predictRowsSpec)

/-- 'pagemenderlaw15.PredictPaeth', WHERE WHAT IT READS IS OF BULK AT MOST 1048576: true; the input reads as it did. -/
def predictPaethUptoRow : OpenClaim := { program := "ytoiegmdlbcbgoaa", sum := "7b9bbf9d570cc3d842fce4e7dadaa903ac380d497c069dda5f5dca87e2cda69d", func := "pagemender/pagemenderlaw15.PredictPaeth", spec := "predictPaeth", unfollowed := true, recurses := true, apart := false, narrowed := true }
def PredictPaethUptoSaid : Prop := predictPaethUptoRow.holds Try.pinned (OpenSpec.upto predictPaethSpec)

/-- 'pagemenderlaw15.PredictLeast', WHERE WHAT IT READS IS OF BULK AT MOST 1048576: true; the input reads as it did. -/
def predictLeastUptoRow : OpenClaim := { program := "ytoiegmdlbcbgoaa", sum := "7b9bbf9d570cc3d842fce4e7dadaa903ac380d497c069dda5f5dca87e2cda69d", func := "pagemender/pagemenderlaw15.PredictLeast", spec := "predictLeast", unfollowed := true, recurses := true, apart := false, narrowed := true }
def PredictLeastUptoSaid : Prop := predictLeastUptoRow.holds Try.pinned (OpenSpec.upto predictLeastSpec)

/-- 'pagemenderlaw15.PredictBack', WHERE WHAT IT READS IS OF BULK AT MOST 1048576: true; the input reads as it did. -/
def predictBackUptoRow : OpenClaim := { program := "ytoiegmdlbcbgoaa", sum := "7b9bbf9d570cc3d842fce4e7dadaa903ac380d497c069dda5f5dca87e2cda69d", func := "pagemender/pagemenderlaw15.PredictBack", spec := "predictBack", unfollowed := true, recurses := true, apart := false, narrowed := true }
def PredictBackUptoSaid : Prop := predictBackUptoRow.holds Try.pinned (OpenSpec.upto predictBackSpec)

end Rows
end Go.Proofs.Ytoiegmdlbcbgoaa
