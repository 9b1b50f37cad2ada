/-
  No cell of these rows narrows 'for every input' (looked for: loops, veiled, ifaces, maps, wideKeys, modest, calm, conditions, laid).
  DERIVED. THE GIVEN ROWS OF THIS SEAT. 7 by the template 'for every input the law returns true; each argument reads behind the call as it read before'; 0 by the template 'total and deterministic' (their statements: YtchhgbhbldfofaaTotals.lean).
  GIVEN WITH THE SEED: the statements are not yours to turn. If you find one false, say at which input.
  Laid BY PROGRAM, IN A SANDBOX (cutbox-rows.mjs): the forced cells as the released guide's own fill.sh prints them over the translation a7b2639399ea8625… (all of the seat's roots in one cut). By AI agents, Wed Nov 11 2026. No macro, syntax, notation, axiom, sorry.
-/
import Derived.Test.YtchhgbhbldfofaaChecked
import GoSem.Claim
import GoSem.ClaimJoined
import GoSem.ClaimMapViews
import Derived.JoinedTies
import Derived.KernelRfl
namespace Go.Proofs.Ytchhgbhbldfofaa
/- THE CELL 'sum', in the pinned program and in every row, IS THE sha256 OF THE DUMP (.gsa) THAT YtchhgbhbldfofaaProg.lean LOADS. Nothing in Lean hashes anything: it is a label: what it is worth is what the hold of that sum in a sandbox is worth. -/
noncomputable def Try.pinned : Pinned := { name := "ytchhgbhbldfofaa", sum := "a7b2639399ea86253c70f80a8dbb7653fb27b451d6386a07c7a70a4a8abc3f08", checked := Try.checked }
namespace Rows
def none {H : Type} : Left H := { results := [], args := [] }

/-- 'pagemenderlaw07.HuffCalls': WHATEVER THE INPUT: true; the input reads as it did. -/
def huffCallsSpec : ChangeSpec := { name := "huffCalls", fn := fun _ => fun
  | [d1, d2, d3] => { results := [.lit (.bool true)], args := [d1, d2, d3] }
  | _ => none }
def huffCallsRow : OpenClaim := { program := "ytchhgbhbldfofaa", sum := "a7b2639399ea86253c70f80a8dbb7653fb27b451d6386a07c7a70a4a8abc3f08", func := "pagemender/pagemenderlaw07.HuffCalls", spec := "huffCalls", unfollowed := true, recurses := true, apart := false }
def HuffCallsSaid : Prop := huffCallsRow.holds Try.pinned (OpenSpec.ofChange huffCallsSpec)

/-- ITS FALSE NEIGHBOUR: 'it returns false'. Refute it at one input. -/
def huffCallsWrong : ChangeSpec := { name := "huffCalls", fn := fun _ => fun
  | [d1, d2, d3] => { results := [.lit (.bool false)], args := [d1, d2, d3] }
  | _ => none }
def HuffCallsWrongFalsely : Prop := huffCallsRow.holds Try.pinned (OpenSpec.ofChange huffCallsWrong)

/-- 'pagemenderlaw07.HuffFree': WHATEVER THE INPUT: true; the input reads as it did. -/
def huffFreeSpec : ChangeSpec := { name := "huffFree", fn := fun _ => fun
  | [d1, d2] => { results := [.lit (.bool true)], args := [d1, d2] }
  | _ => none }
def huffFreeRow : OpenClaim := { program := "ytchhgbhbldfofaa", sum := "a7b2639399ea86253c70f80a8dbb7653fb27b451d6386a07c7a70a4a8abc3f08", func := "pagemender/pagemenderlaw07.HuffFree", spec := "huffFree", unfollowed := true, recurses := true, apart := false }
def HuffFreeSaid : Prop := huffFreeRow.holds Try.pinned (OpenSpec.ofChange huffFreeSpec)

/-- ITS FALSE NEIGHBOUR: 'it returns false'. Refute it at one input. -/
def huffFreeWrong : ChangeSpec := { name := "huffFree", fn := fun _ => fun
  | [d1, d2] => { results := [.lit (.bool false)], args := [d1, d2] }
  | _ => none }
def HuffFreeWrongFalsely : Prop := huffFreeRow.holds Try.pinned (OpenSpec.ofChange huffFreeWrong)

/-- 'pagemenderlaw07.HuffLeast': WHATEVER THE INPUT: true; the input reads as it did. -/
def huffLeastSpec : ChangeSpec := { name := "huffLeast", fn := fun _ => fun
  | [d1, d2] => { results := [.lit (.bool true)], args := [d1, d2] }
  | _ => none }
def huffLeastRow : OpenClaim := { program := "ytchhgbhbldfofaa", sum := "a7b2639399ea86253c70f80a8dbb7653fb27b451d6386a07c7a70a4a8abc3f08", func := "pagemender/pagemenderlaw07.HuffLeast", spec := "huffLeast", unfollowed := true, recurses := true, apart := false }
def HuffLeastSaid : Prop := huffLeastRow.holds Try.pinned (OpenSpec.ofChange huffLeastSpec)

/-- ITS FALSE NEIGHBOUR: 'it returns false'. Refute it at one input. -/
def huffLeastWrong : ChangeSpec := { name := "huffLeast", fn := fun _ => fun
  | [d1, d2] => { results := [.lit (.bool false)], args := [d1, d2] }
  | _ => none }
def HuffLeastWrongFalsely : Prop := huffLeastRow.holds Try.pinned (OpenSpec.ofChange huffLeastWrong)

/-- 'pagemenderlaw07.HuffNames': WHATEVER THE INPUT: true; the input reads as it did. -/
def huffNamesSpec : ChangeSpec := { name := "huffNames", fn := fun _ => fun
  | [] => { results := [.lit (.bool true)], args := [] }
  | _ => none }
def huffNamesRow : OpenClaim := { program := "ytchhgbhbldfofaa", sum := "a7b2639399ea86253c70f80a8dbb7653fb27b451d6386a07c7a70a4a8abc3f08", func := "pagemender/pagemenderlaw07.HuffNames", spec := "huffNames", unfollowed := true, recurses := true, apart := false }
def HuffNamesSaid : Prop := huffNamesRow.holds Try.pinned (OpenSpec.ofChange huffNamesSpec)

/-- ITS FALSE NEIGHBOUR: 'it returns false'. Refute it at one input. -/
def huffNamesWrong : ChangeSpec := { name := "huffNames", fn := fun _ => fun
  | [] => { results := [.lit (.bool false)], args := [] }
  | _ => none }
def HuffNamesWrongFalsely : Prop := huffNamesRow.holds Try.pinned (OpenSpec.ofChange huffNamesWrong)

/-- 'pagemenderlaw07.HuffNil': WHATEVER THE INPUT: true; the input reads as it did. -/
def huffNilSpec : ChangeSpec := { name := "huffNil", fn := fun _ => fun
  | [d] => { results := [.lit (.bool true)], args := [d] }
  | _ => none }
def huffNilRow : OpenClaim := { program := "ytchhgbhbldfofaa", sum := "a7b2639399ea86253c70f80a8dbb7653fb27b451d6386a07c7a70a4a8abc3f08", func := "pagemender/pagemenderlaw07.HuffNil", spec := "huffNil", unfollowed := true, recurses := true, apart := false }
def HuffNilSaid : Prop := huffNilRow.holds Try.pinned (OpenSpec.ofChange huffNilSpec)

/-- ITS FALSE NEIGHBOUR: 'it returns false'. Refute it at one input. -/
def huffNilWrong : ChangeSpec := { name := "huffNil", fn := fun _ => fun
  | [d] => { results := [.lit (.bool false)], args := [d] }
  | _ => none }
def HuffNilWrongFalsely : Prop := huffNilRow.holds Try.pinned (OpenSpec.ofChange huffNilWrong)

/-- 'pagemenderlaw07.HuffTable': WHATEVER THE INPUT: true; the input reads as it did. -/
def huffTableSpec : ChangeSpec := { name := "huffTable", fn := fun _ => fun
  | [d1, d2, d3] => { results := [.lit (.bool true)], args := [d1, d2, d3] }
  | _ => none }
def huffTableRow : OpenClaim := { program := "ytchhgbhbldfofaa", sum := "a7b2639399ea86253c70f80a8dbb7653fb27b451d6386a07c7a70a4a8abc3f08", func := "pagemender/pagemenderlaw07.HuffTable", spec := "huffTable", unfollowed := true, recurses := true, apart := false }
def HuffTableSaid : Prop := huffTableRow.holds Try.pinned (OpenSpec.ofChange huffTableSpec)

/-- ITS FALSE NEIGHBOUR: 'it returns false'. Refute it at one input. -/
def huffTableWrong : ChangeSpec := { name := "huffTable", fn := fun _ => fun
  | [d1, d2, d3] => { results := [.lit (.bool false)], args := [d1, d2, d3] }
  | _ => none }
def HuffTableWrongFalsely : Prop := huffTableRow.holds Try.pinned (OpenSpec.ofChange huffTableWrong)

/-- 'pagemenderlaw07.HuffBack': WHATEVER THE INPUT: true; the input reads as it did. -/
def huffBackSpec : ChangeSpec := { name := "huffBack", fn := fun _ => fun
  | [d1, d2] => { results := [.lit (.bool true)], args := [d1, d2] }
  | _ => none }
def huffBackRow : OpenClaim := { program := "ytchhgbhbldfofaa", sum := "a7b2639399ea86253c70f80a8dbb7653fb27b451d6386a07c7a70a4a8abc3f08", func := "pagemender/pagemenderlaw07.HuffBack", spec := "huffBack", unfollowed := true, recurses := true, apart := false }
def HuffBackSaid : Prop := huffBackRow.holds Try.pinned (OpenSpec.ofChange huffBackSpec)

/-- ITS FALSE NEIGHBOUR: 'it returns false'. Refute it at one input. -/
def huffBackWrong : ChangeSpec := { name := "huffBack", fn := fun _ => fun
  | [d1, d2] => { results := [.lit (.bool false)], args := [d1, d2] }
  | _ => none }
def HuffBackWrongFalsely : Prop := huffBackRow.holds Try.pinned (OpenSpec.ofChange huffBackWrong)

/- THE SECOND FORM. 'bulk': how many values and letters a reading holds, each counted each time it is reached (what is shared counts as often as it is met; a slice's spare places count too). A statement '..UptoSaid' is the law's where the arguments, and the package variables that the reading takes, are together of bulk at most 1048576: NARROWER than '..Said'. Prove '..Said' where nothing that the law and all that it calls make is longer than what came in: it says more and counts as full. Else prove '..UptoSaid'. A law counts once. -/
mutual
def uptoBulk {H : Type} : DataW H → Nat
  | .lit (.string bytes) => bytes.length + 1
  | .lit _ => 1
  | .nil => 1
  | .ptr d => uptoBulk d + 1
  | .slice elems spare => uptoBulkAll elems + uptoBulkAll spare + 1
  | .agg parts => uptoBulkAll parts + 1
  | .iface _ d => uptoBulk d + 1
  | .map entries => uptoBulkEntries entries + 1
  | .held _ => 1
def uptoBulkAll {H : Type} : List (DataW H) → Nat
  | [] => 0
  | d :: r => uptoBulk d + uptoBulkAll r
def uptoBulkEntries {H : Type} : List (Lit × DataW H) → Nat
  | [] => 0
  | x :: r => uptoBulkEntry x + uptoBulkEntries r
def uptoBulkEntry {H : Type} : Lit × DataW H → Nat
  | (.string bytes, d) => bytes.length + uptoBulk d + 1
  | (_, d) => uptoBulk d + 1
 end
def uptoSmall : (H : Type) → List (DataW H) → Bool := fun _ ds => decide (uptoBulkAll ds ≤ 1048576)
def OpenSpec.upto (s : _root_.Go.ChangeSpec) : _root_.Go.OpenSpec := { _root_.Go.OpenSpec.ofChange s with cond := some uptoSmall }

/-- 'pagemenderlaw07.HuffCalls', WHERE WHAT IT READS IS OF BULK AT MOST 1048576: true; the input reads as it did. -/
def huffCallsUptoRow : OpenClaim := { program := "ytchhgbhbldfofaa", sum := "a7b2639399ea86253c70f80a8dbb7653fb27b451d6386a07c7a70a4a8abc3f08", func := "pagemender/pagemenderlaw07.HuffCalls", spec := "huffCalls", unfollowed := true, recurses := true, apart := false, narrowed := true }
def HuffCallsUptoSaid : Prop := huffCallsUptoRow.holds Try.pinned (OpenSpec.upto huffCallsSpec)

/-- 'pagemenderlaw07.HuffFree', WHERE WHAT IT READS IS OF BULK AT MOST 1048576: true; the input reads as it did. -/
def huffFreeUptoRow : OpenClaim := { program := "ytchhgbhbldfofaa", sum := "a7b2639399ea86253c70f80a8dbb7653fb27b451d6386a07c7a70a4a8abc3f08", func := "pagemender/pagemenderlaw07.HuffFree", spec := "huffFree", unfollowed := true, recurses := true, apart := false, narrowed := true }
def HuffFreeUptoSaid : Prop := huffFreeUptoRow.holds Try.pinned (OpenSpec.upto huffFreeSpec)

/-- 'pagemenderlaw07.HuffLeast', WHERE WHAT IT READS IS OF BULK AT MOST 1048576: true; the input reads as it did. -/
def huffLeastUptoRow : OpenClaim := { program := "ytchhgbhbldfofaa", sum := "a7b2639399ea86253c70f80a8dbb7653fb27b451d6386a07c7a70a4a8abc3f08", func := "pagemender/pagemenderlaw07.HuffLeast", spec := "huffLeast", unfollowed := true, recurses := true, apart := false, narrowed := true }
def HuffLeastUptoSaid : Prop := huffLeastUptoRow.holds Try.pinned (OpenSpec.upto huffLeastSpec)

/-- 'pagemenderlaw07.HuffNames', WHERE WHAT IT READS IS OF BULK AT MOST 1048576: true; the input reads as it did. -/
def huffNamesUptoRow : OpenClaim := { program := "ytchhgbhbldfofaa", sum := "a7b2639399ea86253c70f80a8dbb7653fb27b451d6386a07c7a70a4a8abc3f08", func := "pagemender/pagemenderlaw07.HuffNames", spec := "huffNames", unfollowed := true, recurses := true, apart := false, narrowed := true }
def HuffNamesUptoSaid : Prop := huffNamesUptoRow.holds Try.pinned (OpenSpec.upto huffNamesSpec)

/-- 'pagemenderlaw07.HuffNil', WHERE WHAT IT READS IS OF BULK AT MOST 1048576: true; the input reads as it did. -/
def huffNilUptoRow : OpenClaim := { program := "ytchhgbhbldfofaa", sum := "a7b2639399ea86253c70f80a8dbb7653fb27b451d6386a07c7a70a4a8abc3f08", func := "pagemender/pagemenderlaw07.HuffNil", spec := "huffNil", unfollowed := true, recurses := true, apart := false, narrowed := true }
def HuffNilUptoSaid : Prop := huffNilUptoRow.holds Try.pinned (OpenSpec.upto huffNilSpec)

/-- 'pagemenderlaw07.HuffTable', WHERE WHAT IT READS IS OF BULK AT MOST 1048576: true; the input reads as it did. -/
def huffTableUptoRow : OpenClaim := { program := "ytchhgbhbldfofaa", sum := "a7b2639399ea86253c70f80a8dbb7653fb27b451d6386a07c7a70a4a8abc3f08", func := "pagemender/pagemenderlaw07.HuffTable", spec := "huffTable", unfollowed := true, recurses := true, apart := false, narrowed := true }
def HuffTableUptoSaid : Prop := huffTableUptoRow.holds Try.pinned (OpenSpec.upto huffTableSpec)

/-- 'pagemenderlaw07.HuffBack', WHERE WHAT IT READS IS OF BULK AT MOST 1048576: true; the input reads as it did. -/
def huffBackUptoRow : OpenClaim := { program := "ytchhgbhbldfofaa", sum := "a7b2639399ea86253c70f80a8dbb7653fb27b451d6386a07c7a70a4a8abc3f08", func := "pagemender/pagemenderlaw07.HuffBack", spec := "huffBack", unfollowed := true, recurses := true, apart := false, narrowed := true }
def HuffBackUptoSaid : Prop := huffBackUptoRow.holds Try.pinned (OpenSpec.upto huffBackSpec)

end Rows
end Go.Proofs.Ytchhgbhbldfofaa
