/-
  No cell of these rows narrows 'for every input' (looked for: loops, veiled, ifaces, maps, wideKeys, modest, calm, conditions, laid).
  DERIVED. THE GIVEN ROWS OF THIS SEAT. 6 by the template 'for every input the law returns true; each argument reads behind the call as it read before'; 0 by the template 'total and deterministic' (their statements: YtiadnmhginpgfaaTotals.lean).
  GIVEN WITH THE SEED: the statements are not yours to turn. If you find one false, say at which input.
  Laid BY PROGRAM, IN A SANDBOX (cutbox-rows.mjs): the forced cells as the released guide's own fill.sh prints them over the translation 3d28a13003a07535… (all of the seat's roots in one cut). By AI agents, Wed Nov 11 2026. No macro, syntax, notation, axiom, sorry.
-/
import Derived.Test.YtiadnmhginpgfaaChecked
import GoSem.Claim
import GoSem.ClaimJoined
import GoSem.ClaimMapViews
import Derived.JoinedTies
import Derived.KernelRfl
namespace Go.Proofs.Ytiadnmhginpgfaa
/- THE CELL 'sum', in the pinned program and in every row, IS THE sha256 OF THE DUMP (.gsa) THAT YtiadnmhginpgfaaProg.lean LOADS. Nothing in Lean hashes anything: it is a label: what it is worth is what the hold of that sum in a sandbox is worth. -/
noncomputable def Try.pinned : Pinned := { name := "ytiadnmhginpgfaa", sum := "3d28a13003a07535e976d57772c7a64a77a1e90caf42e8f5b4d34691c9f8db43", checked := Try.checked }
namespace Rows
def none {H : Type} : Left H := { results := [], args := [] }

/-- 'pagemenderlaw13.RunsJoin': WHATEVER THE INPUT: true; the input reads as it did. -/
def runsJoinSpec : ChangeSpec := { name := "runsJoin", fn := fun _ => fun
  | [d1, d2] => { results := [.lit (.bool true)], args := [d1, d2] }
  | _ => none }
def runsJoinRow : OpenClaim := { program := "ytiadnmhginpgfaa", sum := "3d28a13003a07535e976d57772c7a64a77a1e90caf42e8f5b4d34691c9f8db43", func := "pagemender/pagemenderlaw13.RunsJoin", spec := "runsJoin", inPlace := ["internal/bytealg.MakeNoZero"], unfollowed := true, recurses := true, apart := false }
def RunsJoinSaid : Prop := runsJoinRow.holds Try.pinned (OpenSpec.ofChange runsJoinSpec)

/-- ITS FALSE NEIGHBOUR: 'it returns false'. Refute it at one input. -/
def runsJoinWrong : ChangeSpec := { name := "runsJoin", fn := fun _ => fun
  | [d1, d2] => { results := [.lit (.bool false)], args := [d1, d2] }
  | _ => none }
def RunsJoinWrongFalsely : Prop := runsJoinRow.holds Try.pinned (OpenSpec.ofChange runsJoinWrong)

/-- 'pagemenderlaw13.RunsSame': WHATEVER THE INPUT: true; the input reads as it did. -/
def runsSameSpec : ChangeSpec := { name := "runsSame", fn := fun _ => fun
  | [d1, d2] => { results := [.lit (.bool true)], args := [d1, d2] }
  | _ => none }
def runsSameRow : OpenClaim := { program := "ytiadnmhginpgfaa", sum := "3d28a13003a07535e976d57772c7a64a77a1e90caf42e8f5b4d34691c9f8db43", func := "pagemender/pagemenderlaw13.RunsSame", spec := "runsSame", inPlace := ["internal/bytealg.MakeNoZero"], unfollowed := true, recurses := true, apart := false }
def RunsSameSaid : Prop := runsSameRow.holds Try.pinned (OpenSpec.ofChange runsSameSpec)

/-- ITS FALSE NEIGHBOUR: 'it returns false'. Refute it at one input. -/
def runsSameWrong : ChangeSpec := { name := "runsSame", fn := fun _ => fun
  | [d1, d2] => { results := [.lit (.bool false)], args := [d1, d2] }
  | _ => none }
def RunsSameWrongFalsely : Prop := runsSameRow.holds Try.pinned (OpenSpec.ofChange runsSameWrong)

/-- 'pagemenderlaw13.RunsPlain': WHATEVER THE INPUT: true; the input reads as it did. -/
def runsPlainSpec : ChangeSpec := { name := "runsPlain", fn := fun _ => fun
  | [d1, d2] => { results := [.lit (.bool true)], args := [d1, d2] }
  | _ => none }
def runsPlainRow : OpenClaim := { program := "ytiadnmhginpgfaa", sum := "3d28a13003a07535e976d57772c7a64a77a1e90caf42e8f5b4d34691c9f8db43", func := "pagemender/pagemenderlaw13.RunsPlain", spec := "runsPlain", inPlace := ["internal/bytealg.MakeNoZero"], unfollowed := true, recurses := true, apart := false }
def RunsPlainSaid : Prop := runsPlainRow.holds Try.pinned (OpenSpec.ofChange runsPlainSpec)

/-- ITS FALSE NEIGHBOUR: 'it returns false'. Refute it at one input. -/
def runsPlainWrong : ChangeSpec := { name := "runsPlain", fn := fun _ => fun
  | [d1, d2] => { results := [.lit (.bool false)], args := [d1, d2] }
  | _ => none }
def RunsPlainWrongFalsely : Prop := runsPlainRow.holds Try.pinned (OpenSpec.ofChange runsPlainWrong)

/-- 'pagemenderlaw13.RunsNames': WHATEVER THE INPUT: true; the input reads as it did. -/
def runsNamesSpec : ChangeSpec := { name := "runsNames", fn := fun _ => fun
  | [] => { results := [.lit (.bool true)], args := [] }
  | _ => none }
def runsNamesRow : OpenClaim := { program := "ytiadnmhginpgfaa", sum := "3d28a13003a07535e976d57772c7a64a77a1e90caf42e8f5b4d34691c9f8db43", func := "pagemender/pagemenderlaw13.RunsNames", spec := "runsNames", inPlace := ["internal/bytealg.MakeNoZero"], unfollowed := true, recurses := true, apart := false }
def RunsNamesSaid : Prop := runsNamesRow.holds Try.pinned (OpenSpec.ofChange runsNamesSpec)

/-- ITS FALSE NEIGHBOUR: 'it returns false'. Refute it at one input. -/
def runsNamesWrong : ChangeSpec := { name := "runsNames", fn := fun _ => fun
  | [] => { results := [.lit (.bool false)], args := [] }
  | _ => none }
def RunsNamesWrongFalsely : Prop := runsNamesRow.holds Try.pinned (OpenSpec.ofChange runsNamesWrong)

/-- 'pagemenderlaw13.RunsCalls': WHATEVER THE INPUT: true; the input reads as it did. -/
def runsCallsSpec : ChangeSpec := { name := "runsCalls", fn := fun _ => fun
  | [d1, d2, d3] => { results := [.lit (.bool true)], args := [d1, d2, d3] }
  | _ => none }
def runsCallsRow : OpenClaim := { program := "ytiadnmhginpgfaa", sum := "3d28a13003a07535e976d57772c7a64a77a1e90caf42e8f5b4d34691c9f8db43", func := "pagemender/pagemenderlaw13.RunsCalls", spec := "runsCalls", inPlace := ["internal/bytealg.MakeNoZero"], unfollowed := true, recurses := true, apart := false }
def RunsCallsSaid : Prop := runsCallsRow.holds Try.pinned (OpenSpec.ofChange runsCallsSpec)

/-- ITS FALSE NEIGHBOUR: 'it returns false'. Refute it at one input. -/
def runsCallsWrong : ChangeSpec := { name := "runsCalls", fn := fun _ => fun
  | [d1, d2, d3] => { results := [.lit (.bool false)], args := [d1, d2, d3] }
  | _ => none }
def RunsCallsWrongFalsely : Prop := runsCallsRow.holds Try.pinned (OpenSpec.ofChange runsCallsWrong)

/-- 'pagemenderlaw13.RunsBack': WHATEVER THE INPUT: true; the input reads as it did. -/
def runsBackSpec : ChangeSpec := { name := "runsBack", fn := fun _ => fun
  | [d1, d2] => { results := [.lit (.bool true)], args := [d1, d2] }
  | _ => none }
def runsBackRow : OpenClaim := { program := "ytiadnmhginpgfaa", sum := "3d28a13003a07535e976d57772c7a64a77a1e90caf42e8f5b4d34691c9f8db43", func := "pagemender/pagemenderlaw13.RunsBack", spec := "runsBack", inPlace := ["internal/bytealg.MakeNoZero"], unfollowed := true, recurses := true, apart := false }
def RunsBackSaid : Prop := runsBackRow.holds Try.pinned (OpenSpec.ofChange runsBackSpec)

/-- ITS FALSE NEIGHBOUR: 'it returns false'. Refute it at one input. -/
def runsBackWrong : ChangeSpec := { name := "runsBack", fn := fun _ => fun
  | [d1, d2] => { results := [.lit (.bool false)], args := [d1, d2] }
  | _ => none }
def RunsBackWrongFalsely : Prop := runsBackRow.holds Try.pinned (OpenSpec.ofChange runsBackWrong)

/- THE SECOND FORM. 'bulk': how many values and letters a reading holds, each counted each time it is reached (what is shared counts as often as it is met; a slice's spare places count too). A statement '..UptoSaid' is the law's where the arguments, and the package variables that the reading takes, are together of bulk at most 1048576: NARROWER than '..Said'. Prove '..Said' where nothing that the law and all that it calls make is longer than what came in: it says more and counts as full. Else prove '..UptoSaid'. A law counts once. -/
mutual
def uptoBulk {H : Type} : DataW H → Nat
  | .lit (.string bytes) => bytes.length + 1
  | .lit _ => 1
  | .nil => 1
  | .ptr d => uptoBulk d + 1
  | .slice elems spare => uptoBulkAll elems + uptoBulkAll spare + 1
  | .agg parts => uptoBulkAll parts + 1
  | .iface _ d => uptoBulk d + 1
  | .map entries => uptoBulkEntries entries + 1
  | .held _ => 1
def uptoBulkAll {H : Type} : List (DataW H) → Nat
  | [] => 0
  | d :: r => uptoBulk d + uptoBulkAll r
def uptoBulkEntries {H : Type} : List (Lit × DataW H) → Nat
  | [] => 0
  | x :: r => uptoBulkEntry x + uptoBulkEntries r
def uptoBulkEntry {H : Type} : Lit × DataW H → Nat
  | (.string bytes, d) => bytes.length + uptoBulk d + 1
  | (_, d) => uptoBulk d + 1
 end
def uptoSmall : (H : Type) → List (DataW H) → Bool := fun _ ds => decide (uptoBulkAll ds ≤ 1048576)
def OpenSpec.upto (s : _root_.Go.ChangeSpec) : _root_.Go.OpenSpec := { _root_.Go.OpenSpec.ofChange s with cond := some uptoSmall }

/-- 'pagemenderlaw13.RunsJoin', WHERE WHAT IT READS IS OF BULK AT MOST 1048576: true; the input reads as it did. -/
def runsJoinUptoRow : OpenClaim := { program := "ytiadnmhginpgfaa", sum := "3d28a13003a07535e976d57772c7a64a77a1e90caf42e8f5b4d34691c9f8db43", func := "pagemender/pagemenderlaw13.RunsJoin", spec := "runsJoin", inPlace := ["internal/bytealg.MakeNoZero"], unfollowed := true, recurses := true, apart := false, narrowed := true }
def RunsJoinUptoSaid : Prop := runsJoinUptoRow.holds Try.pinned (OpenSpec.upto runsJoinSpec)

/-- 'pagemenderlaw13.RunsSame', WHERE WHAT IT READS IS OF BULK AT MOST 1048576: true; the input reads as it did. -/
def runsSameUptoRow : OpenClaim := { program := "ytiadnmhginpgfaa", sum := "3d28a13003a07535e976d57772c7a64a77a1e90caf42e8f5b4d34691c9f8db43", func := "pagemender/pagemenderlaw13.RunsSame", spec := "runsSame", inPlace := ["internal/bytealg.MakeNoZero"], unfollowed := true, recurses := true, apart := false, narrowed := true }
def RunsSameUptoSaid : Prop := runsSameUptoRow.holds Try.pinned (OpenSpec.upto runsSameSpec)

/-- 'pagemenderlaw13.RunsPlain', WHERE WHAT IT READS IS OF BULK AT MOST 1048576: true; the input reads as it did. -/
def runsPlainUptoRow : OpenClaim := { program := "ytiadnmhginpgfaa", sum := "3d28a13003a07535e976d57772c7a64a77a1e90caf42e8f5b4d34691c9f8db43", func := "pagemender/pagemenderlaw13.RunsPlain", spec := "runsPlain", inPlace := ["internal/bytealg.MakeNoZero"], unfollowed := true, recurses := true, apart := false, narrowed := true }
def RunsPlainUptoSaid : Prop := runsPlainUptoRow.holds Try.pinned (OpenSpec.upto runsPlainSpec)

/-- 'pagemenderlaw13.RunsNames', WHERE WHAT IT READS IS OF BULK AT MOST 1048576: true; the input reads as it did. -/
def runsNamesUptoRow : OpenClaim := { program := "ytiadnmhginpgfaa", sum := "3d28a13003a07535e976d57772c7a64a77a1e90caf42e8f5b4d34691c9f8db43", func := "pagemender/pagemenderlaw13.RunsNames", spec := "runsNames", inPlace := ["internal/bytealg.MakeNoZero"], unfollowed := true, recurses := true, apart := false, narrowed := true }
def RunsNamesUptoSaid : Prop := runsNamesUptoRow.holds Try.pinned (OpenSpec.upto runsNamesSpec)

/-- 'pagemenderlaw13.RunsCalls', WHERE WHAT IT READS IS OF BULK AT MOST 1048576: true; the input reads as it did. -/
def runsCallsUptoRow : OpenClaim := { program := "ytiadnmhginpgfaa", sum := "3d28a13003a07535e976d57772c7a64a77a1e90caf42e8f5b4d34691c9f8db43", func := "pagemender/pagemenderlaw13.RunsCalls", spec := "runsCalls", inPlace := ["internal/bytealg.MakeNoZero"], unfollowed := true, recurses := true, apart := false, narrowed := true }
def RunsCallsUptoSaid : Prop := runsCallsUptoRow.holds Try.pinned (OpenSpec.upto runsCallsSpec)

/-- 'pagemenderlaw13.RunsBack', WHERE WHAT IT READS IS OF BULK AT MOST 1048576: true; the input reads as it did. -/
def runsBackUptoRow : OpenClaim := { program := "ytiadnmhginpgfaa", sum := "3d28a13003a07535e976d57772c7a64a77a1e90caf42e8f5b4d34691c9f8db43", func := "pagemender/pagemenderlaw13.RunsBack", spec := "runsBack", inPlace := ["internal/bytealg.MakeNoZero"], unfollowed := true, recurses := true, apart := false, narrowed := true }
def RunsBackUptoSaid : Prop := runsBackUptoRow.holds Try.pinned (OpenSpec.upto runsBackSpec)

end Rows
end Go.Proofs.Ytiadnmhginpgfaa
