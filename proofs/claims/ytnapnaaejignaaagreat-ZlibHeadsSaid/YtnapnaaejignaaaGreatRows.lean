/-
  No cell of these rows narrows 'for every input' (looked for: loops, veiled, ifaces, maps, wideKeys, modest, calm, conditions, laid).
  DERIVED. THE GIVEN ROWS OF THIS SEAT. 5 by the template 'for every input the law returns true; each argument reads behind the call as it read before'; 0 by the template 'total and deterministic' (their statements: YtnapnaaejignaaaGreatTotals.lean).
  GIVEN WITH THE SEED: the statements are not yours to turn. If you find one false, say at which input.
  Laid BY PROGRAM, IN A SANDBOX (cutbox-rows.mjs): the forced cells as the released guide's own fill.sh prints them over the translation b15ceac11616f633… (all of the seat's roots in one cut). By AI agents, Wed Nov 11 2026. No macro, syntax, notation, axiom, sorry.
-/
import Derived.Test.YtnapnaaejignaaaGreatChecked
import GoSem.Claim
import GoSem.ClaimJoined
import GoSem.ClaimMapViews
import Derived.JoinedTies
import Derived.KernelRfl
namespace Go.Proofs.YtnapnaaejignaaaGreat
/- THE CELL 'sum', in the pinned program and in every row, IS THE sha256 OF THE DUMP (.gsa) THAT YtnapnaaejignaaaGreatProg.lean LOADS. Nothing in Lean hashes anything: it is a label: what it is worth is what the hold of that sum in a sandbox is worth. -/
noncomputable def Tryz.pinned : Pinned := { name := "ytnapnaaejignaaagreat", sum := "b15ceac11616f6332294f8c41d120beb97726fc62a68fd22eb58ec695149b508", checked := Tryz.checked }
namespace Rows
def none {H : Type} : Left H := { results := [], args := [] }

/-- 'pagemenderlaw11.ZlibHeads': WHATEVER THE INPUT: true; the input reads as it did. -/
def zlibHeadsSpec : ChangeSpec := { name := "zlibHeads", fn := fun _ => fun
  | [d1, d2, d3] => { results := [.lit (.bool true)], args := [d1, d2, d3] }
  | _ => none }
def zlibHeadsRow : OpenClaim := { program := "ytnapnaaejignaaagreat", sum := "b15ceac11616f6332294f8c41d120beb97726fc62a68fd22eb58ec695149b508", func := "pagemender/pagemenderlaw11.ZlibHeads", spec := "zlibHeads", unfollowed := true, recurses := true, plainKeys := false, apart := false }
def ZlibHeadsSaid : Prop := zlibHeadsRow.holds Tryz.pinned (OpenSpec.ofChange zlibHeadsSpec)

/-- ITS FALSE NEIGHBOUR: 'it returns false'. Refute it at one input. -/
def zlibHeadsWrong : ChangeSpec := { name := "zlibHeads", fn := fun _ => fun
  | [d1, d2, d3] => { results := [.lit (.bool false)], args := [d1, d2, d3] }
  | _ => none }
def ZlibHeadsWrongFalsely : Prop := zlibHeadsRow.holds Tryz.pinned (OpenSpec.ofChange zlibHeadsWrong)

/-- 'pagemenderlaw11.ZlibNames': WHATEVER THE INPUT: true; the input reads as it did. -/
def zlibNamesSpec : ChangeSpec := { name := "zlibNames", fn := fun _ => fun
  | [] => { results := [.lit (.bool true)], args := [] }
  | _ => none }
def zlibNamesRow : OpenClaim := { program := "ytnapnaaejignaaagreat", sum := "b15ceac11616f6332294f8c41d120beb97726fc62a68fd22eb58ec695149b508", func := "pagemender/pagemenderlaw11.ZlibNames", spec := "zlibNames", unfollowed := true, recurses := true, plainKeys := false, apart := false }
def ZlibNamesSaid : Prop := zlibNamesRow.holds Tryz.pinned (OpenSpec.ofChange zlibNamesSpec)

/-- ITS FALSE NEIGHBOUR: 'it returns false'. Refute it at one input. -/
def zlibNamesWrong : ChangeSpec := { name := "zlibNames", fn := fun _ => fun
  | [] => { results := [.lit (.bool false)], args := [] }
  | _ => none }
def ZlibNamesWrongFalsely : Prop := zlibNamesRow.holds Tryz.pinned (OpenSpec.ofChange zlibNamesWrong)

/-- 'pagemenderlaw11.ZlibBack': WHATEVER THE INPUT: true; the input reads as it did. -/
def zlibBackSpec : ChangeSpec := { name := "zlibBack", fn := fun _ => fun
  | [d1, d2, d3] => { results := [.lit (.bool true)], args := [d1, d2, d3] }
  | _ => none }
def zlibBackRow : OpenClaim := { program := "ytnapnaaejignaaagreat", sum := "b15ceac11616f6332294f8c41d120beb97726fc62a68fd22eb58ec695149b508", func := "pagemender/pagemenderlaw11.ZlibBack", spec := "zlibBack", unfollowed := true, recurses := true, plainKeys := false, apart := false }
def ZlibBackSaid : Prop := zlibBackRow.holds Tryz.pinned (OpenSpec.ofChange zlibBackSpec)

/-- ITS FALSE NEIGHBOUR: 'it returns false'. Refute it at one input. -/
def zlibBackWrong : ChangeSpec := { name := "zlibBack", fn := fun _ => fun
  | [d1, d2, d3] => { results := [.lit (.bool false)], args := [d1, d2, d3] }
  | _ => none }
def ZlibBackWrongFalsely : Prop := zlibBackRow.holds Tryz.pinned (OpenSpec.ofChange zlibBackWrong)

/-- 'pagemenderlaw11.ZlibSums': WHATEVER THE INPUT: true; the input reads as it did. -/
def zlibSumsSpec : ChangeSpec := { name := "zlibSums", fn := fun _ => fun
  | [d1, d2, d3, d4] => { results := [.lit (.bool true)], args := [d1, d2, d3, d4] }
  | _ => none }
def zlibSumsRow : OpenClaim := { program := "ytnapnaaejignaaagreat", sum := "b15ceac11616f6332294f8c41d120beb97726fc62a68fd22eb58ec695149b508", func := "pagemender/pagemenderlaw11.ZlibSums", spec := "zlibSums", unfollowed := true, recurses := true, plainKeys := false, apart := false }
def ZlibSumsSaid : Prop := zlibSumsRow.holds Tryz.pinned (OpenSpec.ofChange zlibSumsSpec)

/-- ITS FALSE NEIGHBOUR: 'it returns false'. Refute it at one input. -/
def zlibSumsWrong : ChangeSpec := { name := "zlibSums", fn := fun _ => fun
  | [d1, d2, d3, d4] => { results := [.lit (.bool false)], args := [d1, d2, d3, d4] }
  | _ => none }
def ZlibSumsWrongFalsely : Prop := zlibSumsRow.holds Tryz.pinned (OpenSpec.ofChange zlibSumsWrong)

/-- 'pagemenderlaw11.ZlibBudgets': WHATEVER THE INPUT: true; the input reads as it did. -/
def zlibBudgetsSpec : ChangeSpec := { name := "zlibBudgets", fn := fun _ => fun
  | [d1, d2] => { results := [.lit (.bool true)], args := [d1, d2] }
  | _ => none }
def zlibBudgetsRow : OpenClaim := { program := "ytnapnaaejignaaagreat", sum := "b15ceac11616f6332294f8c41d120beb97726fc62a68fd22eb58ec695149b508", func := "pagemender/pagemenderlaw11.ZlibBudgets", spec := "zlibBudgets", unfollowed := true, recurses := true, plainKeys := false, apart := false }
def ZlibBudgetsSaid : Prop := zlibBudgetsRow.holds Tryz.pinned (OpenSpec.ofChange zlibBudgetsSpec)

/-- ITS FALSE NEIGHBOUR: 'it returns false'. Refute it at one input. -/
def zlibBudgetsWrong : ChangeSpec := { name := "zlibBudgets", fn := fun _ => fun
  | [d1, d2] => { results := [.lit (.bool false)], args := [d1, d2] }
  | _ => none }
def ZlibBudgetsWrongFalsely : Prop := zlibBudgetsRow.holds Tryz.pinned (OpenSpec.ofChange zlibBudgetsWrong)

/- THE SECOND FORM. 'bulk': how many values and letters a reading holds, each counted each time it is reached (what is shared counts as often as it is met; a slice's spare places count too). A statement '..UptoSaid' is the law's where the arguments, and the package variables that the reading takes, are together of bulk at most 1048576: NARROWER than '..Said'. Prove '..Said' where nothing that the law and all that it calls make is longer than what came in: it says more and counts as full. Else prove '..UptoSaid'. A law counts once. -/
mutual
def uptoBulk {H : Type} : DataW H → Nat
  | .lit (.string bytes) => bytes.length + 1
  | .lit _ => 1
  | .nil => 1
  | .ptr d => uptoBulk d + 1
  | .slice elems spare => uptoBulkAll elems + uptoBulkAll spare + 1
  | .agg parts => uptoBulkAll parts + 1
  | .iface _ d => uptoBulk d + 1
  | .map entries => uptoBulkEntries entries + 1
  | .held _ => 1
def uptoBulkAll {H : Type} : List (DataW H) → Nat
  | [] => 0
  | d :: r => uptoBulk d + uptoBulkAll r
def uptoBulkEntries {H : Type} : List (Lit × DataW H) → Nat
  | [] => 0
  | x :: r => uptoBulkEntry x + uptoBulkEntries r
def uptoBulkEntry {H : Type} : Lit × DataW H → Nat
  | (.string bytes, d) => bytes.length + uptoBulk d + 1
  | (_, d) => uptoBulk d + 1
 end
def uptoSmall : (H : Type) → List (DataW H) → Bool := fun _ ds => decide (uptoBulkAll ds ≤ 1048576)
def OpenSpec.upto (s : _root_.Go.ChangeSpec) : _root_.Go.OpenSpec := { _root_.Go.OpenSpec.ofChange s with cond := some uptoSmall }

/-- 'pagemenderlaw11.ZlibHeads', WHERE WHAT IT READS IS OF BULK AT MOST 1048576: true; the input reads as it did. -/
def zlibHeadsUptoRow : OpenClaim := { program := "ytnapnaaejignaaagreat", sum := "b15ceac11616f6332294f8c41d120beb97726fc62a68fd22eb58ec695149b508", func := "pagemender/pagemenderlaw11.ZlibHeads", spec := "zlibHeads", unfollowed := true, recurses := true, plainKeys := false, apart := false, narrowed := true }
def ZlibHeadsUptoSaid : Prop := zlibHeadsUptoRow.holds Tryz.pinned (OpenSpec.upto zlibHeadsSpec)

/-- 'pagemenderlaw11.ZlibNames', WHERE WHAT IT READS IS OF BULK AT MOST 1048576: true; the input reads as it did. -/
def zlibNamesUptoRow : OpenClaim := { program := "ytnapnaaejignaaagreat", sum := "b15ceac11616f6332294f8c41d120beb97726fc62a68fd22eb58ec695149b508", func := "pagemender/pagemenderlaw11.ZlibNames", spec := "zlibNames", unfollowed := true, recurses := true, plainKeys := false, apart := false, narrowed := true }
def ZlibNamesUptoSaid : Prop := zlibNamesUptoRow.holds Tryz.pinned (OpenSpec.upto zlibNamesSpec)

/-- 'pagemenderlaw11.ZlibBack', WHERE WHAT IT READS IS OF BULK AT MOST 1048576: true; the input reads as it did. -/
def zlibBackUptoRow : OpenClaim := { program := "ytnapnaaejignaaagreat", sum := "b15ceac11616f6332294f8c41d120beb97726fc62a68fd22eb58ec695149b508", func := "pagemender/pagemenderlaw11.ZlibBack", spec := "zlibBack", unfollowed := true, recurses := true, plainKeys := false, apart := false, narrowed := true }
def ZlibBackUptoSaid : Prop := zlibBackUptoRow.holds Tryz.pinned (OpenSpec.upto zlibBackSpec)

/-- 'pagemenderlaw11.ZlibSums', WHERE WHAT IT READS IS OF BULK AT MOST 1048576: true; the input reads as it did. -/
def zlibSumsUptoRow : OpenClaim := { program := "ytnapnaaejignaaagreat", sum := "b15ceac11616f6332294f8c41d120beb97726fc62a68fd22eb58ec695149b508", func := "pagemender/pagemenderlaw11.ZlibSums", spec := "zlibSums", unfollowed := true, recurses := true, plainKeys := false, apart := false, narrowed := true }
def ZlibSumsUptoSaid : Prop := zlibSumsUptoRow.holds Tryz.pinned (OpenSpec.upto zlibSumsSpec)

/-- 'pagemenderlaw11.ZlibBudgets', WHERE WHAT IT READS IS OF BULK AT MOST 1048576: true; the input reads as it did. -/
def zlibBudgetsUptoRow : OpenClaim := { program := "ytnapnaaejignaaagreat", sum := "b15ceac11616f6332294f8c41d120beb97726fc62a68fd22eb58ec695149b508", func := "pagemender/pagemenderlaw11.ZlibBudgets", spec := "zlibBudgets", unfollowed := true, recurses := true, plainKeys := false, apart := false, narrowed := true }
def ZlibBudgetsUptoSaid : Prop := zlibBudgetsUptoRow.holds Tryz.pinned (OpenSpec.upto zlibBudgetsSpec)

end Rows
end Go.Proofs.YtnapnaaejignaaaGreat
