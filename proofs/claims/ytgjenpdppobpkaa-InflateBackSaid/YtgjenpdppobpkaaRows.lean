/-
  No cell of these rows narrows 'for every input' (looked for: loops, veiled, ifaces, maps, wideKeys, modest, calm, conditions, laid).
  DERIVED. THE GIVEN ROWS OF THIS SEAT. 6 by the template 'for every input the law returns true; each argument reads behind the call as it read before'; 0 by the template 'total and deterministic' (their statements: YtgjenpdppobpkaaTotals.lean).
  GIVEN WITH THE SEED: the statements are not yours to turn. If you find one false, say at which input.
  Laid BY PROGRAM, IN A SANDBOX (cutbox-rows.mjs): the forced cells as the released guide's own fill.sh prints them over the translation 9c580d43bd9d2b66… (all of the seat's roots in one cut). By AI agents, Wed Nov 11 2026. No macro, syntax, notation, axiom, sorry.
-/
import Derived.Test.YtgjenpdppobpkaaChecked
import GoSem.Claim
import GoSem.ClaimJoined
import GoSem.ClaimMapViews
import Derived.JoinedTies
import Derived.KernelRfl
namespace Go.Proofs.Ytgjenpdppobpkaa
/- THE CELL 'sum', in the pinned program and in every row, IS THE sha256 OF THE DUMP (.gsa) THAT YtgjenpdppobpkaaProg.lean LOADS. Nothing in Lean hashes anything: it is a label: what it is worth is what the hold of that sum in a sandbox is worth. -/
noncomputable def Try.pinned : Pinned := { name := "ytgjenpdppobpkaa", sum := "9c580d43bd9d2b6640c37f7eef42bad5f1fe4f546157e97f731276277b7cd06c", checked := Try.checked }
namespace Rows
def none {H : Type} : Left H := { results := [], args := [] }

/-- 'pagemenderlaw08.InflateBack': WHATEVER THE INPUT: true; the input reads as it did. -/
def inflateBackSpec : ChangeSpec := { name := "inflateBack", fn := fun _ => fun
  | [d1, d2, d3] => { results := [.lit (.bool true)], args := [d1, d2, d3] }
  | _ => none }
def inflateBackRow : OpenClaim := { program := "ytgjenpdppobpkaa", sum := "9c580d43bd9d2b6640c37f7eef42bad5f1fe4f546157e97f731276277b7cd06c", func := "pagemender/pagemenderlaw08.InflateBack", spec := "inflateBack", unfollowed := true, recurses := true, apart := false }
def InflateBackSaid : Prop := inflateBackRow.holds Try.pinned (OpenSpec.ofChange inflateBackSpec)

/-- ITS FALSE NEIGHBOUR: 'it returns false'. Refute it at one input. -/
def inflateBackWrong : ChangeSpec := { name := "inflateBack", fn := fun _ => fun
  | [d1, d2, d3] => { results := [.lit (.bool false)], args := [d1, d2, d3] }
  | _ => none }
def InflateBackWrongFalsely : Prop := inflateBackRow.holds Try.pinned (OpenSpec.ofChange inflateBackWrong)

/-- 'pagemenderlaw08.InflateCuts': WHATEVER THE INPUT: true; the input reads as it did. -/
def inflateCutsSpec : ChangeSpec := { name := "inflateCuts", fn := fun _ => fun
  | [d1, d2, d3, d4] => { results := [.lit (.bool true)], args := [d1, d2, d3, d4] }
  | _ => none }
def inflateCutsRow : OpenClaim := { program := "ytgjenpdppobpkaa", sum := "9c580d43bd9d2b6640c37f7eef42bad5f1fe4f546157e97f731276277b7cd06c", func := "pagemender/pagemenderlaw08.InflateCuts", spec := "inflateCuts", unfollowed := true, recurses := true, apart := false }
def InflateCutsSaid : Prop := inflateCutsRow.holds Try.pinned (OpenSpec.ofChange inflateCutsSpec)

/-- ITS FALSE NEIGHBOUR: 'it returns false'. Refute it at one input. -/
def inflateCutsWrong : ChangeSpec := { name := "inflateCuts", fn := fun _ => fun
  | [d1, d2, d3, d4] => { results := [.lit (.bool false)], args := [d1, d2, d3, d4] }
  | _ => none }
def InflateCutsWrongFalsely : Prop := inflateCutsRow.holds Try.pinned (OpenSpec.ofChange inflateCutsWrong)

/-- 'pagemenderlaw08.InflateBlocks': WHATEVER THE INPUT: true; the input reads as it did. -/
def inflateBlocksSpec : ChangeSpec := { name := "inflateBlocks", fn := fun _ => fun
  | [d1, d2] => { results := [.lit (.bool true)], args := [d1, d2] }
  | _ => none }
def inflateBlocksRow : OpenClaim := { program := "ytgjenpdppobpkaa", sum := "9c580d43bd9d2b6640c37f7eef42bad5f1fe4f546157e97f731276277b7cd06c", func := "pagemender/pagemenderlaw08.InflateBlocks", spec := "inflateBlocks", unfollowed := true, recurses := true, apart := false }
def InflateBlocksSaid : Prop := inflateBlocksRow.holds Try.pinned (OpenSpec.ofChange inflateBlocksSpec)

/-- ITS FALSE NEIGHBOUR: 'it returns false'. Refute it at one input. -/
def inflateBlocksWrong : ChangeSpec := { name := "inflateBlocks", fn := fun _ => fun
  | [d1, d2] => { results := [.lit (.bool false)], args := [d1, d2] }
  | _ => none }
def InflateBlocksWrongFalsely : Prop := inflateBlocksRow.holds Try.pinned (OpenSpec.ofChange inflateBlocksWrong)

/-- 'pagemenderlaw08.InflateNames': WHATEVER THE INPUT: true; the input reads as it did. -/
def inflateNamesSpec : ChangeSpec := { name := "inflateNames", fn := fun _ => fun
  | [] => { results := [.lit (.bool true)], args := [] }
  | _ => none }
def inflateNamesRow : OpenClaim := { program := "ytgjenpdppobpkaa", sum := "9c580d43bd9d2b6640c37f7eef42bad5f1fe4f546157e97f731276277b7cd06c", func := "pagemender/pagemenderlaw08.InflateNames", spec := "inflateNames", unfollowed := true, recurses := true, apart := false }
def InflateNamesSaid : Prop := inflateNamesRow.holds Try.pinned (OpenSpec.ofChange inflateNamesSpec)

/-- ITS FALSE NEIGHBOUR: 'it returns false'. Refute it at one input. -/
def inflateNamesWrong : ChangeSpec := { name := "inflateNames", fn := fun _ => fun
  | [] => { results := [.lit (.bool false)], args := [] }
  | _ => none }
def InflateNamesWrongFalsely : Prop := inflateNamesRow.holds Try.pinned (OpenSpec.ofChange inflateNamesWrong)

/-- 'pagemenderlaw08.InflateCalls': WHATEVER THE INPUT: true; the input reads as it did. -/
def inflateCallsSpec : ChangeSpec := { name := "inflateCalls", fn := fun _ => fun
  | [d1, d2, d3, d4] => { results := [.lit (.bool true)], args := [d1, d2, d3, d4] }
  | _ => none }
def inflateCallsRow : OpenClaim := { program := "ytgjenpdppobpkaa", sum := "9c580d43bd9d2b6640c37f7eef42bad5f1fe4f546157e97f731276277b7cd06c", func := "pagemender/pagemenderlaw08.InflateCalls", spec := "inflateCalls", unfollowed := true, recurses := true, apart := false }
def InflateCallsSaid : Prop := inflateCallsRow.holds Try.pinned (OpenSpec.ofChange inflateCallsSpec)

/-- ITS FALSE NEIGHBOUR: 'it returns false'. Refute it at one input. -/
def inflateCallsWrong : ChangeSpec := { name := "inflateCalls", fn := fun _ => fun
  | [d1, d2, d3, d4] => { results := [.lit (.bool false)], args := [d1, d2, d3, d4] }
  | _ => none }
def InflateCallsWrongFalsely : Prop := inflateCallsRow.holds Try.pinned (OpenSpec.ofChange inflateCallsWrong)

/-- 'pagemenderlaw08.InflateSymbols': WHATEVER THE INPUT: true; the input reads as it did. -/
def inflateSymbolsSpec : ChangeSpec := { name := "inflateSymbols", fn := fun _ => fun
  | [d] => { results := [.lit (.bool true)], args := [d] }
  | _ => none }
def inflateSymbolsRow : OpenClaim := { program := "ytgjenpdppobpkaa", sum := "9c580d43bd9d2b6640c37f7eef42bad5f1fe4f546157e97f731276277b7cd06c", func := "pagemender/pagemenderlaw08.InflateSymbols", spec := "inflateSymbols", unfollowed := true, recurses := true, apart := false }
def InflateSymbolsSaid : Prop := inflateSymbolsRow.holds Try.pinned (OpenSpec.ofChange inflateSymbolsSpec)

/-- ITS FALSE NEIGHBOUR: 'it returns false'. Refute it at one input. -/
def inflateSymbolsWrong : ChangeSpec := { name := "inflateSymbols", fn := fun _ => fun
  | [d] => { results := [.lit (.bool false)], args := [d] }
  | _ => none }
def InflateSymbolsWrongFalsely : Prop := inflateSymbolsRow.holds Try.pinned (OpenSpec.ofChange inflateSymbolsWrong)

/- THE SECOND FORM. 'bulk': how many values and letters a reading holds, each counted each time it is reached (what is shared counts as often as it is met; a slice's spare places count too). A statement '..UptoSaid' is the law's where the arguments, and the package variables that the reading takes, are together of bulk at most 1048576: NARROWER than '..Said'. Prove '..Said' where nothing that the law and all that it calls make is longer than what came in: it says more and counts as full. Else prove '..UptoSaid'. A law counts once. -/
mutual
def uptoBulk {H : Type} : DataW H → Nat
  | .lit (.string bytes) => bytes.length + 1
  | .lit _ => 1
  | .nil => 1
  | .ptr d => uptoBulk d + 1
  | .slice elems spare => uptoBulkAll elems + uptoBulkAll spare + 1
  | .agg parts => uptoBulkAll parts + 1
  | .iface _ d => uptoBulk d + 1
  | .map entries => uptoBulkEntries entries + 1
  | .held _ => 1
def uptoBulkAll {H : Type} : List (DataW H) → Nat
  | [] => 0
  | d :: r => uptoBulk d + uptoBulkAll r
def uptoBulkEntries {H : Type} : List (Lit × DataW H) → Nat
  | [] => 0
  | x :: r => uptoBulkEntry x + uptoBulkEntries r
def uptoBulkEntry {H : Type} : Lit × DataW H → Nat
  | (.string bytes, d) => bytes.length + uptoBulk d + 1
  | (_, d) => uptoBulk d + 1
 end
def uptoSmall : (H : Type) → List (DataW H) → Bool := fun _ ds => decide (uptoBulkAll ds ≤ 1048576)
def OpenSpec.upto (s : _root_.Go.ChangeSpec) : _root_.Go.OpenSpec := { _root_.Go.OpenSpec.ofChange s with cond := some uptoSmall }

/-- 'pagemenderlaw08.InflateBack', WHERE WHAT IT READS IS OF BULK AT MOST 1048576: true; the input reads as it did. -/
def inflateBackUptoRow : OpenClaim := { program := "ytgjenpdppobpkaa", sum := "9c580d43bd9d2b6640c37f7eef42bad5f1fe4f546157e97f731276277b7cd06c", func := "pagemender/pagemenderlaw08.InflateBack", spec := "inflateBack", unfollowed := true, recurses := true, apart := false, narrowed := true }
def InflateBackUptoSaid : Prop := inflateBackUptoRow.holds Try.pinned (OpenSpec.upto inflateBackSpec)

/-- 'pagemenderlaw08.InflateCuts', WHERE WHAT IT READS IS OF BULK AT MOST 1048576: true; the input reads as it did. -/
def inflateCutsUptoRow : OpenClaim := { program := "ytgjenpdppobpkaa", sum := "9c580d43bd9d2b6640c37f7eef42bad5f1fe4f546157e97f731276277b7cd06c", func := "pagemender/pagemenderlaw08.InflateCuts", spec := "inflateCuts", unfollowed := true, recurses := true, apart := false, narrowed := true }
def InflateCutsUptoSaid : Prop := inflateCutsUptoRow.holds Try.pinned (OpenSpec.upto inflateCutsSpec)

/-- 'pagemenderlaw08.InflateBlocks', WHERE WHAT IT READS IS OF BULK AT MOST 1048576: true; the input reads as it did. -/
def inflateBlocksUptoRow : OpenClaim := { program := "ytgjenpdppobpkaa", sum := "9c580d43bd9d2b6640c37f7eef42bad5f1fe4f546157e97f731276277b7cd06c", func := "pagemender/pagemenderlaw08.InflateBlocks", spec := "inflateBlocks", unfollowed := true, recurses := true, apart := false, narrowed := true }
def InflateBlocksUptoSaid : Prop := inflateBlocksUptoRow.holds Try.pinned (OpenSpec.upto inflateBlocksSpec)

/-- 'pagemenderlaw08.InflateNames', WHERE WHAT IT READS IS OF BULK AT MOST 1048576: true; the input reads as it did. -/
def inflateNamesUptoRow : OpenClaim := { program := "ytgjenpdppobpkaa", sum := "9c580d43bd9d2b6640c37f7eef42bad5f1fe4f546157e97f731276277b7cd06c", func := "pagemender/pagemenderlaw08.InflateNames", spec := "inflateNames", unfollowed := true, recurses := true, apart := false, narrowed := true }
def InflateNamesUptoSaid : Prop := inflateNamesUptoRow.holds Try.pinned (OpenSpec.upto inflateNamesSpec)

/-- 'pagemenderlaw08.InflateCalls', WHERE WHAT IT READS IS OF BULK AT MOST 1048576: true; the input reads as it did. -/
def inflateCallsUptoRow : OpenClaim := { program := "ytgjenpdppobpkaa", sum := "9c580d43bd9d2b6640c37f7eef42bad5f1fe4f546157e97f731276277b7cd06c", func := "pagemender/pagemenderlaw08.InflateCalls", spec := "inflateCalls", unfollowed := true, recurses := true, apart := false, narrowed := true }
def InflateCallsUptoSaid : Prop := inflateCallsUptoRow.holds Try.pinned (OpenSpec.upto inflateCallsSpec)

/-- 'pagemenderlaw08.InflateSymbols', WHERE WHAT IT READS IS OF BULK AT MOST 1048576: true; the input reads as it did. -/
def inflateSymbolsUptoRow : OpenClaim := { program := "ytgjenpdppobpkaa", sum := "9c580d43bd9d2b6640c37f7eef42bad5f1fe4f546157e97f731276277b7cd06c", func := "pagemender/pagemenderlaw08.InflateSymbols", spec := "inflateSymbols", unfollowed := true, recurses := true, apart := false, narrowed := true }
def InflateSymbolsUptoSaid : Prop := inflateSymbolsUptoRow.holds Try.pinned (OpenSpec.upto inflateSymbolsSpec)

end Rows
end Go.Proofs.Ytgjenpdppobpkaa
