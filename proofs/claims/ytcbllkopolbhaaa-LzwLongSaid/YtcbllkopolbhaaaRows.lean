/-
  No cell of these rows narrows 'for every input' (looked for: loops, veiled, ifaces, maps, wideKeys, modest, calm, conditions, laid).
  DERIVED. THE GIVEN ROWS OF THIS SEAT. 6 by the template 'for every input the law returns true; each argument reads behind the call as it read before'; 0 by the template 'total and deterministic' (their statements: YtcbllkopolbhaaaTotals.lean).
  GIVEN WITH THE SEED: the statements are not yours to turn. If you find one false, say at which input.
  Laid BY PROGRAM, IN A SANDBOX (cutbox-rows.mjs): the forced cells as the released guide's own fill.sh prints them over the translation fe128bbb438badbb… (all of the seat's roots in one cut). By AI agents, Wed Nov 11 2026. No macro, syntax, notation, axiom, sorry.
-/
import Derived.Test.YtcbllkopolbhaaaChecked
import GoSem.Claim
import GoSem.ClaimJoined
import GoSem.ClaimMapViews
import Derived.JoinedTies
import Derived.KernelRfl
namespace Go.Proofs.Ytcbllkopolbhaaa
/- THE CELL 'sum', in the pinned program and in every row, IS THE sha256 OF THE DUMP (.gsa) THAT YtcbllkopolbhaaaProg.lean LOADS. Nothing in Lean hashes anything: it is a label: what it is worth is what the hold of that sum in a sandbox is worth. -/
noncomputable def Try.pinned : Pinned := { name := "ytcbllkopolbhaaa", sum := "fe128bbb438badbba67d89dc66daea054ab28a1aad69a5029ebb8cebd2c47af7", checked := Try.checked }
namespace Rows
def none {H : Type} : Left H := { results := [], args := [] }

/-- 'pagemenderlaw14.LzwWidths': WHATEVER THE INPUT: true; the input reads as it did. -/
def lzwWidthsSpec : ChangeSpec := { name := "lzwWidths", fn := fun _ => fun
  | [d] => { results := [.lit (.bool true)], args := [d] }
  | _ => none }
def lzwWidthsRow : OpenClaim := { program := "ytcbllkopolbhaaa", sum := "fe128bbb438badbba67d89dc66daea054ab28a1aad69a5029ebb8cebd2c47af7", func := "pagemender/pagemenderlaw14.LzwWidths", spec := "lzwWidths", unfollowed := true, recurses := true, plainKeys := false, apart := false }
def LzwWidthsSaid : Prop := lzwWidthsRow.holds Try.pinned (OpenSpec.ofChange lzwWidthsSpec)

/-- ITS FALSE NEIGHBOUR: 'it returns false'. Refute it at one input. -/
def lzwWidthsWrong : ChangeSpec := { name := "lzwWidths", fn := fun _ => fun
  | [d] => { results := [.lit (.bool false)], args := [d] }
  | _ => none }
def LzwWidthsWrongFalsely : Prop := lzwWidthsRow.holds Try.pinned (OpenSpec.ofChange lzwWidthsWrong)

/-- 'pagemenderlaw14.LzwNames': WHATEVER THE INPUT: true; the input reads as it did. -/
def lzwNamesSpec : ChangeSpec := { name := "lzwNames", fn := fun _ => fun
  | [] => { results := [.lit (.bool true)], args := [] }
  | _ => none }
def lzwNamesRow : OpenClaim := { program := "ytcbllkopolbhaaa", sum := "fe128bbb438badbba67d89dc66daea054ab28a1aad69a5029ebb8cebd2c47af7", func := "pagemender/pagemenderlaw14.LzwNames", spec := "lzwNames", unfollowed := true, recurses := true, plainKeys := false, apart := false }
def LzwNamesSaid : Prop := lzwNamesRow.holds Try.pinned (OpenSpec.ofChange lzwNamesSpec)

/-- ITS FALSE NEIGHBOUR: 'it returns false'. Refute it at one input. -/
def lzwNamesWrong : ChangeSpec := { name := "lzwNames", fn := fun _ => fun
  | [] => { results := [.lit (.bool false)], args := [] }
  | _ => none }
def LzwNamesWrongFalsely : Prop := lzwNamesRow.holds Try.pinned (OpenSpec.ofChange lzwNamesWrong)

/-- 'pagemenderlaw14.LzwCalls': WHATEVER THE INPUT: true; the input reads as it did. -/
def lzwCallsSpec : ChangeSpec := { name := "lzwCalls", fn := fun _ => fun
  | [d1, d2, d3, d4] => { results := [.lit (.bool true)], args := [d1, d2, d3, d4] }
  | _ => none }
def lzwCallsRow : OpenClaim := { program := "ytcbllkopolbhaaa", sum := "fe128bbb438badbba67d89dc66daea054ab28a1aad69a5029ebb8cebd2c47af7", func := "pagemender/pagemenderlaw14.LzwCalls", spec := "lzwCalls", unfollowed := true, recurses := true, plainKeys := false, apart := false }
def LzwCallsSaid : Prop := lzwCallsRow.holds Try.pinned (OpenSpec.ofChange lzwCallsSpec)

/-- ITS FALSE NEIGHBOUR: 'it returns false'. Refute it at one input. -/
def lzwCallsWrong : ChangeSpec := { name := "lzwCalls", fn := fun _ => fun
  | [d1, d2, d3, d4] => { results := [.lit (.bool false)], args := [d1, d2, d3, d4] }
  | _ => none }
def LzwCallsWrongFalsely : Prop := lzwCallsRow.holds Try.pinned (OpenSpec.ofChange lzwCallsWrong)

/-- 'pagemenderlaw14.LzwBack': WHATEVER THE INPUT: true; the input reads as it did. -/
def lzwBackSpec : ChangeSpec := { name := "lzwBack", fn := fun _ => fun
  | [d1, d2, d3] => { results := [.lit (.bool true)], args := [d1, d2, d3] }
  | _ => none }
def lzwBackRow : OpenClaim := { program := "ytcbllkopolbhaaa", sum := "fe128bbb438badbba67d89dc66daea054ab28a1aad69a5029ebb8cebd2c47af7", func := "pagemender/pagemenderlaw14.LzwBack", spec := "lzwBack", unfollowed := true, recurses := true, plainKeys := false, apart := false }
def LzwBackSaid : Prop := lzwBackRow.holds Try.pinned (OpenSpec.ofChange lzwBackSpec)

/-- ITS FALSE NEIGHBOUR: 'it returns false'. Refute it at one input. -/
def lzwBackWrong : ChangeSpec := { name := "lzwBack", fn := fun _ => fun
  | [d1, d2, d3] => { results := [.lit (.bool false)], args := [d1, d2, d3] }
  | _ => none }
def LzwBackWrongFalsely : Prop := lzwBackRow.holds Try.pinned (OpenSpec.ofChange lzwBackWrong)

/-- 'pagemenderlaw14.LzwLong': WHATEVER THE INPUT: true; the input reads as it did. -/
def lzwLongSpec : ChangeSpec := { name := "lzwLong", fn := fun _ => fun
  | [d1, d2, d3] => { results := [.lit (.bool true)], args := [d1, d2, d3] }
  | _ => none }
def lzwLongRow : OpenClaim := { program := "ytcbllkopolbhaaa", sum := "fe128bbb438badbba67d89dc66daea054ab28a1aad69a5029ebb8cebd2c47af7", func := "pagemender/pagemenderlaw14.LzwLong", spec := "lzwLong", unfollowed := true, recurses := true, plainKeys := false, apart := false }
def LzwLongSaid : Prop := lzwLongRow.holds Try.pinned (OpenSpec.ofChange lzwLongSpec)

/-- ITS FALSE NEIGHBOUR: 'it returns false'. Refute it at one input. -/
def lzwLongWrong : ChangeSpec := { name := "lzwLong", fn := fun _ => fun
  | [d1, d2, d3] => { results := [.lit (.bool false)], args := [d1, d2, d3] }
  | _ => none }
def LzwLongWrongFalsely : Prop := lzwLongRow.holds Try.pinned (OpenSpec.ofChange lzwLongWrong)

/-- 'pagemenderlaw14.LzwCuts': WHATEVER THE INPUT: true; the input reads as it did. -/
def lzwCutsSpec : ChangeSpec := { name := "lzwCuts", fn := fun _ => fun
  | [d1, d2, d3, d4] => { results := [.lit (.bool true)], args := [d1, d2, d3, d4] }
  | _ => none }
def lzwCutsRow : OpenClaim := { program := "ytcbllkopolbhaaa", sum := "fe128bbb438badbba67d89dc66daea054ab28a1aad69a5029ebb8cebd2c47af7", func := "pagemender/pagemenderlaw14.LzwCuts", spec := "lzwCuts", unfollowed := true, recurses := true, plainKeys := false, apart := false }
def LzwCutsSaid : Prop := lzwCutsRow.holds Try.pinned (OpenSpec.ofChange lzwCutsSpec)

/-- ITS FALSE NEIGHBOUR: 'it returns false'. Refute it at one input. -/
def lzwCutsWrong : ChangeSpec := { name := "lzwCuts", fn := fun _ => fun
  | [d1, d2, d3, d4] => { results := [.lit (.bool false)], args := [d1, d2, d3, d4] }
  | _ => none }
def LzwCutsWrongFalsely : Prop := lzwCutsRow.holds Try.pinned (OpenSpec.ofChange lzwCutsWrong)

/- THE SECOND FORM. 'bulk': how many values and letters a reading holds, each counted each time it is reached (what is shared counts as often as it is met; a slice's spare places count too). A statement '..UptoSaid' is the law's where the arguments, and the package variables that the reading takes, are together of bulk at most 1048576: NARROWER than '..Said'. Prove '..Said' where nothing that the law and all that it calls make is longer than what came in: it says more and counts as full. Else prove '..UptoSaid'. A law counts once. -/
mutual
def uptoBulk {H : Type} : DataW H → Nat
  | .lit (.string bytes) => bytes.length + 1
  | .lit _ => 1
  | .nil => 1
  | .ptr d => uptoBulk d + 1
  | .slice elems spare => uptoBulkAll elems + uptoBulkAll spare + 1
  | .agg parts => uptoBulkAll parts + 1
  | .iface _ d => uptoBulk d + 1
  | .map entries => uptoBulkEntries entries + 1
  | .held _ => 1
def uptoBulkAll {H : Type} : List (DataW H) → Nat
  | [] => 0
  | d :: r => uptoBulk d + uptoBulkAll r
def uptoBulkEntries {H : Type} : List (Lit × DataW H) → Nat
  | [] => 0
  | x :: r => uptoBulkEntry x + uptoBulkEntries r
def uptoBulkEntry {H : Type} : Lit × DataW H → Nat
  | (.string bytes, d) => bytes.length + uptoBulk d + 1
  | (_, d) => uptoBulk d + 1
 end
def uptoSmall : (H : Type) → List (DataW H) → Bool := fun _ ds => decide (uptoBulkAll ds ≤ 1048576)
def OpenSpec.upto (s : _root_.Go.ChangeSpec) : _root_.Go.OpenSpec := { _root_.Go.OpenSpec.ofChange s with cond := some uptoSmall }

/-- 'pagemenderlaw14.LzwWidths', WHERE WHAT IT READS IS OF BULK AT MOST 1048576: true; the input reads as it did. -/
def lzwWidthsUptoRow : OpenClaim := { program := "ytcbllkopolbhaaa", sum := "fe128bbb438badbba67d89dc66daea054ab28a1aad69a5029ebb8cebd2c47af7", func := "pagemender/pagemenderlaw14.LzwWidths", spec := "lzwWidths", unfollowed := true, recurses := true, plainKeys := false, apart := false, narrowed := true }
def LzwWidthsUptoSaid : Prop := lzwWidthsUptoRow.holds Try.pinned (OpenSpec.upto lzwWidthsSpec)

/-- 'pagemenderlaw14.LzwNames', WHERE WHAT IT READS IS OF BULK AT MOST 1048576: true; the input reads as it did. -/
def lzwNamesUptoRow : OpenClaim := { program := "ytcbllkopolbhaaa", sum := "fe128bbb438badbba67d89dc66daea054ab28a1aad69a5029ebb8cebd2c47af7", func := "pagemender/pagemenderlaw14.LzwNames", spec := "lzwNames", unfollowed := true, recurses := true, plainKeys := false, apart := false, narrowed := true }
def LzwNamesUptoSaid : Prop := lzwNamesUptoRow.holds Try.pinned (OpenSpec.upto lzwNamesSpec)

/-- 'pagemenderlaw14.LzwCalls', WHERE WHAT IT READS IS OF BULK AT MOST 1048576: true; the input reads as it did. -/
def lzwCallsUptoRow : OpenClaim := { program := "ytcbllkopolbhaaa", sum := "fe128bbb438badbba67d89dc66daea054ab28a1aad69a5029ebb8cebd2c47af7", func := "pagemender/pagemenderlaw14.LzwCalls", spec := "lzwCalls", unfollowed := true, recurses := true, plainKeys := false, apart := false, narrowed := true }
def LzwCallsUptoSaid : Prop := lzwCallsUptoRow.holds Try.pinned (OpenSpec.upto lzwCallsSpec)

/-- 'pagemenderlaw14.LzwBack', WHERE WHAT IT READS IS OF BULK AT MOST 1048576: true; the input reads as it did. -/
def lzwBackUptoRow : OpenClaim := { program := "ytcbllkopolbhaaa", sum := "fe128bbb438badbba67d89dc66daea054ab28a1aad69a5029ebb8cebd2c47af7", func := "pagemender/pagemenderlaw14.LzwBack", spec := "lzwBack", unfollowed := true, recurses := true, plainKeys := false, apart := false, narrowed := true }
def LzwBackUptoSaid : Prop := lzwBackUptoRow.holds Try.pinned (OpenSpec.upto lzwBackSpec)

/-- 'pagemenderlaw14.LzwLong', WHERE WHAT IT READS IS OF BULK AT MOST 1048576: true; the input reads as it did. -/
def lzwLongUptoRow : OpenClaim := { program := "ytcbllkopolbhaaa", sum := "fe128bbb438badbba67d89dc66daea054ab28a1aad69a5029ebb8cebd2c47af7", func := "pagemender/pagemenderlaw14.LzwLong", spec := "lzwLong", unfollowed := true, recurses := true, plainKeys := false, apart := false, narrowed := true }
def LzwLongUptoSaid : Prop := lzwLongUptoRow.holds Try.pinned (OpenSpec.upto lzwLongSpec)

/-- 'pagemenderlaw14.LzwCuts', WHERE WHAT IT READS IS OF BULK AT MOST 1048576: true; the input reads as it did. -/
def lzwCutsUptoRow : OpenClaim := { program := "ytcbllkopolbhaaa", sum := "fe128bbb438badbba67d89dc66daea054ab28a1aad69a5029ebb8cebd2c47af7", func := "pagemender/pagemenderlaw14.LzwCuts", spec := "lzwCuts", unfollowed := true, recurses := true, plainKeys := false, apart := false, narrowed := true }
def LzwCutsUptoSaid : Prop := lzwCutsUptoRow.holds Try.pinned (OpenSpec.upto lzwCutsSpec)

end Rows
end Go.Proofs.Ytcbllkopolbhaaa
