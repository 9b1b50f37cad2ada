/-
  No cell of these rows narrows 'for every input' (looked for: loops, veiled, ifaces, maps, wideKeys, modest, calm, conditions, laid).
  DERIVED. THE GIVEN ROWS OF THIS SEAT. 6 by the template 'for every input the law returns true; each argument reads behind the call as it read before'; 0 by the template 'total and deterministic' (their statements: YtngfhnpelchplaaTotals.lean).
  GIVEN WITH THE SEED: the statements are not yours to turn. If you find one false, say at which input.
  Laid BY PROGRAM, IN A SANDBOX (cutbox-rows.mjs): the forced cells as the released guide's own fill.sh prints them over the translation 95deb7f14e79c5b6… (all of the seat's roots in one cut). By AI agents, Wed Nov 11 2026. No macro, syntax, notation, axiom, sorry.
-/
import Derived.Test.YtngfhnpelchplaaChecked
import GoSem.Claim
import GoSem.ClaimJoined
import GoSem.ClaimMapViews
import Derived.JoinedTies
import Derived.KernelRfl
namespace Go.Proofs.Ytngfhnpelchplaa
/- THE CELL 'sum', in the pinned program and in every row, IS THE sha256 OF THE DUMP (.gsa) THAT YtngfhnpelchplaaProg.lean LOADS. Nothing in Lean hashes anything: it is a label: what it is worth is what the hold of that sum in a sandbox is worth. -/
noncomputable def Try.pinned : Pinned := { name := "ytngfhnpelchplaa", sum := "95deb7f14e79c5b67cc121f705c001f7e1e25c6b7a89e18ac2c573b3a474f43d", checked := Try.checked }
namespace Rows
def none {H : Type} : Left H := { results := [], args := [] }

/-- 'pagemenderlaw09.MatchBack': WHATEVER THE INPUT: true; the input reads as it did. -/
def matchBackSpec : ChangeSpec := { name := "matchBack", fn := fun _ => fun
  | [d] => { results := [.lit (.bool true)], args := [d] }
  | _ => none }
def matchBackRow : OpenClaim := { program := "ytngfhnpelchplaa", sum := "95deb7f14e79c5b67cc121f705c001f7e1e25c6b7a89e18ac2c573b3a474f43d", func := "pagemender/pagemenderlaw09.MatchBack", spec := "matchBack", unfollowed := true, recurses := true, plainKeys := false, apart := false }
def MatchBackSaid : Prop := matchBackRow.holds Try.pinned (OpenSpec.ofChange matchBackSpec)

/-- ITS FALSE NEIGHBOUR: 'it returns false'. Refute it at one input. -/
def matchBackWrong : ChangeSpec := { name := "matchBack", fn := fun _ => fun
  | [d] => { results := [.lit (.bool false)], args := [d] }
  | _ => none }
def MatchBackWrongFalsely : Prop := matchBackRow.holds Try.pinned (OpenSpec.ofChange matchBackWrong)

/-- 'pagemenderlaw09.MatchTimes': WHATEVER THE INPUT: true; the input reads as it did. -/
def matchTimesSpec : ChangeSpec := { name := "matchTimes", fn := fun _ => fun
  | [d1, d2] => { results := [.lit (.bool true)], args := [d1, d2] }
  | _ => none }
def matchTimesRow : OpenClaim := { program := "ytngfhnpelchplaa", sum := "95deb7f14e79c5b67cc121f705c001f7e1e25c6b7a89e18ac2c573b3a474f43d", func := "pagemender/pagemenderlaw09.MatchTimes", spec := "matchTimes", unfollowed := true, recurses := true, plainKeys := false, apart := false }
def MatchTimesSaid : Prop := matchTimesRow.holds Try.pinned (OpenSpec.ofChange matchTimesSpec)

/-- ITS FALSE NEIGHBOUR: 'it returns false'. Refute it at one input. -/
def matchTimesWrong : ChangeSpec := { name := "matchTimes", fn := fun _ => fun
  | [d1, d2] => { results := [.lit (.bool false)], args := [d1, d2] }
  | _ => none }
def MatchTimesWrongFalsely : Prop := matchTimesRow.holds Try.pinned (OpenSpec.ofChange matchTimesWrong)

/-- 'pagemenderlaw09.MatchFirst': WHATEVER THE INPUT: true; the input reads as it did. -/
def matchFirstSpec : ChangeSpec := { name := "matchFirst", fn := fun _ => fun
  | [d1, d2] => { results := [.lit (.bool true)], args := [d1, d2] }
  | _ => none }
def matchFirstRow : OpenClaim := { program := "ytngfhnpelchplaa", sum := "95deb7f14e79c5b67cc121f705c001f7e1e25c6b7a89e18ac2c573b3a474f43d", func := "pagemender/pagemenderlaw09.MatchFirst", spec := "matchFirst", unfollowed := true, recurses := true, plainKeys := false, apart := false }
def MatchFirstSaid : Prop := matchFirstRow.holds Try.pinned (OpenSpec.ofChange matchFirstSpec)

/-- ITS FALSE NEIGHBOUR: 'it returns false'. Refute it at one input. -/
def matchFirstWrong : ChangeSpec := { name := "matchFirst", fn := fun _ => fun
  | [d1, d2] => { results := [.lit (.bool false)], args := [d1, d2] }
  | _ => none }
def MatchFirstWrongFalsely : Prop := matchFirstRow.holds Try.pinned (OpenSpec.ofChange matchFirstWrong)

/-- 'pagemenderlaw09.MatchNames': WHATEVER THE INPUT: true; the input reads as it did. -/
def matchNamesSpec : ChangeSpec := { name := "matchNames", fn := fun _ => fun
  | [] => { results := [.lit (.bool true)], args := [] }
  | _ => none }
def matchNamesRow : OpenClaim := { program := "ytngfhnpelchplaa", sum := "95deb7f14e79c5b67cc121f705c001f7e1e25c6b7a89e18ac2c573b3a474f43d", func := "pagemender/pagemenderlaw09.MatchNames", spec := "matchNames", unfollowed := true, recurses := true, plainKeys := false, apart := false }
def MatchNamesSaid : Prop := matchNamesRow.holds Try.pinned (OpenSpec.ofChange matchNamesSpec)

/-- ITS FALSE NEIGHBOUR: 'it returns false'. Refute it at one input. -/
def matchNamesWrong : ChangeSpec := { name := "matchNames", fn := fun _ => fun
  | [] => { results := [.lit (.bool false)], args := [] }
  | _ => none }
def MatchNamesWrongFalsely : Prop := matchNamesRow.holds Try.pinned (OpenSpec.ofChange matchNamesWrong)

/-- 'pagemenderlaw09.MatchCalls': WHATEVER THE INPUT: true; the input reads as it did. -/
def matchCallsSpec : ChangeSpec := { name := "matchCalls", fn := fun _ => fun
  | [d1, d2, d3, d4] => { results := [.lit (.bool true)], args := [d1, d2, d3, d4] }
  | _ => none }
def matchCallsRow : OpenClaim := { program := "ytngfhnpelchplaa", sum := "95deb7f14e79c5b67cc121f705c001f7e1e25c6b7a89e18ac2c573b3a474f43d", func := "pagemender/pagemenderlaw09.MatchCalls", spec := "matchCalls", unfollowed := true, recurses := true, plainKeys := false, apart := false }
def MatchCallsSaid : Prop := matchCallsRow.holds Try.pinned (OpenSpec.ofChange matchCallsSpec)

/-- ITS FALSE NEIGHBOUR: 'it returns false'. Refute it at one input. -/
def matchCallsWrong : ChangeSpec := { name := "matchCalls", fn := fun _ => fun
  | [d1, d2, d3, d4] => { results := [.lit (.bool false)], args := [d1, d2, d3, d4] }
  | _ => none }
def MatchCallsWrongFalsely : Prop := matchCallsRow.holds Try.pinned (OpenSpec.ofChange matchCallsWrong)

/-- 'pagemenderlaw09.MatchLongest': WHATEVER THE INPUT: true; the input reads as it did. -/
def matchLongestSpec : ChangeSpec := { name := "matchLongest", fn := fun _ => fun
  | [d1, d2, d3] => { results := [.lit (.bool true)], args := [d1, d2, d3] }
  | _ => none }
def matchLongestRow : OpenClaim := { program := "ytngfhnpelchplaa", sum := "95deb7f14e79c5b67cc121f705c001f7e1e25c6b7a89e18ac2c573b3a474f43d", func := "pagemender/pagemenderlaw09.MatchLongest", spec := "matchLongest", unfollowed := true, recurses := true, plainKeys := false, apart := false }
def MatchLongestSaid : Prop := matchLongestRow.holds Try.pinned (OpenSpec.ofChange matchLongestSpec)

/-- ITS FALSE NEIGHBOUR: 'it returns false'. Refute it at one input. -/
def matchLongestWrong : ChangeSpec := { name := "matchLongest", fn := fun _ => fun
  | [d1, d2, d3] => { results := [.lit (.bool false)], args := [d1, d2, d3] }
  | _ => none }
def MatchLongestWrongFalsely : Prop := matchLongestRow.holds Try.pinned (OpenSpec.ofChange matchLongestWrong)

/- THE SECOND FORM. 'bulk': how many values and letters a reading holds, each counted each time it is reached (what is shared counts as often as it is met; a slice's spare places count too). A statement '..UptoSaid' is the law's where the arguments, and the package variables that the reading takes, are together of bulk at most 1048576: NARROWER than '..Said'. Prove '..Said' where nothing that the law and all that it calls make is longer than what came in: it says more and counts as full. Else prove '..UptoSaid'. A law counts once. -/
mutual
def uptoBulk {H : Type} : DataW H → Nat
  | .lit (.string bytes) => bytes.length + 1
  | .lit _ => 1
  | .nil => 1
  | .ptr d => uptoBulk d + 1
  | .slice elems spare => uptoBulkAll elems + uptoBulkAll spare + 1
  | .agg parts => uptoBulkAll parts + 1
  | .iface _ d => uptoBulk d + 1
  | .map entries => uptoBulkEntries entries + 1
  | .held _ => 1
def uptoBulkAll {H : Type} : List (DataW H) → Nat
  | [] => 0
  | d :: r => uptoBulk d + uptoBulkAll r
def uptoBulkEntries {H : Type} : List (Lit × DataW H) → Nat
  | [] => 0
  | x :: r => uptoBulkEntry x + uptoBulkEntries r
def uptoBulkEntry {H : Type} : Lit × DataW H → Nat
  | (.string bytes, d) => bytes.length + uptoBulk d + 1
  | (_, d) => uptoBulk d + 1
 end
def uptoSmall : (H : Type) → List (DataW H) → Bool := fun _ ds => decide (uptoBulkAll ds ≤ 1048576)
def OpenSpec.upto (s : _root_.Go.ChangeSpec) : _root_.Go.OpenSpec := { _root_.Go.OpenSpec.ofChange s with cond := some uptoSmall }

/-- 'pagemenderlaw09.MatchBack', WHERE WHAT IT READS IS OF BULK AT MOST 1048576: true; the input reads as it did. -/
def matchBackUptoRow : OpenClaim := { program := "ytngfhnpelchplaa", sum := "95deb7f14e79c5b67cc121f705c001f7e1e25c6b7a89e18ac2c573b3a474f43d", func := "pagemender/pagemenderlaw09.MatchBack", spec := "matchBack", unfollowed := true, recurses := true, plainKeys := false, apart := false, narrowed := true }
def MatchBackUptoSaid : Prop := matchBackUptoRow.holds Try.pinned (OpenSpec.upto matchBackSpec)

/-- 'pagemenderlaw09.MatchTimes', WHERE WHAT IT READS IS OF BULK AT MOST 1048576: true; the input reads as it did. -/
def matchTimesUptoRow : OpenClaim := { program := "ytngfhnpelchplaa", sum := "95deb7f14e79c5b67cc121f705c001f7e1e25c6b7a89e18ac2c573b3a474f43d", func := "pagemender/pagemenderlaw09.MatchTimes", spec := "matchTimes", unfollowed := true, recurses := true, plainKeys := false, apart := false, narrowed := true }
def MatchTimesUptoSaid : Prop := matchTimesUptoRow.holds Try.pinned (OpenSpec.upto matchTimesSpec)

/-- 'pagemenderlaw09.MatchFirst', WHERE WHAT IT READS IS OF BULK AT MOST 1048576: true; the input reads as it did. -/
def matchFirstUptoRow : OpenClaim := { program := "ytngfhnpelchplaa", sum := "95deb7f14e79c5b67cc121f705c001f7e1e25c6b7a89e18ac2c573b3a474f43d", func := "pagemender/pagemenderlaw09.MatchFirst", spec := "matchFirst", unfollowed := true, recurses := true, plainKeys := false, apart := false, narrowed := true }
def MatchFirstUptoSaid : Prop := matchFirstUptoRow.holds Try.pinned (OpenSpec.upto matchFirstSpec)

/-- 'pagemenderlaw09.MatchNames', WHERE WHAT IT READS IS OF BULK AT MOST 1048576: true; the input reads as it did. -/
def matchNamesUptoRow : OpenClaim := { program := "ytngfhnpelchplaa", sum := "95deb7f14e79c5b67cc121f705c001f7e1e25c6b7a89e18ac2c573b3a474f43d", func := "pagemender/pagemenderlaw09.MatchNames", spec := "matchNames", unfollowed := true, recurses := true, plainKeys := false, apart := false, narrowed := true }
def MatchNamesUptoSaid : Prop := matchNamesUptoRow.holds Try.pinned (OpenSpec.upto matchNamesSpec)

/-- 'pagemenderlaw09.MatchCalls', WHERE WHAT IT READS IS OF BULK AT MOST 1048576: true; the input reads as it did. -/
def matchCallsUptoRow : OpenClaim := { program := "ytngfhnpelchplaa", sum := "95deb7f14e79c5b67cc121f705c001f7e1e25c6b7a89e18ac2c573b3a474f43d", func := "pagemender/pagemenderlaw09.MatchCalls", spec := "matchCalls", unfollowed := true, recurses := true, plainKeys := false, apart := false, narrowed := true }
def MatchCallsUptoSaid : Prop := matchCallsUptoRow.holds Try.pinned (OpenSpec.upto matchCallsSpec)

/-- 'pagemenderlaw09.MatchLongest', WHERE WHAT IT READS IS OF BULK AT MOST 1048576: true; the input reads as it did. -/
def matchLongestUptoRow : OpenClaim := { program := "ytngfhnpelchplaa", sum := "95deb7f14e79c5b67cc121f705c001f7e1e25c6b7a89e18ac2c573b3a474f43d", func := "pagemender/pagemenderlaw09.MatchLongest", spec := "matchLongest", unfollowed := true, recurses := true, plainKeys := false, apart := false, narrowed := true }
def MatchLongestUptoSaid : Prop := matchLongestUptoRow.holds Try.pinned (OpenSpec.upto matchLongestSpec)

end Rows
end Go.Proofs.Ytngfhnpelchplaa
