/-
  No cell of these rows narrows 'for every input' (looked for: loops, veiled, ifaces, maps, wideKeys, modest, calm, conditions, laid).
  DERIVED. THE GIVEN ROWS OF THIS SEAT. 4 by the template 'for every input the law returns true; each argument reads behind the call as it read before'; 0 by the template 'total and deterministic' (their statements: YtapcfffmgdpmcaaTotals.lean).
  GIVEN WITH THE SEED: the statements are not yours to turn. If you find one false, say at which input.
  Laid BY PROGRAM, IN A SANDBOX (cutbox-rows.mjs): the forced cells as the released guide's own fill.sh prints them over the translation e215db0ae13536a8… (all of the seat's roots in one cut). By AI agents, Wed Nov 11 2026. No macro, syntax, notation, axiom, sorry.
-/
import Derived.Test.YtapcfffmgdpmcaaChecked
import GoSem.Claim
import GoSem.ClaimJoined
import GoSem.ClaimMapViews
import Derived.JoinedTies
import Derived.KernelRfl
namespace Go.Proofs.Ytapcfffmgdpmcaa
/- THE CELL 'sum', in the pinned program and in every row, IS THE sha256 OF THE DUMP (.gsa) THAT YtapcfffmgdpmcaaProg.lean LOADS. Nothing in Lean hashes anything: it is a label: what it is worth is what the hold of that sum in a sandbox is worth. -/
noncomputable def Try.pinned : Pinned := { name := "ytapcfffmgdpmcaa", sum := "e215db0ae13536a821bf4e2443c242c0f088052d4676a569945d4050bed57d8e", checked := Try.checked }
namespace Rows
def none {H : Type} : Left H := { results := [], args := [] }

/-- 'pagemenderlaw10.DeflateCounts': WHATEVER THE INPUT: true; the input reads as it did. -/
def deflateCountsSpec : ChangeSpec := { name := "deflateCounts", fn := fun _ => fun
  | [d] => { results := [.lit (.bool true)], args := [d] }
  | _ => none }
def deflateCountsRow : OpenClaim := { program := "ytapcfffmgdpmcaa", sum := "e215db0ae13536a821bf4e2443c242c0f088052d4676a569945d4050bed57d8e", func := "pagemender/pagemenderlaw10.DeflateCounts", spec := "deflateCounts", unfollowed := true, recurses := true, plainKeys := false, apart := false }
def DeflateCountsSaid : Prop := deflateCountsRow.holds Try.pinned (OpenSpec.ofChange deflateCountsSpec)

/-- ITS FALSE NEIGHBOUR: 'it returns false'. Refute it at one input. -/
def deflateCountsWrong : ChangeSpec := { name := "deflateCounts", fn := fun _ => fun
  | [d] => { results := [.lit (.bool false)], args := [d] }
  | _ => none }
def DeflateCountsWrongFalsely : Prop := deflateCountsRow.holds Try.pinned (OpenSpec.ofChange deflateCountsWrong)

/-- 'pagemenderlaw10.DeflateNames': WHATEVER THE INPUT: true; the input reads as it did. -/
def deflateNamesSpec : ChangeSpec := { name := "deflateNames", fn := fun _ => fun
  | [] => { results := [.lit (.bool true)], args := [] }
  | _ => none }
def deflateNamesRow : OpenClaim := { program := "ytapcfffmgdpmcaa", sum := "e215db0ae13536a821bf4e2443c242c0f088052d4676a569945d4050bed57d8e", func := "pagemender/pagemenderlaw10.DeflateNames", spec := "deflateNames", unfollowed := true, recurses := true, plainKeys := false, apart := false }
def DeflateNamesSaid : Prop := deflateNamesRow.holds Try.pinned (OpenSpec.ofChange deflateNamesSpec)

/-- ITS FALSE NEIGHBOUR: 'it returns false'. Refute it at one input. -/
def deflateNamesWrong : ChangeSpec := { name := "deflateNames", fn := fun _ => fun
  | [] => { results := [.lit (.bool false)], args := [] }
  | _ => none }
def DeflateNamesWrongFalsely : Prop := deflateNamesRow.holds Try.pinned (OpenSpec.ofChange deflateNamesWrong)

/-- 'pagemenderlaw10.DeflateSame': WHATEVER THE INPUT: true; the input reads as it did. -/
def deflateSameSpec : ChangeSpec := { name := "deflateSame", fn := fun _ => fun
  | [d1, d2] => { results := [.lit (.bool true)], args := [d1, d2] }
  | _ => none }
def deflateSameRow : OpenClaim := { program := "ytapcfffmgdpmcaa", sum := "e215db0ae13536a821bf4e2443c242c0f088052d4676a569945d4050bed57d8e", func := "pagemender/pagemenderlaw10.DeflateSame", spec := "deflateSame", unfollowed := true, recurses := true, plainKeys := false, apart := false }
def DeflateSameSaid : Prop := deflateSameRow.holds Try.pinned (OpenSpec.ofChange deflateSameSpec)

/-- ITS FALSE NEIGHBOUR: 'it returns false'. Refute it at one input. -/
def deflateSameWrong : ChangeSpec := { name := "deflateSame", fn := fun _ => fun
  | [d1, d2] => { results := [.lit (.bool false)], args := [d1, d2] }
  | _ => none }
def DeflateSameWrongFalsely : Prop := deflateSameRow.holds Try.pinned (OpenSpec.ofChange deflateSameWrong)

/-- 'pagemenderlaw10.DeflateBits': WHATEVER THE INPUT: true; the input reads as it did. -/
def deflateBitsSpec : ChangeSpec := { name := "deflateBits", fn := fun _ => fun
  | [d] => { results := [.lit (.bool true)], args := [d] }
  | _ => none }
def deflateBitsRow : OpenClaim := { program := "ytapcfffmgdpmcaa", sum := "e215db0ae13536a821bf4e2443c242c0f088052d4676a569945d4050bed57d8e", func := "pagemender/pagemenderlaw10.DeflateBits", spec := "deflateBits", unfollowed := true, recurses := true, plainKeys := false, apart := false }
def DeflateBitsSaid : Prop := deflateBitsRow.holds Try.pinned (OpenSpec.ofChange deflateBitsSpec)

/-- ITS FALSE NEIGHBOUR: 'it returns false'. Refute it at one input. -/
def deflateBitsWrong : ChangeSpec := { name := "deflateBits", fn := fun _ => fun
  | [d] => { results := [.lit (.bool false)], args := [d] }
  | _ => none }
def DeflateBitsWrongFalsely : Prop := deflateBitsRow.holds Try.pinned (OpenSpec.ofChange deflateBitsWrong)

/- THE SECOND FORM. 'bulk': how many values and letters a reading holds, each counted each time it is reached (what is shared counts as often as it is met; a slice's spare places count too). A statement '..UptoSaid' is the law's where the arguments, and the package variables that the reading takes, are together of bulk at most 1048576: NARROWER than '..Said'. Prove '..Said' where nothing that the law and all that it calls make is longer than what came in: it says more and counts as full. Else prove '..UptoSaid'. A law counts once. -/
mutual
def uptoBulk {H : Type} : DataW H → Nat
  | .lit (.string bytes) => bytes.length + 1
  | .lit _ => 1
  | .nil => 1
  | .ptr d => uptoBulk d + 1
  | .slice elems spare => uptoBulkAll elems + uptoBulkAll spare + 1
  | .agg parts => uptoBulkAll parts + 1
  | .iface _ d => uptoBulk d + 1
  | .map entries => uptoBulkEntries entries + 1
  | .held _ => 1
def uptoBulkAll {H : Type} : List (DataW H) → Nat
  | [] => 0
  | d :: r => uptoBulk d + uptoBulkAll r
def uptoBulkEntries {H : Type} : List (Lit × DataW H) → Nat
  | [] => 0
  | x :: r => uptoBulkEntry x + uptoBulkEntries r
def uptoBulkEntry {H : Type} : Lit × DataW H → Nat
  | (.string bytes, d) => bytes.length + uptoBulk d + 1
  | (_, d) => uptoBulk d + 1
 end
def uptoSmall : (H : Type) → List (DataW H) → Bool := fun _ ds => decide (uptoBulkAll ds ≤ 1048576)
def OpenSpec.upto (s : _root_.Go.ChangeSpec) : _root_.Go.OpenSpec := { _root_.Go.OpenSpec.ofChange s with cond := some uptoSmall }

/-- 'pagemenderlaw10.DeflateCounts', WHERE WHAT IT READS IS OF BULK AT MOST 1048576: true; the input reads as it did. -/
def deflateCountsUptoRow : OpenClaim := { program := "ytapcfffmgdpmcaa", sum := "e215db0ae13536a821bf4e2443c242c0f088052d4676a569945d4050bed57d8e", func := "pagemender/pagemenderlaw10.DeflateCounts", spec := "deflateCounts", unfollowed := true, recurses := true, plainKeys := false, apart := false, narrowed := true }
def DeflateCountsUptoSaid : Prop := deflateCountsUptoRow.holds Try.pinned (OpenSpec.upto deflateCountsSpec)

/-- 'pagemenderlaw10.DeflateNames', WHERE WHAT IT READS IS OF BULK AT MOST 1048576: true; the input reads as it did. -/
def deflateNamesUptoRow : OpenClaim := { program := "ytapcfffmgdpmcaa", sum := "e215db0ae13536a821bf4e2443c242c0f088052d4676a569945d4050bed57d8e", func := "pagemender/pagemenderlaw10.DeflateNames", spec := "deflateNames", unfollowed := true, recurses := true, plainKeys := false, apart := false, narrowed := true }
def DeflateNamesUptoSaid : Prop := deflateNamesUptoRow.holds Try.pinned (OpenSpec.upto deflateNamesSpec)

/-- 'pagemenderlaw10.DeflateSame', WHERE WHAT IT READS IS OF BULK AT MOST 1048576: true; the input reads as it did. -/
def deflateSameUptoRow : OpenClaim := { program := "ytapcfffmgdpmcaa", sum := "e215db0ae13536a821bf4e2443c242c0f088052d4676a569945d4050bed57d8e", func := "pagemender/pagemenderlaw10.DeflateSame", spec := "deflateSame", unfollowed := true, recurses := true, plainKeys := false, apart := false, narrowed := true }
def DeflateSameUptoSaid : Prop := deflateSameUptoRow.holds Try.pinned (OpenSpec.upto deflateSameSpec)

/-- 'pagemenderlaw10.DeflateBits', WHERE WHAT IT READS IS OF BULK AT MOST 1048576: true; the input reads as it did. -/
def deflateBitsUptoRow : OpenClaim := { program := "ytapcfffmgdpmcaa", sum := "e215db0ae13536a821bf4e2443c242c0f088052d4676a569945d4050bed57d8e", func := "pagemender/pagemenderlaw10.DeflateBits", spec := "deflateBits", unfollowed := true, recurses := true, plainKeys := false, apart := false, narrowed := true }
def DeflateBitsUptoSaid : Prop := deflateBitsUptoRow.holds Try.pinned (OpenSpec.upto deflateBitsSpec)

end Rows
end Go.Proofs.Ytapcfffmgdpmcaa
