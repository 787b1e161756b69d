/-
  No cell of these rows narrows 'for every input' (looked for: loops, veiled, ifaces, maps, wideKeys, modest, calm, conditions, laid).
  DERIVED. THE GIVEN ROWS OF THIS SEAT. 5 by the template 'for every input the law returns true; each argument reads behind the call as it read before'; 0 by the template 'total and deterministic' (their statements: YtnemclbeofiakaaTotals.lean).
  GIVEN WITH THE SEED: the statements are not yours to turn. If you find one false, say at which input.
  Laid BY PROGRAM, IN A SANDBOX (cutbox-rows.mjs): the forced cells as the released guide's own fill.sh prints them over the translation e36fcc59c63315e2… (all of the seat's roots in one cut). By AI agents, Wed Nov 11 2026. No macro, syntax, notation, axiom, sorry.
-/
import Derived.Test.YtnemclbeofiakaaChecked
import GoSem.Claim
import GoSem.ClaimJoined
import GoSem.ClaimMapViews
import Derived.JoinedTies
import Derived.KernelRfl
namespace Go.Proofs.Ytnemclbeofiakaa
/- THE CELL 'sum', in the pinned program and in every row, IS THE sha256 OF THE DUMP (.gsa) THAT YtnemclbeofiakaaProg.lean LOADS. Nothing in Lean hashes anything: it is a label: what it is worth is what the hold of that sum in a sandbox is worth. -/
noncomputable def Try.pinned : Pinned := { name := "ytnemclbeofiakaa", sum := "e36fcc59c63315e282149844471875956666869abbe1461bd24017316391b4b1", checked := Try.checked }
namespace Rows
def none {H : Type} : Left H := { results := [], args := [] }

/-- 'tidewracklaw03.DigestMixes': WHATEVER THE INPUT: true; the input reads as it did. -/
def digestMixesSpec : ChangeSpec := { name := "digestMixes", fn := fun _ => fun
  | [d1, d2, d3, d4] => { results := [.lit (.bool true)], args := [d1, d2, d3, d4] }
  | _ => none }
def digestMixesRow : OpenClaim := { program := "ytnemclbeofiakaa", sum := "e36fcc59c63315e282149844471875956666869abbe1461bd24017316391b4b1", func := "tidewrack/tidewracklaw03.DigestMixes", spec := "digestMixes", unfollowed := true, recurses := true, apart := false }
def DigestMixesSaid : Prop := digestMixesRow.holds Try.pinned (OpenSpec.ofChange digestMixesSpec)

/-- ITS FALSE NEIGHBOUR: 'it returns false'. Refute it at one input. -/
def digestMixesWrong : ChangeSpec := { name := "digestMixes", fn := fun _ => fun
  | [d1, d2, d3, d4] => { results := [.lit (.bool false)], args := [d1, d2, d3, d4] }
  | _ => none }
def DigestMixesWrongFalsely : Prop := digestMixesRow.holds Try.pinned (OpenSpec.ofChange digestMixesWrong)

/-- 'tidewracklaw03.DigestWrites': WHATEVER THE INPUT: true; the input reads as it did. -/
def digestWritesSpec : ChangeSpec := { name := "digestWrites", fn := fun _ => fun
  | [d1, d2] => { results := [.lit (.bool true)], args := [d1, d2] }
  | _ => none }
def digestWritesRow : OpenClaim := { program := "ytnemclbeofiakaa", sum := "e36fcc59c63315e282149844471875956666869abbe1461bd24017316391b4b1", func := "tidewrack/tidewracklaw03.DigestWrites", spec := "digestWrites", unfollowed := true, recurses := true, apart := false }
def DigestWritesSaid : Prop := digestWritesRow.holds Try.pinned (OpenSpec.ofChange digestWritesSpec)

/-- ITS FALSE NEIGHBOUR: 'it returns false'. Refute it at one input. -/
def digestWritesWrong : ChangeSpec := { name := "digestWrites", fn := fun _ => fun
  | [d1, d2] => { results := [.lit (.bool false)], args := [d1, d2] }
  | _ => none }
def DigestWritesWrongFalsely : Prop := digestWritesRow.holds Try.pinned (OpenSpec.ofChange digestWritesWrong)

/-- 'tidewracklaw03.DigestParts': WHATEVER THE INPUT: true; the input reads as it did. -/
def digestPartsSpec : ChangeSpec := { name := "digestParts", fn := fun _ => fun
  | [d1, d2, d3, d4, d5] => { results := [.lit (.bool true)], args := [d1, d2, d3, d4, d5] }
  | _ => none }
def digestPartsRow : OpenClaim := { program := "ytnemclbeofiakaa", sum := "e36fcc59c63315e282149844471875956666869abbe1461bd24017316391b4b1", func := "tidewrack/tidewracklaw03.DigestParts", spec := "digestParts", unfollowed := true, recurses := true, apart := false }
def DigestPartsSaid : Prop := digestPartsRow.holds Try.pinned (OpenSpec.ofChange digestPartsSpec)

/-- ITS FALSE NEIGHBOUR: 'it returns false'. Refute it at one input. -/
def digestPartsWrong : ChangeSpec := { name := "digestParts", fn := fun _ => fun
  | [d1, d2, d3, d4, d5] => { results := [.lit (.bool false)], args := [d1, d2, d3, d4, d5] }
  | _ => none }
def DigestPartsWrongFalsely : Prop := digestPartsRow.holds Try.pinned (OpenSpec.ofChange digestPartsWrong)

/-- 'tidewracklaw03.DigestBlocks': WHATEVER THE INPUT: true; the input reads as it did. -/
def digestBlocksSpec : ChangeSpec := { name := "digestBlocks", fn := fun _ => fun
  | [d1, d2] => { results := [.lit (.bool true)], args := [d1, d2] }
  | _ => none }
def digestBlocksRow : OpenClaim := { program := "ytnemclbeofiakaa", sum := "e36fcc59c63315e282149844471875956666869abbe1461bd24017316391b4b1", func := "tidewrack/tidewracklaw03.DigestBlocks", spec := "digestBlocks", unfollowed := true, recurses := true, apart := false }
def DigestBlocksSaid : Prop := digestBlocksRow.holds Try.pinned (OpenSpec.ofChange digestBlocksSpec)

/-- ITS FALSE NEIGHBOUR: 'it returns false'. Refute it at one input. -/
def digestBlocksWrong : ChangeSpec := { name := "digestBlocks", fn := fun _ => fun
  | [d1, d2] => { results := [.lit (.bool false)], args := [d1, d2] }
  | _ => none }
def DigestBlocksWrongFalsely : Prop := digestBlocksRow.holds Try.pinned (OpenSpec.ofChange digestBlocksWrong)

/-- 'tidewracklaw03.DigestSizes': WHATEVER THE INPUT: true; the input reads as it did. -/
def digestSizesSpec : ChangeSpec := { name := "digestSizes", fn := fun _ => fun
  | [d1, d2, d3] => { results := [.lit (.bool true)], args := [d1, d2, d3] }
  | _ => none }
def digestSizesRow : OpenClaim := { program := "ytnemclbeofiakaa", sum := "e36fcc59c63315e282149844471875956666869abbe1461bd24017316391b4b1", func := "tidewrack/tidewracklaw03.DigestSizes", spec := "digestSizes", unfollowed := true, recurses := true, apart := false }
def DigestSizesSaid : Prop := digestSizesRow.holds Try.pinned (OpenSpec.ofChange digestSizesSpec)

/-- ITS FALSE NEIGHBOUR: 'it returns false'. Refute it at one input. -/
def digestSizesWrong : ChangeSpec := { name := "digestSizes", fn := fun _ => fun
  | [d1, d2, d3] => { results := [.lit (.bool false)], args := [d1, d2, d3] }
  | _ => none }
def DigestSizesWrongFalsely : Prop := digestSizesRow.holds Try.pinned (OpenSpec.ofChange digestSizesWrong)

/- THE SECOND FORM. 'bulk': how many values and letters a reading holds, each counted each time it is reached (what is shared counts as often as it is met; a slice's spare places count too). A statement '..UptoSaid' is the law's where the arguments, and the package variables that the reading takes, are together of bulk at most 1048576: NARROWER than '..Said'. Prove '..Said' where nothing that the law and all that it calls make is longer than what came in: it says more and counts as full. Else prove '..UptoSaid'. A law counts once. -/
mutual
def uptoBulk {H : Type} : DataW H → Nat
  | .lit (.string bytes) => bytes.length + 1
  | .lit _ => 1
  | .nil => 1
  | .ptr d => uptoBulk d + 1
  | .slice elems spare => uptoBulkAll elems + uptoBulkAll spare + 1
  | .agg parts => uptoBulkAll parts + 1
  | .iface _ d => uptoBulk d + 1
  | .map entries => uptoBulkEntries entries + 1
  | .held _ => 1
def uptoBulkAll {H : Type} : List (DataW H) → Nat
  | [] => 0
  | d :: r => uptoBulk d + uptoBulkAll r
def uptoBulkEntries {H : Type} : List (Lit × DataW H) → Nat
  | [] => 0
  | x :: r => uptoBulkEntry x + uptoBulkEntries r
def uptoBulkEntry {H : Type} : Lit × DataW H → Nat
  | (.string bytes, d) => bytes.length + uptoBulk d + 1
  | (_, d) => uptoBulk d + 1
 end
def uptoSmall : (H : Type) → List (DataW H) → Bool := fun _ ds => decide (uptoBulkAll ds ≤ 1048576)
def OpenSpec.upto (s : _root_.Go.ChangeSpec) : _root_.Go.OpenSpec := { _root_.Go.OpenSpec.ofChange s with cond := some uptoSmall }

/-- 'tidewracklaw03.DigestMixes', WHERE WHAT IT READS IS OF BULK AT MOST 1048576: true; the input reads as it did. -/
def digestMixesUptoRow : OpenClaim := { program := "ytnemclbeofiakaa", sum := "e36fcc59c63315e282149844471875956666869abbe1461bd24017316391b4b1", func := "tidewrack/tidewracklaw03.DigestMixes", spec := "digestMixes", unfollowed := true, recurses := true, apart := false, narrowed := true }
def DigestMixesUptoSaid : Prop := digestMixesUptoRow.holds Try.pinned (OpenSpec.upto digestMixesSpec)

/-- 'tidewracklaw03.DigestWrites', WHERE WHAT IT READS IS OF BULK AT MOST 1048576: true; the input reads as it did. -/
def digestWritesUptoRow : OpenClaim := { program := "ytnemclbeofiakaa", sum := "e36fcc59c63315e282149844471875956666869abbe1461bd24017316391b4b1", func := "tidewrack/tidewracklaw03.DigestWrites", spec := "digestWrites", unfollowed := true, recurses := true, apart := false, narrowed := true }
def DigestWritesUptoSaid : Prop := digestWritesUptoRow.holds Try.pinned (OpenSpec.upto digestWritesSpec)

/-- 'tidewracklaw03.DigestParts', WHERE WHAT IT READS IS OF BULK AT MOST 1048576: true; the input reads as it did. -/
def digestPartsUptoRow : OpenClaim := { program := "ytnemclbeofiakaa", sum := "e36fcc59c63315e282149844471875956666869abbe1461bd24017316391b4b1", func := "tidewrack/tidewracklaw03.DigestParts", spec := "digestParts", unfollowed := true, recurses := true, apart := false, narrowed := true }
def DigestPartsUptoSaid : Prop := digestPartsUptoRow.holds Try.pinned (OpenSpec.upto digestPartsSpec)

/-- 'tidewracklaw03.DigestBlocks', WHERE WHAT IT READS IS OF BULK AT MOST 1048576: true; the input reads as it did. -/
def digestBlocksUptoRow : OpenClaim := { program := "ytnemclbeofiakaa", sum := "e36fcc59c63315e282149844471875956666869abbe1461bd24017316391b4b1", func := "tidewrack/tidewracklaw03.DigestBlocks", spec := "digestBlocks", unfollowed := true, recurses := true, apart := false, narrowed := true }
def DigestBlocksUptoSaid : Prop := digestBlocksUptoRow.holds Try.pinned (OpenSpec.upto digestBlocksSpec)

/-- 'tidewracklaw03.DigestSizes', WHERE WHAT IT READS IS OF BULK AT MOST 1048576: true; the input reads as it did. -/
def digestSizesUptoRow : OpenClaim := { program := "ytnemclbeofiakaa", sum := "e36fcc59c63315e282149844471875956666869abbe1461bd24017316391b4b1", func := "tidewrack/tidewracklaw03.DigestSizes", spec := "digestSizes", unfollowed := true, recurses := true, apart := false, narrowed := true }
def DigestSizesUptoSaid : Prop := digestSizesUptoRow.holds Try.pinned (OpenSpec.upto digestSizesSpec)

end Rows
end Go.Proofs.Ytnemclbeofiakaa
