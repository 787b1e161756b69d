/-
  NARROWER THAN 'FOR EVERY INPUT', by the rows' own cells (each row's printed sentence says how): GrantsOf: loops · GrantsUsers: loops · GrantsApart: loops · GrantsMore: loops.
  DERIVED. THE GIVEN ROWS OF THIS SEAT. 4 by the template 'for every input the law returns true; each argument reads behind the call as it read before'; 0 by the template 'total and deterministic' (their statements: YtncjgfhipflokaaTotals.lean).
  GIVEN WITH THE SEED: the statements are not yours to turn. If you find one false, say at which input.
  Laid BY PROGRAM, IN A SANDBOX (cutbox-rows.mjs): the forced cells as the released guide's own fill.sh prints them over the translation 0797f1a8ccf07b36… (all of the seat's roots in one cut). By AI agents, Wed Nov 11 2026. No macro, syntax, notation, axiom, sorry.
-/
import Derived.Test.YtncjgfhipflokaaChecked
import GoSem.Claim
import GoSem.ClaimJoined
import GoSem.ClaimMapViews
import Derived.JoinedTies
import Derived.KernelRfl
namespace Go.Proofs.Ytncjgfhipflokaa
/- THE CELL 'sum', in the pinned program and in every row, IS THE sha256 OF THE DUMP (.gsa) THAT YtncjgfhipflokaaProg.lean LOADS. Nothing in Lean hashes anything: it is a label: what it is worth is what the hold of that sum in a sandbox is worth. -/
noncomputable def Try.pinned : Pinned := { name := "ytncjgfhipflokaa", sum := "0797f1a8ccf07b36ca37e48fa457a7802956b05bd88738b978ed7c6efad7bd72", checked := Try.checked }
namespace Rows
def none {H : Type} : Left H := { results := [], args := [] }

/-- 'tidewracklaw17.GrantsOf': WHATEVER THE INPUT: true; the input reads as it did. -/
def grantsOfSpec : ChangeSpec := { name := "grantsOf", fn := fun _ => fun
  | [d1, d2, d3] => { results := [.lit (.bool true)], args := [d1, d2, d3] }
  | _ => none }
def grantsOfRow : OpenClaim := { program := "ytncjgfhipflokaa", sum := "0797f1a8ccf07b36ca37e48fa457a7802956b05bd88738b978ed7c6efad7bd72", func := "tidewrack/tidewracklaw17.GrantsOf", spec := "grantsOf", unfollowed := true, recurses := true, loops := true, apart := false }
def GrantsOfSaid : Prop := grantsOfRow.holds Try.pinned (OpenSpec.ofChange grantsOfSpec)

/-- ITS FALSE NEIGHBOUR: 'it returns false'. Refute it at one input. -/
def grantsOfWrong : ChangeSpec := { name := "grantsOf", fn := fun _ => fun
  | [d1, d2, d3] => { results := [.lit (.bool false)], args := [d1, d2, d3] }
  | _ => none }
def GrantsOfWrongFalsely : Prop := grantsOfRow.holds Try.pinned (OpenSpec.ofChange grantsOfWrong)

/-- 'tidewracklaw17.GrantsUsers': WHATEVER THE INPUT: true; the input reads as it did. -/
def grantsUsersSpec : ChangeSpec := { name := "grantsUsers", fn := fun _ => fun
  | [d1, d2] => { results := [.lit (.bool true)], args := [d1, d2] }
  | _ => none }
def grantsUsersRow : OpenClaim := { program := "ytncjgfhipflokaa", sum := "0797f1a8ccf07b36ca37e48fa457a7802956b05bd88738b978ed7c6efad7bd72", func := "tidewrack/tidewracklaw17.GrantsUsers", spec := "grantsUsers", unfollowed := true, recurses := true, loops := true, apart := false }
def GrantsUsersSaid : Prop := grantsUsersRow.holds Try.pinned (OpenSpec.ofChange grantsUsersSpec)

/-- ITS FALSE NEIGHBOUR: 'it returns false'. Refute it at one input. -/
def grantsUsersWrong : ChangeSpec := { name := "grantsUsers", fn := fun _ => fun
  | [d1, d2] => { results := [.lit (.bool false)], args := [d1, d2] }
  | _ => none }
def GrantsUsersWrongFalsely : Prop := grantsUsersRow.holds Try.pinned (OpenSpec.ofChange grantsUsersWrong)

/-- 'tidewracklaw17.GrantsApart': WHATEVER THE INPUT: true; the input reads as it did. -/
def grantsApartSpec : ChangeSpec := { name := "grantsApart", fn := fun _ => fun
  | [d1, d2, d3, d4] => { results := [.lit (.bool true)], args := [d1, d2, d3, d4] }
  | _ => none }
def grantsApartRow : OpenClaim := { program := "ytncjgfhipflokaa", sum := "0797f1a8ccf07b36ca37e48fa457a7802956b05bd88738b978ed7c6efad7bd72", func := "tidewrack/tidewracklaw17.GrantsApart", spec := "grantsApart", unfollowed := true, recurses := true, loops := true, apart := false }
def GrantsApartSaid : Prop := grantsApartRow.holds Try.pinned (OpenSpec.ofChange grantsApartSpec)

/-- ITS FALSE NEIGHBOUR: 'it returns false'. Refute it at one input. -/
def grantsApartWrong : ChangeSpec := { name := "grantsApart", fn := fun _ => fun
  | [d1, d2, d3, d4] => { results := [.lit (.bool false)], args := [d1, d2, d3, d4] }
  | _ => none }
def GrantsApartWrongFalsely : Prop := grantsApartRow.holds Try.pinned (OpenSpec.ofChange grantsApartWrong)

/-- 'tidewracklaw17.GrantsMore': WHATEVER THE INPUT: true; the input reads as it did. -/
def grantsMoreSpec : ChangeSpec := { name := "grantsMore", fn := fun _ => fun
  | [d1, d2, d3, d4] => { results := [.lit (.bool true)], args := [d1, d2, d3, d4] }
  | _ => none }
def grantsMoreRow : OpenClaim := { program := "ytncjgfhipflokaa", sum := "0797f1a8ccf07b36ca37e48fa457a7802956b05bd88738b978ed7c6efad7bd72", func := "tidewrack/tidewracklaw17.GrantsMore", spec := "grantsMore", unfollowed := true, recurses := true, loops := true, apart := false }
def GrantsMoreSaid : Prop := grantsMoreRow.holds Try.pinned (OpenSpec.ofChange grantsMoreSpec)

/-- ITS FALSE NEIGHBOUR: 'it returns false'. Refute it at one input. -/
def grantsMoreWrong : ChangeSpec := { name := "grantsMore", fn := fun _ => fun
  | [d1, d2, d3, d4] => { results := [.lit (.bool false)], args := [d1, d2, d3, d4] }
  | _ => none }
def GrantsMoreWrongFalsely : Prop := grantsMoreRow.holds Try.pinned (OpenSpec.ofChange grantsMoreWrong)

/- THE SECOND FORM. 'bulk': how many values and letters a reading holds, each counted each time it is reached (what is shared counts as often as it is met; a slice's spare places count too). A statement '..UptoSaid' is the law's where the arguments, and the package variables that the reading takes, are together of bulk at most 1048576: NARROWER than '..Said'. Prove '..Said' where nothing that the law and all that it calls make is longer than what came in: it says more and counts as full. Else prove '..UptoSaid'. A law counts once. -/
mutual
def uptoBulk {H : Type} : DataW H → Nat
  | .lit (.string bytes) => bytes.length + 1
  | .lit _ => 1
  | .nil => 1
  | .ptr d => uptoBulk d + 1
  | .slice elems spare => uptoBulkAll elems + uptoBulkAll spare + 1
  | .agg parts => uptoBulkAll parts + 1
  | .iface _ d => uptoBulk d + 1
  | .map entries => uptoBulkEntries entries + 1
  | .held _ => 1
def uptoBulkAll {H : Type} : List (DataW H) → Nat
  | [] => 0
  | d :: r => uptoBulk d + uptoBulkAll r
def uptoBulkEntries {H : Type} : List (Lit × DataW H) → Nat
  | [] => 0
  | x :: r => uptoBulkEntry x + uptoBulkEntries r
def uptoBulkEntry {H : Type} : Lit × DataW H → Nat
  | (.string bytes, d) => bytes.length + uptoBulk d + 1
  | (_, d) => uptoBulk d + 1
 end
def uptoSmall : (H : Type) → List (DataW H) → Bool := fun _ ds => decide (uptoBulkAll ds ≤ 1048576)
def OpenSpec.upto (s : _root_.Go.ChangeSpec) : _root_.Go.OpenSpec := { _root_.Go.OpenSpec.ofChange s with cond := some uptoSmall }

/-- 'tidewracklaw17.GrantsOf', WHERE WHAT IT READS IS OF BULK AT MOST 1048576: true; the input reads as it did. -/
def grantsOfUptoRow : OpenClaim := { program := "ytncjgfhipflokaa", sum := "0797f1a8ccf07b36ca37e48fa457a7802956b05bd88738b978ed7c6efad7bd72", func := "tidewrack/tidewracklaw17.GrantsOf", spec := "grantsOf", unfollowed := true, recurses := true, loops := true, apart := false, narrowed := true }
def GrantsOfUptoSaid : Prop := grantsOfUptoRow.holds Try.pinned (OpenSpec.upto grantsOfSpec)

/-- 'tidewracklaw17.GrantsUsers', WHERE WHAT IT READS IS OF BULK AT MOST 1048576: true; the input reads as it did. -/
def grantsUsersUptoRow : OpenClaim := { program := "ytncjgfhipflokaa", sum := "0797f1a8ccf07b36ca37e48fa457a7802956b05bd88738b978ed7c6efad7bd72", func := "tidewrack/tidewracklaw17.GrantsUsers", spec := "grantsUsers", unfollowed := true, recurses := true, loops := true, apart := false, narrowed := true }
def GrantsUsersUptoSaid : Prop := grantsUsersUptoRow.holds Try.pinned (OpenSpec.upto grantsUsersSpec)

/-- 'tidewracklaw17.GrantsApart', WHERE WHAT IT READS IS OF BULK AT MOST 1048576: true; the input reads as it did. -/
def grantsApartUptoRow : OpenClaim := { program := "ytncjgfhipflokaa", sum := "0797f1a8ccf07b36ca37e48fa457a7802956b05bd88738b978ed7c6efad7bd72", func := "tidewrack/tidewracklaw17.GrantsApart", spec := "grantsApart", unfollowed := true, recurses := true, loops := true, apart := false, narrowed := true }
def GrantsApartUptoSaid : Prop := grantsApartUptoRow.holds Try.pinned (OpenSpec.upto grantsApartSpec)

/-- 'tidewracklaw17.GrantsMore', WHERE WHAT IT READS IS OF BULK AT MOST 1048576: true; the input reads as it did. -/
def grantsMoreUptoRow : OpenClaim := { program := "ytncjgfhipflokaa", sum := "0797f1a8ccf07b36ca37e48fa457a7802956b05bd88738b978ed7c6efad7bd72", func := "tidewrack/tidewracklaw17.GrantsMore", spec := "grantsMore", unfollowed := true, recurses := true, loops := true, apart := false, narrowed := true }
def GrantsMoreUptoSaid : Prop := grantsMoreUptoRow.holds Try.pinned (OpenSpec.upto grantsMoreSpec)

end Rows
end Go.Proofs.Ytncjgfhipflokaa
