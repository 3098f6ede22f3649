/-
  No cell of these rows narrows 'for every input' (looked for: loops, veiled, ifaces, maps, wideKeys, modest, calm, conditions, laid).
  DERIVED. THE GIVEN ROWS OF THIS SEAT. 2 by the template 'for every input the law returns true; each argument reads behind the call as it read before'; 0 by the template 'total and deterministic' (their statements: YtkaiiopoilpjeaaTotals.lean).
  GIVEN WITH THE SEED: the statements are not yours to turn. If you find one false, say at which input.
  Laid BY PROGRAM, IN A SANDBOX (cutbox-rows.mjs): the forced cells as the released guide's own fill.sh prints them over the translation e993bf02e8ca0fdd… (all of the seat's roots in one cut). By AI agents, Wed Nov 11 2026. No macro, syntax, notation, axiom, sorry.
-/
import Derived.Test.YtkaiiopoilpjeaaChecked
import GoSem.Claim
import GoSem.ClaimJoined
import GoSem.ClaimMapViews
import Derived.JoinedTies
import Derived.KernelRfl
namespace Go.Proofs.Ytkaiiopoilpjeaa
/- THE CELL 'sum', in the pinned program and in every row, IS THE sha256 OF THE DUMP (.gsa) THAT YtkaiiopoilpjeaaProg.lean LOADS. Nothing in Lean hashes anything: it is a label: what it is worth is what the hold of that sum in a sandbox is worth. -/
noncomputable def Try.pinned : Pinned := { name := "ytkaiiopoilpjeaa", sum := "e993bf02e8ca0fddc274026a797077be3bc024ed13e04e95c93d43a48c63b5d9", checked := Try.checked }
namespace Rows
def none {H : Type} : Left H := { results := [], args := [] }

/-- 'woodcutlaw19.SnapMany': WHATEVER THE INPUT: true; the input reads as it did. -/
def snapManySpec : ChangeSpec := { name := "snapMany", fn := fun _ => fun
  | [d] => { results := [.lit (.bool true)], args := [d] }
  | _ => none }
def snapManyRow : OpenClaim := { program := "ytkaiiopoilpjeaa", sum := "e993bf02e8ca0fddc274026a797077be3bc024ed13e04e95c93d43a48c63b5d9", func := "woodcut/woodcutlaw19.SnapMany", spec := "snapMany", unfollowed := true, recurses := true, apart := false }
def SnapManySaid : Prop := snapManyRow.holds Try.pinned (OpenSpec.ofChange snapManySpec)

/-- ITS FALSE NEIGHBOUR: 'it returns false'. Refute it at one input. -/
def snapManyWrong : ChangeSpec := { name := "snapMany", fn := fun _ => fun
  | [d] => { results := [.lit (.bool false)], args := [d] }
  | _ => none }
def SnapManyWrongFalsely : Prop := snapManyRow.holds Try.pinned (OpenSpec.ofChange snapManyWrong)

/-- 'woodcutlaw19.SnapLists': WHATEVER THE INPUT: true; the input reads as it did. -/
def snapListsSpec : ChangeSpec := { name := "snapLists", fn := fun _ => fun
  | [d1, d2, d3] => { results := [.lit (.bool true)], args := [d1, d2, d3] }
  | _ => none }
def snapListsRow : OpenClaim := { program := "ytkaiiopoilpjeaa", sum := "e993bf02e8ca0fddc274026a797077be3bc024ed13e04e95c93d43a48c63b5d9", func := "woodcut/woodcutlaw19.SnapLists", spec := "snapLists", unfollowed := true, recurses := true, apart := false }
def SnapListsSaid : Prop := snapListsRow.holds Try.pinned (OpenSpec.ofChange snapListsSpec)

/-- ITS FALSE NEIGHBOUR: 'it returns false'. Refute it at one input. -/
def snapListsWrong : ChangeSpec := { name := "snapLists", fn := fun _ => fun
  | [d1, d2, d3] => { results := [.lit (.bool false)], args := [d1, d2, d3] }
  | _ => none }
def SnapListsWrongFalsely : Prop := snapListsRow.holds Try.pinned (OpenSpec.ofChange snapListsWrong)

/- THE SECOND FORM. 'bulk': how many values and letters a reading holds, each counted each time it is reached (what is shared counts as often as it is met; a slice's spare places count too). A statement '..UptoSaid' is the law's where the arguments, and the package variables that the reading takes, are together of bulk at most 1048576: NARROWER than '..Said'. Prove '..Said' where nothing that the law and all that it calls make is longer than what came in: it says more and counts as full. Else prove '..UptoSaid'. A law counts once. -/
mutual
def uptoBulk {H : Type} : DataW H → Nat
  | .lit (.string bytes) => bytes.length + 1
  | .lit _ => 1
  | .nil => 1
  | .ptr d => uptoBulk d + 1
  | .slice elems spare => uptoBulkAll elems + uptoBulkAll spare + 1
  | .agg parts => uptoBulkAll parts + 1
  | .iface _ d => uptoBulk d + 1
  | .map entries => uptoBulkEntries entries + 1
  | .held _ => 1
def uptoBulkAll {H : Type} : List (DataW H) → Nat
  | [] => 0
  | d :: r => uptoBulk d + uptoBulkAll r
def uptoBulkEntries {H : Type} : List (Lit × DataW H) → Nat
  | [] => 0
  | x :: r => uptoBulkEntry x + uptoBulkEntries r
def uptoBulkEntry {H : Type} : Lit × DataW H → Nat
  | (.string bytes, d) => bytes.length + uptoBulk d + 1
  | (_, d) => uptoBulk d + 1
 end
def uptoSmall : (H : Type) → List (DataW H) → Bool := fun _ ds => decide (uptoBulkAll ds ≤ 1048576)
def OpenSpec.upto (s : _root_.Go.ChangeSpec) : _root_.Go.OpenSpec := { _root_.Go.OpenSpec.ofChange s with cond := some uptoSmall }

/-- 'woodcutlaw19.SnapMany', WHERE WHAT IT READS IS OF BULK AT MOST 1048576: true; the input reads as it did. -/
def snapManyUptoRow : OpenClaim := { program := "ytkaiiopoilpjeaa", sum := "e993bf02e8ca0fddc274026a797077be3bc024ed13e04e95c93d43a48c63b5d9", func := "woodcut/woodcutlaw19.SnapMany", spec := "snapMany", unfollowed := true, recurses := true, apart := false, narrowed := true }
def SnapManyUptoSaid : Prop := snapManyUptoRow.holds Try.pinned (OpenSpec.upto snapManySpec)

/-- 'woodcutlaw19.SnapLists', WHERE WHAT IT READS IS OF BULK AT MOST 1048576: true; the input reads as it did. -/
def snapListsUptoRow : OpenClaim := { program := "ytkaiiopoilpjeaa", sum := "e993bf02e8ca0fddc274026a797077be3bc024ed13e04e95c93d43a48c63b5d9", func := "woodcut/woodcutlaw19.SnapLists", spec := "snapLists", unfollowed := true, recurses := true, apart := false, narrowed := true }
def SnapListsUptoSaid : Prop := snapListsUptoRow.holds Try.pinned (OpenSpec.upto snapListsSpec)

end Rows
end Go.Proofs.Ytkaiiopoilpjeaa
