/-
  No cell of these rows narrows 'for every input' (looked for: loops, veiled, ifaces, maps, wideKeys, modest, calm, conditions, laid).
  DERIVED. THE GIVEN ROWS OF THIS SEAT. 8 by the template 'for every input the law returns true; each argument reads behind the call as it read before'; 0 by the template 'total and deterministic' (their statements: YtkpndfkpdnknkaaGreatTotals.lean).
  GIVEN WITH THE SEED: the statements are not yours to turn. If you find one false, say at which input.
  Laid BY PROGRAM, IN A SANDBOX (cutbox-rows.mjs): the forced cells as the released guide's own fill.sh prints them over the translation 06eba31eb8c94bf3… (all of the seat's roots in one cut). By AI agents, Wed Nov 11 2026. No macro, syntax, notation, axiom, sorry.
-/
import Derived.Test.YtkpndfkpdnknkaaGreatChecked
import GoSem.Claim
import GoSem.ClaimJoined
import GoSem.ClaimMapViews
import Derived.JoinedTies
import Derived.KernelRfl
namespace Go.Proofs.YtkpndfkpdnknkaaGreat
/- THE CELL 'sum', in the pinned program and in every row, IS THE sha256 OF THE DUMP (.gsa) THAT YtkpndfkpdnknkaaGreatProg.lean LOADS. Nothing in Lean hashes anything: it is a label: what it is worth is what the hold of that sum in a sandbox is worth. -/
noncomputable def Tryz.pinned : Pinned := { name := "ytkpndfkpdnknkaagreat", sum := "06eba31eb8c94bf3c3248c570937524ff31ade881808bea01bc60d7d74b16b1f", checked := Tryz.checked }
namespace Rows
def none {H : Type} : Left H := { results := [], args := [] }

/-- 'woodcutlaw18.HeadFull': WHATEVER THE INPUT: true; the input reads as it did. -/
def headFullSpec : ChangeSpec := { name := "headFull", fn := fun _ => fun
  | [d1, d2] => { results := [.lit (.bool true)], args := [d1, d2] }
  | _ => none }
def headFullRow : OpenClaim := { program := "ytkpndfkpdnknkaagreat", sum := "06eba31eb8c94bf3c3248c570937524ff31ade881808bea01bc60d7d74b16b1f", func := "woodcut/woodcutlaw18.HeadFull", spec := "headFull", unfollowed := true, recurses := true, apart := false }
def HeadFullSaid : Prop := headFullRow.holds Tryz.pinned (OpenSpec.ofChange headFullSpec)

/-- ITS FALSE NEIGHBOUR: 'it returns false'. Refute it at one input. -/
def headFullWrong : ChangeSpec := { name := "headFull", fn := fun _ => fun
  | [d1, d2] => { results := [.lit (.bool false)], args := [d1, d2] }
  | _ => none }
def HeadFullWrongFalsely : Prop := headFullRow.holds Tryz.pinned (OpenSpec.ofChange headFullWrong)

/-- 'woodcutlaw18.HeadExact': WHATEVER THE INPUT: true; the input reads as it did. -/
def headExactSpec : ChangeSpec := { name := "headExact", fn := fun _ => fun
  | [d1, d2, d3, d4, d5, d6] => { results := [.lit (.bool true)], args := [d1, d2, d3, d4, d5, d6] }
  | _ => none }
def headExactRow : OpenClaim := { program := "ytkpndfkpdnknkaagreat", sum := "06eba31eb8c94bf3c3248c570937524ff31ade881808bea01bc60d7d74b16b1f", func := "woodcut/woodcutlaw18.HeadExact", spec := "headExact", unfollowed := true, recurses := true, apart := false }
def HeadExactSaid : Prop := headExactRow.holds Tryz.pinned (OpenSpec.ofChange headExactSpec)

/-- ITS FALSE NEIGHBOUR: 'it returns false'. Refute it at one input. -/
def headExactWrong : ChangeSpec := { name := "headExact", fn := fun _ => fun
  | [d1, d2, d3, d4, d5, d6] => { results := [.lit (.bool false)], args := [d1, d2, d3, d4, d5, d6] }
  | _ => none }
def HeadExactWrongFalsely : Prop := headExactRow.holds Tryz.pinned (OpenSpec.ofChange headExactWrong)

/-- 'woodcutlaw18.HeadBounds': WHATEVER THE INPUT: true; the input reads as it did. -/
def headBoundsSpec : ChangeSpec := { name := "headBounds", fn := fun _ => fun
  | [d1, d2, d3] => { results := [.lit (.bool true)], args := [d1, d2, d3] }
  | _ => none }
def headBoundsRow : OpenClaim := { program := "ytkpndfkpdnknkaagreat", sum := "06eba31eb8c94bf3c3248c570937524ff31ade881808bea01bc60d7d74b16b1f", func := "woodcut/woodcutlaw18.HeadBounds", spec := "headBounds", unfollowed := true, recurses := true, apart := false }
def HeadBoundsSaid : Prop := headBoundsRow.holds Tryz.pinned (OpenSpec.ofChange headBoundsSpec)

/-- ITS FALSE NEIGHBOUR: 'it returns false'. Refute it at one input. -/
def headBoundsWrong : ChangeSpec := { name := "headBounds", fn := fun _ => fun
  | [d1, d2, d3] => { results := [.lit (.bool false)], args := [d1, d2, d3] }
  | _ => none }
def HeadBoundsWrongFalsely : Prop := headBoundsRow.holds Tryz.pinned (OpenSpec.ofChange headBoundsWrong)

/-- 'woodcutlaw18.HeadReads': WHATEVER THE INPUT: true; the input reads as it did. -/
def headReadsSpec : ChangeSpec := { name := "headReads", fn := fun _ => fun
  | [d1, d2, d3, d4, d5, d6] => { results := [.lit (.bool true)], args := [d1, d2, d3, d4, d5, d6] }
  | _ => none }
def headReadsRow : OpenClaim := { program := "ytkpndfkpdnknkaagreat", sum := "06eba31eb8c94bf3c3248c570937524ff31ade881808bea01bc60d7d74b16b1f", func := "woodcut/woodcutlaw18.HeadReads", spec := "headReads", unfollowed := true, recurses := true, apart := false }
def HeadReadsSaid : Prop := headReadsRow.holds Tryz.pinned (OpenSpec.ofChange headReadsSpec)

/-- ITS FALSE NEIGHBOUR: 'it returns false'. Refute it at one input. -/
def headReadsWrong : ChangeSpec := { name := "headReads", fn := fun _ => fun
  | [d1, d2, d3, d4, d5, d6] => { results := [.lit (.bool false)], args := [d1, d2, d3, d4, d5, d6] }
  | _ => none }
def HeadReadsWrongFalsely : Prop := headReadsRow.holds Tryz.pinned (OpenSpec.ofChange headReadsWrong)

/-- 'woodcutlaw18.HeadParts': WHATEVER THE INPUT: true; the input reads as it did. -/
def headPartsSpec : ChangeSpec := { name := "headParts", fn := fun _ => fun
  | [d1, d2, d3, d4] => { results := [.lit (.bool true)], args := [d1, d2, d3, d4] }
  | _ => none }
def headPartsRow : OpenClaim := { program := "ytkpndfkpdnknkaagreat", sum := "06eba31eb8c94bf3c3248c570937524ff31ade881808bea01bc60d7d74b16b1f", func := "woodcut/woodcutlaw18.HeadParts", spec := "headParts", unfollowed := true, recurses := true, apart := false }
def HeadPartsSaid : Prop := headPartsRow.holds Tryz.pinned (OpenSpec.ofChange headPartsSpec)

/-- ITS FALSE NEIGHBOUR: 'it returns false'. Refute it at one input. -/
def headPartsWrong : ChangeSpec := { name := "headParts", fn := fun _ => fun
  | [d1, d2, d3, d4] => { results := [.lit (.bool false)], args := [d1, d2, d3, d4] }
  | _ => none }
def HeadPartsWrongFalsely : Prop := headPartsRow.holds Tryz.pinned (OpenSpec.ofChange headPartsWrong)

/-- 'woodcutlaw18.HeadSpace': WHATEVER THE INPUT: true; the input reads as it did. -/
def headSpaceSpec : ChangeSpec := { name := "headSpace", fn := fun _ => fun
  | [d1, d2, d3, d4, d5, d6] => { results := [.lit (.bool true)], args := [d1, d2, d3, d4, d5, d6] }
  | _ => none }
def headSpaceRow : OpenClaim := { program := "ytkpndfkpdnknkaagreat", sum := "06eba31eb8c94bf3c3248c570937524ff31ade881808bea01bc60d7d74b16b1f", func := "woodcut/woodcutlaw18.HeadSpace", spec := "headSpace", unfollowed := true, recurses := true, apart := false }
def HeadSpaceSaid : Prop := headSpaceRow.holds Tryz.pinned (OpenSpec.ofChange headSpaceSpec)

/-- ITS FALSE NEIGHBOUR: 'it returns false'. Refute it at one input. -/
def headSpaceWrong : ChangeSpec := { name := "headSpace", fn := fun _ => fun
  | [d1, d2, d3, d4, d5, d6] => { results := [.lit (.bool false)], args := [d1, d2, d3, d4, d5, d6] }
  | _ => none }
def HeadSpaceWrongFalsely : Prop := headSpaceRow.holds Tryz.pinned (OpenSpec.ofChange headSpaceWrong)

/-- 'woodcutlaw18.HeadSteps': WHATEVER THE INPUT: true; the input reads as it did. -/
def headStepsSpec : ChangeSpec := { name := "headSteps", fn := fun _ => fun
  | [d1, d2, d3, d4, d5, d6] => { results := [.lit (.bool true)], args := [d1, d2, d3, d4, d5, d6] }
  | _ => none }
def headStepsRow : OpenClaim := { program := "ytkpndfkpdnknkaagreat", sum := "06eba31eb8c94bf3c3248c570937524ff31ade881808bea01bc60d7d74b16b1f", func := "woodcut/woodcutlaw18.HeadSteps", spec := "headSteps", unfollowed := true, recurses := true, apart := false }
def HeadStepsSaid : Prop := headStepsRow.holds Tryz.pinned (OpenSpec.ofChange headStepsSpec)

/-- ITS FALSE NEIGHBOUR: 'it returns false'. Refute it at one input. -/
def headStepsWrong : ChangeSpec := { name := "headSteps", fn := fun _ => fun
  | [d1, d2, d3, d4, d5, d6] => { results := [.lit (.bool false)], args := [d1, d2, d3, d4, d5, d6] }
  | _ => none }
def HeadStepsWrongFalsely : Prop := headStepsRow.holds Tryz.pinned (OpenSpec.ofChange headStepsWrong)

/-- 'woodcutlaw18.HeadKeeps': WHATEVER THE INPUT: true; the input reads as it did. -/
def headKeepsSpec : ChangeSpec := { name := "headKeeps", fn := fun _ => fun
  | [d1, d2, d3, d4, d5, d6] => { results := [.lit (.bool true)], args := [d1, d2, d3, d4, d5, d6] }
  | _ => none }
def headKeepsRow : OpenClaim := { program := "ytkpndfkpdnknkaagreat", sum := "06eba31eb8c94bf3c3248c570937524ff31ade881808bea01bc60d7d74b16b1f", func := "woodcut/woodcutlaw18.HeadKeeps", spec := "headKeeps", unfollowed := true, recurses := true, apart := false }
def HeadKeepsSaid : Prop := headKeepsRow.holds Tryz.pinned (OpenSpec.ofChange headKeepsSpec)

/-- ITS FALSE NEIGHBOUR: 'it returns false'. Refute it at one input. -/
def headKeepsWrong : ChangeSpec := { name := "headKeeps", fn := fun _ => fun
  | [d1, d2, d3, d4, d5, d6] => { results := [.lit (.bool false)], args := [d1, d2, d3, d4, d5, d6] }
  | _ => none }
def HeadKeepsWrongFalsely : Prop := headKeepsRow.holds Tryz.pinned (OpenSpec.ofChange headKeepsWrong)

/- THE SECOND FORM. 'bulk': how many values and letters a reading holds, each counted each time it is reached (what is shared counts as often as it is met; a slice's spare places count too). A statement '..UptoSaid' is the law's where the arguments, and the package variables that the reading takes, are together of bulk at most 1048576: NARROWER than '..Said'. Prove '..Said' where nothing that the law and all that it calls make is longer than what came in: it says more and counts as full. Else prove '..UptoSaid'. A law counts once. -/
mutual
def uptoBulk {H : Type} : DataW H → Nat
  | .lit (.string bytes) => bytes.length + 1
  | .lit _ => 1
  | .nil => 1
  | .ptr d => uptoBulk d + 1
  | .slice elems spare => uptoBulkAll elems + uptoBulkAll spare + 1
  | .agg parts => uptoBulkAll parts + 1
  | .iface _ d => uptoBulk d + 1
  | .map entries => uptoBulkEntries entries + 1
  | .held _ => 1
def uptoBulkAll {H : Type} : List (DataW H) → Nat
  | [] => 0
  | d :: r => uptoBulk d + uptoBulkAll r
def uptoBulkEntries {H : Type} : List (Lit × DataW H) → Nat
  | [] => 0
  | x :: r => uptoBulkEntry x + uptoBulkEntries r
def uptoBulkEntry {H : Type} : Lit × DataW H → Nat
  | (.string bytes, d) => bytes.length + uptoBulk d + 1
  | (_, d) => uptoBulk d + 1
 end
def uptoSmall : (H : Type) → List (DataW H) → Bool := fun _ ds => decide (uptoBulkAll ds ≤ 1048576)
def OpenSpec.upto (s : _root_.Go.ChangeSpec) : _root_.Go.OpenSpec := { _root_.Go.OpenSpec.ofChange s with cond := some uptoSmall }

/-- 'woodcutlaw18.HeadFull', WHERE WHAT IT READS IS OF BULK AT MOST 1048576: true; the input reads as it did. -/
def headFullUptoRow : OpenClaim := { program := "ytkpndfkpdnknkaagreat", sum := "06eba31eb8c94bf3c3248c570937524ff31ade881808bea01bc60d7d74b16b1f", func := "woodcut/woodcutlaw18.HeadFull", spec := "headFull", unfollowed := true, recurses := true, apart := false, narrowed := true }
def HeadFullUptoSaid : Prop := headFullUptoRow.holds Tryz.pinned (OpenSpec.upto headFullSpec)

/-- 'woodcutlaw18.HeadExact', WHERE WHAT IT READS IS OF BULK AT MOST 1048576: true; the input reads as it did. -/
def headExactUptoRow : OpenClaim := { program := "ytkpndfkpdnknkaagreat", sum := "06eba31eb8c94bf3c3248c570937524ff31ade881808bea01bc60d7d74b16b1f", func := "woodcut/woodcutlaw18.HeadExact", spec := "headExact", unfollowed := true, recurses := true, apart := false, narrowed := true }
def HeadExactUptoSaid : Prop := headExactUptoRow.holds Tryz.pinned (OpenSpec.upto headExactSpec)

/-- 'woodcutlaw18.HeadBounds', WHERE WHAT IT READS IS OF BULK AT MOST 1048576: true; the input reads as it did. -/
def headBoundsUptoRow : OpenClaim := { program := "ytkpndfkpdnknkaagreat", sum := "06eba31eb8c94bf3c3248c570937524ff31ade881808bea01bc60d7d74b16b1f", func := "woodcut/woodcutlaw18.HeadBounds", spec := "headBounds", unfollowed := true, recurses := true, apart := false, narrowed := true }
def HeadBoundsUptoSaid : Prop := headBoundsUptoRow.holds Tryz.pinned (OpenSpec.upto headBoundsSpec)

/-- 'woodcutlaw18.HeadReads', WHERE WHAT IT READS IS OF BULK AT MOST 1048576: true; the input reads as it did. -/
def headReadsUptoRow : OpenClaim := { program := "ytkpndfkpdnknkaagreat", sum := "06eba31eb8c94bf3c3248c570937524ff31ade881808bea01bc60d7d74b16b1f", func := "woodcut/woodcutlaw18.HeadReads", spec := "headReads", unfollowed := true, recurses := true, apart := false, narrowed := true }
def HeadReadsUptoSaid : Prop := headReadsUptoRow.holds Tryz.pinned (OpenSpec.upto headReadsSpec)

/-- 'woodcutlaw18.HeadParts', WHERE WHAT IT READS IS OF BULK AT MOST 1048576: true; the input reads as it did. -/
def headPartsUptoRow : OpenClaim := { program := "ytkpndfkpdnknkaagreat", sum := "06eba31eb8c94bf3c3248c570937524ff31ade881808bea01bc60d7d74b16b1f", func := "woodcut/woodcutlaw18.HeadParts", spec := "headParts", unfollowed := true, recurses := true, apart := false, narrowed := true }
def HeadPartsUptoSaid : Prop := headPartsUptoRow.holds Tryz.pinned (OpenSpec.upto headPartsSpec)

/-- 'woodcutlaw18.HeadSpace', WHERE WHAT IT READS IS OF BULK AT MOST 1048576: true; the input reads as it did. -/
def headSpaceUptoRow : OpenClaim := { program := "ytkpndfkpdnknkaagreat", sum := "06eba31eb8c94bf3c3248c570937524ff31ade881808bea01bc60d7d74b16b1f", func := "woodcut/woodcutlaw18.HeadSpace", spec := "headSpace", unfollowed := true, recurses := true, apart := false, narrowed := true }
def HeadSpaceUptoSaid : Prop := headSpaceUptoRow.holds Tryz.pinned (OpenSpec.upto headSpaceSpec)

/-- 'woodcutlaw18.HeadSteps', WHERE WHAT IT READS IS OF BULK AT MOST 1048576: true; the input reads as it did. -/
def headStepsUptoRow : OpenClaim := { program := "ytkpndfkpdnknkaagreat", sum := "06eba31eb8c94bf3c3248c570937524ff31ade881808bea01bc60d7d74b16b1f", func := "woodcut/woodcutlaw18.HeadSteps", spec := "headSteps", unfollowed := true, recurses := true, apart := false, narrowed := true }
def HeadStepsUptoSaid : Prop := headStepsUptoRow.holds Tryz.pinned (OpenSpec.upto headStepsSpec)

/-- 'woodcutlaw18.HeadKeeps', WHERE WHAT IT READS IS OF BULK AT MOST 1048576: true; the input reads as it did. -/
def headKeepsUptoRow : OpenClaim := { program := "ytkpndfkpdnknkaagreat", sum := "06eba31eb8c94bf3c3248c570937524ff31ade881808bea01bc60d7d74b16b1f", func := "woodcut/woodcutlaw18.HeadKeeps", spec := "headKeeps", unfollowed := true, recurses := true, apart := false, narrowed := true }
def HeadKeepsUptoSaid : Prop := headKeepsUptoRow.holds Tryz.pinned (OpenSpec.upto headKeepsSpec)

end Rows
end Go.Proofs.YtkpndfkpdnknkaaGreat
