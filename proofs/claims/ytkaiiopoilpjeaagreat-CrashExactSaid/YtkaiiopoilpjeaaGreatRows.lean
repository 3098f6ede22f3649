/-
  No cell of these rows narrows 'for every input' (looked for: loops, veiled, ifaces, maps, wideKeys, modest, calm, conditions, laid).
  DERIVED. THE GIVEN ROWS OF THIS SEAT. 11 by the template 'for every input the law returns true; each argument reads behind the call as it read before'; 0 by the template 'total and deterministic' (their statements: YtkaiiopoilpjeaaGreatTotals.lean).
  GIVEN WITH THE SEED: the statements are not yours to turn. If you find one false, say at which input.
  Laid BY PROGRAM, IN A SANDBOX (cutbox-rows.mjs): the forced cells as the released guide's own fill.sh prints them over the translation 376704a52c5dbb36… (all of the seat's roots in one cut). By AI agents, Wed Nov 11 2026. No macro, syntax, notation, axiom, sorry.
-/
import Derived.Test.YtkaiiopoilpjeaaGreatChecked
import GoSem.Claim
import GoSem.ClaimJoined
import GoSem.ClaimMapViews
import Derived.JoinedTies
import Derived.KernelRfl
namespace Go.Proofs.YtkaiiopoilpjeaaGreat
/- THE CELL 'sum', in the pinned program and in every row, IS THE sha256 OF THE DUMP (.gsa) THAT YtkaiiopoilpjeaaGreatProg.lean LOADS. Nothing in Lean hashes anything: it is a label: what it is worth is what the hold of that sum in a sandbox is worth. -/
noncomputable def Tryz.pinned : Pinned := { name := "ytkaiiopoilpjeaagreat", sum := "376704a52c5dbb36c1e6dd37b5e284c062980a32040779033d6f28d0ce67c4c3", checked := Tryz.checked }
namespace Rows
def none {H : Type} : Left H := { results := [], args := [] }

/-- 'woodcutlaw19.SnapExact': WHATEVER THE INPUT: true; the input reads as it did. -/
def snapExactSpec : ChangeSpec := { name := "snapExact", fn := fun _ => fun
  | [d1, d2] => { results := [.lit (.bool true)], args := [d1, d2] }
  | _ => none }
def snapExactRow : OpenClaim := { program := "ytkaiiopoilpjeaagreat", sum := "376704a52c5dbb36c1e6dd37b5e284c062980a32040779033d6f28d0ce67c4c3", func := "woodcut/woodcutlaw19.SnapExact", spec := "snapExact", unfollowed := true, recurses := true, apart := false }
def SnapExactSaid : Prop := snapExactRow.holds Tryz.pinned (OpenSpec.ofChange snapExactSpec)

/-- ITS FALSE NEIGHBOUR: 'it returns false'. Refute it at one input. -/
def snapExactWrong : ChangeSpec := { name := "snapExact", fn := fun _ => fun
  | [d1, d2] => { results := [.lit (.bool false)], args := [d1, d2] }
  | _ => none }
def SnapExactWrongFalsely : Prop := snapExactRow.holds Tryz.pinned (OpenSpec.ofChange snapExactWrong)

/-- 'woodcutlaw27.CrashExact': WHATEVER THE INPUT: true; the input reads as it did. -/
def crashExactSpec : ChangeSpec := { name := "crashExact", fn := fun _ => fun
  | [d1, d2, d3, d4] => { results := [.lit (.bool true)], args := [d1, d2, d3, d4] }
  | _ => none }
def crashExactRow : OpenClaim := { program := "ytkaiiopoilpjeaagreat", sum := "376704a52c5dbb36c1e6dd37b5e284c062980a32040779033d6f28d0ce67c4c3", func := "woodcut/woodcutlaw27.CrashExact", spec := "crashExact", unfollowed := true, recurses := true, apart := false }
def CrashExactSaid : Prop := crashExactRow.holds Tryz.pinned (OpenSpec.ofChange crashExactSpec)

/-- ITS FALSE NEIGHBOUR: 'it returns false'. Refute it at one input. -/
def crashExactWrong : ChangeSpec := { name := "crashExact", fn := fun _ => fun
  | [d1, d2, d3, d4] => { results := [.lit (.bool false)], args := [d1, d2, d3, d4] }
  | _ => none }
def CrashExactWrongFalsely : Prop := crashExactRow.holds Tryz.pinned (OpenSpec.ofChange crashExactWrong)

/-- 'woodcutlaw19.SnapGone': WHATEVER THE INPUT: true; the input reads as it did. -/
def snapGoneSpec : ChangeSpec := { name := "snapGone", fn := fun _ => fun
  | [d1, d2] => { results := [.lit (.bool true)], args := [d1, d2] }
  | _ => none }
def snapGoneRow : OpenClaim := { program := "ytkaiiopoilpjeaagreat", sum := "376704a52c5dbb36c1e6dd37b5e284c062980a32040779033d6f28d0ce67c4c3", func := "woodcut/woodcutlaw19.SnapGone", spec := "snapGone", unfollowed := true, recurses := true, apart := false }
def SnapGoneSaid : Prop := snapGoneRow.holds Tryz.pinned (OpenSpec.ofChange snapGoneSpec)

/-- ITS FALSE NEIGHBOUR: 'it returns false'. Refute it at one input. -/
def snapGoneWrong : ChangeSpec := { name := "snapGone", fn := fun _ => fun
  | [d1, d2] => { results := [.lit (.bool false)], args := [d1, d2] }
  | _ => none }
def SnapGoneWrongFalsely : Prop := snapGoneRow.holds Tryz.pinned (OpenSpec.ofChange snapGoneWrong)

/-- 'woodcutlaw27.CrashSnap': WHATEVER THE INPUT: true; the input reads as it did. -/
def crashSnapSpec : ChangeSpec := { name := "crashSnap", fn := fun _ => fun
  | [d1, d2, d3, d4, d5] => { results := [.lit (.bool true)], args := [d1, d2, d3, d4, d5] }
  | _ => none }
def crashSnapRow : OpenClaim := { program := "ytkaiiopoilpjeaagreat", sum := "376704a52c5dbb36c1e6dd37b5e284c062980a32040779033d6f28d0ce67c4c3", func := "woodcut/woodcutlaw27.CrashSnap", spec := "crashSnap", unfollowed := true, recurses := true, apart := false }
def CrashSnapSaid : Prop := crashSnapRow.holds Tryz.pinned (OpenSpec.ofChange crashSnapSpec)

/-- ITS FALSE NEIGHBOUR: 'it returns false'. Refute it at one input. -/
def crashSnapWrong : ChangeSpec := { name := "crashSnap", fn := fun _ => fun
  | [d1, d2, d3, d4, d5] => { results := [.lit (.bool false)], args := [d1, d2, d3, d4, d5] }
  | _ => none }
def CrashSnapWrongFalsely : Prop := crashSnapRow.holds Tryz.pinned (OpenSpec.ofChange crashSnapWrong)

/-- 'woodcutlaw19.SnapCheap': WHATEVER THE INPUT: true; the input reads as it did. -/
def snapCheapSpec : ChangeSpec := { name := "snapCheap", fn := fun _ => fun
  | [d1, d2, d3] => { results := [.lit (.bool true)], args := [d1, d2, d3] }
  | _ => none }
def snapCheapRow : OpenClaim := { program := "ytkaiiopoilpjeaagreat", sum := "376704a52c5dbb36c1e6dd37b5e284c062980a32040779033d6f28d0ce67c4c3", func := "woodcut/woodcutlaw19.SnapCheap", spec := "snapCheap", unfollowed := true, recurses := true, apart := false }
def SnapCheapSaid : Prop := snapCheapRow.holds Tryz.pinned (OpenSpec.ofChange snapCheapSpec)

/-- ITS FALSE NEIGHBOUR: 'it returns false'. Refute it at one input. -/
def snapCheapWrong : ChangeSpec := { name := "snapCheap", fn := fun _ => fun
  | [d1, d2, d3] => { results := [.lit (.bool false)], args := [d1, d2, d3] }
  | _ => none }
def SnapCheapWrongFalsely : Prop := snapCheapRow.holds Tryz.pinned (OpenSpec.ofChange snapCheapWrong)

/-- 'woodcutlaw19.SnapHolds': WHATEVER THE INPUT: true; the input reads as it did. -/
def snapHoldsSpec : ChangeSpec := { name := "snapHolds", fn := fun _ => fun
  | [d1, d2, d3, d4, d5, d6, d7] => { results := [.lit (.bool true)], args := [d1, d2, d3, d4, d5, d6, d7] }
  | _ => none }
def snapHoldsRow : OpenClaim := { program := "ytkaiiopoilpjeaagreat", sum := "376704a52c5dbb36c1e6dd37b5e284c062980a32040779033d6f28d0ce67c4c3", func := "woodcut/woodcutlaw19.SnapHolds", spec := "snapHolds", unfollowed := true, recurses := true, apart := false }
def SnapHoldsSaid : Prop := snapHoldsRow.holds Tryz.pinned (OpenSpec.ofChange snapHoldsSpec)

/-- ITS FALSE NEIGHBOUR: 'it returns false'. Refute it at one input. -/
def snapHoldsWrong : ChangeSpec := { name := "snapHolds", fn := fun _ => fun
  | [d1, d2, d3, d4, d5, d6, d7] => { results := [.lit (.bool false)], args := [d1, d2, d3, d4, d5, d6, d7] }
  | _ => none }
def SnapHoldsWrongFalsely : Prop := snapHoldsRow.holds Tryz.pinned (OpenSpec.ofChange snapHoldsWrong)

/-- 'woodcutlaw27.CrashDone': WHATEVER THE INPUT: true; the input reads as it did. -/
def crashDoneSpec : ChangeSpec := { name := "crashDone", fn := fun _ => fun
  | [d1, d2, d3, d4, d5, d6, d7] => { results := [.lit (.bool true)], args := [d1, d2, d3, d4, d5, d6, d7] }
  | _ => none }
def crashDoneRow : OpenClaim := { program := "ytkaiiopoilpjeaagreat", sum := "376704a52c5dbb36c1e6dd37b5e284c062980a32040779033d6f28d0ce67c4c3", func := "woodcut/woodcutlaw27.CrashDone", spec := "crashDone", unfollowed := true, recurses := true, apart := false }
def CrashDoneSaid : Prop := crashDoneRow.holds Tryz.pinned (OpenSpec.ofChange crashDoneSpec)

/-- ITS FALSE NEIGHBOUR: 'it returns false'. Refute it at one input. -/
def crashDoneWrong : ChangeSpec := { name := "crashDone", fn := fun _ => fun
  | [d1, d2, d3, d4, d5, d6, d7] => { results := [.lit (.bool false)], args := [d1, d2, d3, d4, d5, d6, d7] }
  | _ => none }
def CrashDoneWrongFalsely : Prop := crashDoneRow.holds Tryz.pinned (OpenSpec.ofChange crashDoneWrong)

/-- 'woodcutlaw19.SnapBack': WHATEVER THE INPUT: true; the input reads as it did. -/
def snapBackSpec : ChangeSpec := { name := "snapBack", fn := fun _ => fun
  | [d1, d2, d3, d4, d5, d6, d7] => { results := [.lit (.bool true)], args := [d1, d2, d3, d4, d5, d6, d7] }
  | _ => none }
def snapBackRow : OpenClaim := { program := "ytkaiiopoilpjeaagreat", sum := "376704a52c5dbb36c1e6dd37b5e284c062980a32040779033d6f28d0ce67c4c3", func := "woodcut/woodcutlaw19.SnapBack", spec := "snapBack", unfollowed := true, recurses := true, apart := false }
def SnapBackSaid : Prop := snapBackRow.holds Tryz.pinned (OpenSpec.ofChange snapBackSpec)

/-- ITS FALSE NEIGHBOUR: 'it returns false'. Refute it at one input. -/
def snapBackWrong : ChangeSpec := { name := "snapBack", fn := fun _ => fun
  | [d1, d2, d3, d4, d5, d6, d7] => { results := [.lit (.bool false)], args := [d1, d2, d3, d4, d5, d6, d7] }
  | _ => none }
def SnapBackWrongFalsely : Prop := snapBackRow.holds Tryz.pinned (OpenSpec.ofChange snapBackWrong)

/-- 'woodcutlaw27.CrashHead': WHATEVER THE INPUT: true; the input reads as it did. -/
def crashHeadSpec : ChangeSpec := { name := "crashHead", fn := fun _ => fun
  | [d1, d2, d3, d4, d5, d6, d7, d8] => { results := [.lit (.bool true)], args := [d1, d2, d3, d4, d5, d6, d7, d8] }
  | _ => none }
def crashHeadRow : OpenClaim := { program := "ytkaiiopoilpjeaagreat", sum := "376704a52c5dbb36c1e6dd37b5e284c062980a32040779033d6f28d0ce67c4c3", func := "woodcut/woodcutlaw27.CrashHead", spec := "crashHead", unfollowed := true, recurses := true, apart := false }
def CrashHeadSaid : Prop := crashHeadRow.holds Tryz.pinned (OpenSpec.ofChange crashHeadSpec)

/-- ITS FALSE NEIGHBOUR: 'it returns false'. Refute it at one input. -/
def crashHeadWrong : ChangeSpec := { name := "crashHead", fn := fun _ => fun
  | [d1, d2, d3, d4, d5, d6, d7, d8] => { results := [.lit (.bool false)], args := [d1, d2, d3, d4, d5, d6, d7, d8] }
  | _ => none }
def CrashHeadWrongFalsely : Prop := crashHeadRow.holds Tryz.pinned (OpenSpec.ofChange crashHeadWrong)

/-- 'woodcutlaw27.CrashAgain': WHATEVER THE INPUT: true; the input reads as it did. -/
def crashAgainSpec : ChangeSpec := { name := "crashAgain", fn := fun _ => fun
  | [d1, d2, d3, d4, d5, d6, d7] => { results := [.lit (.bool true)], args := [d1, d2, d3, d4, d5, d6, d7] }
  | _ => none }
def crashAgainRow : OpenClaim := { program := "ytkaiiopoilpjeaagreat", sum := "376704a52c5dbb36c1e6dd37b5e284c062980a32040779033d6f28d0ce67c4c3", func := "woodcut/woodcutlaw27.CrashAgain", spec := "crashAgain", unfollowed := true, recurses := true, apart := false }
def CrashAgainSaid : Prop := crashAgainRow.holds Tryz.pinned (OpenSpec.ofChange crashAgainSpec)

/-- ITS FALSE NEIGHBOUR: 'it returns false'. Refute it at one input. -/
def crashAgainWrong : ChangeSpec := { name := "crashAgain", fn := fun _ => fun
  | [d1, d2, d3, d4, d5, d6, d7] => { results := [.lit (.bool false)], args := [d1, d2, d3, d4, d5, d6, d7] }
  | _ => none }
def CrashAgainWrongFalsely : Prop := crashAgainRow.holds Tryz.pinned (OpenSpec.ofChange crashAgainWrong)

/-- 'woodcutlaw27.CrashBoth': WHATEVER THE INPUT: true; the input reads as it did. -/
def crashBothSpec : ChangeSpec := { name := "crashBoth", fn := fun _ => fun
  | [d1, d2, d3, d4, d5, d6] => { results := [.lit (.bool true)], args := [d1, d2, d3, d4, d5, d6] }
  | _ => none }
def crashBothRow : OpenClaim := { program := "ytkaiiopoilpjeaagreat", sum := "376704a52c5dbb36c1e6dd37b5e284c062980a32040779033d6f28d0ce67c4c3", func := "woodcut/woodcutlaw27.CrashBoth", spec := "crashBoth", unfollowed := true, recurses := true, apart := false }
def CrashBothSaid : Prop := crashBothRow.holds Tryz.pinned (OpenSpec.ofChange crashBothSpec)

/-- ITS FALSE NEIGHBOUR: 'it returns false'. Refute it at one input. -/
def crashBothWrong : ChangeSpec := { name := "crashBoth", fn := fun _ => fun
  | [d1, d2, d3, d4, d5, d6] => { results := [.lit (.bool false)], args := [d1, d2, d3, d4, d5, d6] }
  | _ => none }
def CrashBothWrongFalsely : Prop := crashBothRow.holds Tryz.pinned (OpenSpec.ofChange crashBothWrong)

/- THE SECOND FORM. 'bulk': how many values and letters a reading holds, each counted each time it is reached (what is shared counts as often as it is met; a slice's spare places count too). A statement '..UptoSaid' is the law's where the arguments, and the package variables that the reading takes, are together of bulk at most 1048576: NARROWER than '..Said'. Prove '..Said' where nothing that the law and all that it calls make is longer than what came in: it says more and counts as full. Else prove '..UptoSaid'. A law counts once. -/
mutual
def uptoBulk {H : Type} : DataW H → Nat
  | .lit (.string bytes) => bytes.length + 1
  | .lit _ => 1
  | .nil => 1
  | .ptr d => uptoBulk d + 1
  | .slice elems spare => uptoBulkAll elems + uptoBulkAll spare + 1
  | .agg parts => uptoBulkAll parts + 1
  | .iface _ d => uptoBulk d + 1
  | .map entries => uptoBulkEntries entries + 1
  | .held _ => 1
def uptoBulkAll {H : Type} : List (DataW H) → Nat
  | [] => 0
  | d :: r => uptoBulk d + uptoBulkAll r
def uptoBulkEntries {H : Type} : List (Lit × DataW H) → Nat
  | [] => 0
  | x :: r => uptoBulkEntry x + uptoBulkEntries r
def uptoBulkEntry {H : Type} : Lit × DataW H → Nat
  | (.string bytes, d) => bytes.length + uptoBulk d + 1
  | (_, d) => uptoBulk d + 1
 end
def uptoSmall : (H : Type) → List (DataW H) → Bool := fun _ ds => decide (uptoBulkAll ds ≤ 1048576)
def OpenSpec.upto (s : _root_.Go.ChangeSpec) : _root_.Go.OpenSpec := { _root_.Go.OpenSpec.ofChange s with cond := some uptoSmall }

/-- 'woodcutlaw19.SnapExact', WHERE WHAT IT READS IS OF BULK AT MOST 1048576: true; the input reads as it did. -/
def snapExactUptoRow : OpenClaim := { program := "ytkaiiopoilpjeaagreat", sum := "376704a52c5dbb36c1e6dd37b5e284c062980a32040779033d6f28d0ce67c4c3", func := "woodcut/woodcutlaw19.SnapExact", spec := "snapExact", unfollowed := true, recurses := true, apart := false, narrowed := true }
def SnapExactUptoSaid : Prop := snapExactUptoRow.holds Tryz.pinned (OpenSpec.upto snapExactSpec)

/-- 'woodcutlaw27.CrashExact', WHERE WHAT IT READS IS OF BULK AT MOST 1048576: true; the input reads as it did. -/
def crashExactUptoRow : OpenClaim := { program := "ytkaiiopoilpjeaagreat", sum := "376704a52c5dbb36c1e6dd37b5e284c062980a32040779033d6f28d0ce67c4c3", func := "woodcut/woodcutlaw27.CrashExact", spec := "crashExact", unfollowed := true, recurses := true, apart := false, narrowed := true }
def CrashExactUptoSaid : Prop := crashExactUptoRow.holds Tryz.pinned (OpenSpec.upto crashExactSpec)

/-- 'woodcutlaw19.SnapGone', WHERE WHAT IT READS IS OF BULK AT MOST 1048576: true; the input reads as it did. -/
def snapGoneUptoRow : OpenClaim := { program := "ytkaiiopoilpjeaagreat", sum := "376704a52c5dbb36c1e6dd37b5e284c062980a32040779033d6f28d0ce67c4c3", func := "woodcut/woodcutlaw19.SnapGone", spec := "snapGone", unfollowed := true, recurses := true, apart := false, narrowed := true }
def SnapGoneUptoSaid : Prop := snapGoneUptoRow.holds Tryz.pinned (OpenSpec.upto snapGoneSpec)

/-- 'woodcutlaw27.CrashSnap', WHERE WHAT IT READS IS OF BULK AT MOST 1048576: true; the input reads as it did. -/
def crashSnapUptoRow : OpenClaim := { program := "ytkaiiopoilpjeaagreat", sum := "376704a52c5dbb36c1e6dd37b5e284c062980a32040779033d6f28d0ce67c4c3", func := "woodcut/woodcutlaw27.CrashSnap", spec := "crashSnap", unfollowed := true, recurses := true, apart := false, narrowed := true }
def CrashSnapUptoSaid : Prop := crashSnapUptoRow.holds Tryz.pinned (OpenSpec.upto crashSnapSpec)

/-- 'woodcutlaw19.SnapCheap', WHERE WHAT IT READS IS OF BULK AT MOST 1048576: true; the input reads as it did. -/
def snapCheapUptoRow : OpenClaim := { program := "ytkaiiopoilpjeaagreat", sum := "376704a52c5dbb36c1e6dd37b5e284c062980a32040779033d6f28d0ce67c4c3", func := "woodcut/woodcutlaw19.SnapCheap", spec := "snapCheap", unfollowed := true, recurses := true, apart := false, narrowed := true }
def SnapCheapUptoSaid : Prop := snapCheapUptoRow.holds Tryz.pinned (OpenSpec.upto snapCheapSpec)

/-- 'woodcutlaw19.SnapHolds', WHERE WHAT IT READS IS OF BULK AT MOST 1048576: true; the input reads as it did. -/
def snapHoldsUptoRow : OpenClaim := { program := "ytkaiiopoilpjeaagreat", sum := "376704a52c5dbb36c1e6dd37b5e284c062980a32040779033d6f28d0ce67c4c3", func := "woodcut/woodcutlaw19.SnapHolds", spec := "snapHolds", unfollowed := true, recurses := true, apart := false, narrowed := true }
def SnapHoldsUptoSaid : Prop := snapHoldsUptoRow.holds Tryz.pinned (OpenSpec.upto snapHoldsSpec)

/-- 'woodcutlaw27.CrashDone', WHERE WHAT IT READS IS OF BULK AT MOST 1048576: true; the input reads as it did. -/
def crashDoneUptoRow : OpenClaim := { program := "ytkaiiopoilpjeaagreat", sum := "376704a52c5dbb36c1e6dd37b5e284c062980a32040779033d6f28d0ce67c4c3", func := "woodcut/woodcutlaw27.CrashDone", spec := "crashDone", unfollowed := true, recurses := true, apart := false, narrowed := true }
def CrashDoneUptoSaid : Prop := crashDoneUptoRow.holds Tryz.pinned (OpenSpec.upto crashDoneSpec)

/-- 'woodcutlaw19.SnapBack', WHERE WHAT IT READS IS OF BULK AT MOST 1048576: true; the input reads as it did. -/
def snapBackUptoRow : OpenClaim := { program := "ytkaiiopoilpjeaagreat", sum := "376704a52c5dbb36c1e6dd37b5e284c062980a32040779033d6f28d0ce67c4c3", func := "woodcut/woodcutlaw19.SnapBack", spec := "snapBack", unfollowed := true, recurses := true, apart := false, narrowed := true }
def SnapBackUptoSaid : Prop := snapBackUptoRow.holds Tryz.pinned (OpenSpec.upto snapBackSpec)

/-- 'woodcutlaw27.CrashHead', WHERE WHAT IT READS IS OF BULK AT MOST 1048576: true; the input reads as it did. -/
def crashHeadUptoRow : OpenClaim := { program := "ytkaiiopoilpjeaagreat", sum := "376704a52c5dbb36c1e6dd37b5e284c062980a32040779033d6f28d0ce67c4c3", func := "woodcut/woodcutlaw27.CrashHead", spec := "crashHead", unfollowed := true, recurses := true, apart := false, narrowed := true }
def CrashHeadUptoSaid : Prop := crashHeadUptoRow.holds Tryz.pinned (OpenSpec.upto crashHeadSpec)

/-- 'woodcutlaw27.CrashAgain', WHERE WHAT IT READS IS OF BULK AT MOST 1048576: true; the input reads as it did. -/
def crashAgainUptoRow : OpenClaim := { program := "ytkaiiopoilpjeaagreat", sum := "376704a52c5dbb36c1e6dd37b5e284c062980a32040779033d6f28d0ce67c4c3", func := "woodcut/woodcutlaw27.CrashAgain", spec := "crashAgain", unfollowed := true, recurses := true, apart := false, narrowed := true }
def CrashAgainUptoSaid : Prop := crashAgainUptoRow.holds Tryz.pinned (OpenSpec.upto crashAgainSpec)

/-- 'woodcutlaw27.CrashBoth', WHERE WHAT IT READS IS OF BULK AT MOST 1048576: true; the input reads as it did. -/
def crashBothUptoRow : OpenClaim := { program := "ytkaiiopoilpjeaagreat", sum := "376704a52c5dbb36c1e6dd37b5e284c062980a32040779033d6f28d0ce67c4c3", func := "woodcut/woodcutlaw27.CrashBoth", spec := "crashBoth", unfollowed := true, recurses := true, apart := false, narrowed := true }
def CrashBothUptoSaid : Prop := crashBothUptoRow.holds Tryz.pinned (OpenSpec.upto crashBothSpec)

end Rows
end Go.Proofs.YtkaiiopoilpjeaaGreat
