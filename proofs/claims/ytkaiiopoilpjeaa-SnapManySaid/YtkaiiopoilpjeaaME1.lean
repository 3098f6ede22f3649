/- Lemmas. -/
import Derived.Test.YtkaiiopoilpjeaaMJ2
set_option linter.unusedSimpArgs false
set_option linter.unusedVariables false
set_option maxRecDepth 10000
namespace Go.Proofs.Ytkaiiopoilpjeaa
open Go.AI
structure SnapV where
 id : Nat
 parent : Nat
 sectors : List (List UInt8)
 frames : Nat
 digest : Nat
structure ViewV where
 head : List (List UInt8)
 snaps : List SnapV
 opens : List SnapV
def secB (l : List UInt8) (a : Nat) : List UInt8 := if a = 0 then List.replicate 64 0 else blk l a
def secsP (l : List UInt8) (m : List Nat) (size : Nat) : List (List UInt8) := (m.take size).map (secB l)
def snapV (l : List UInt8) (p : Rec × WS) : SnapV := ⟨p.1.id, p.1.parent, secsP l p.2.m p.1.size, p.1.frames, p.1.digest⟩
def pendR (p : Rec × WS) : Bool := decide (p.1.kind = 1)
def viewP (l : List UInt8) (x : Img) : ViewV :=
 ⟨secsP l (x.trees.headD ws0).m x.sup.size, ((x.recs.zip x.trees.tail).filter fun p => !pendR p).map (snapV l), ((x.recs.zip x.trees.tail).filter pendR).map (snapV l)⟩
def rowAv (r : List UInt8) : AV := .islc false false 1 (BL r)
def rowsAv (rs : List (List UInt8)) : AV := .islc false false 1 (rs.map rowAv)
def SnapV.av (s : SnapV) : AV := .agg [.int .i64 s.id, .int .i64 s.parent, rowsAv s.sectors, .int .i64 s.frames, .int .i64 s.digest]
def snapsAv (l : List SnapV) : AV := if l = [] then .islc false true 0 [] else .islc false false 5 (l.map SnapV.av)
def ViewV.cs (v : ViewV) : List AV := [rowsAv v.head, snapsAv v.snaps, snapsAv v.opens]
end Go.Proofs.Ytkaiiopoilpjeaa
