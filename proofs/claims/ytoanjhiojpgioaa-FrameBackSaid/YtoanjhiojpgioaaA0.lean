/- An abstract interpreter over the kit's code: values by value, mutable blocks by name; no draws, no capacities. -/
import Derived.Orders
namespace Go.AI

/-- Abstract values. -/
inductive AV where
  | int (k : IntKind) (n : Int)
  | bool (b : Bool)
  | str (s : ByteArray)
  | undef
  | junk
  | nilp
  | nilf
  | ptr (j g ver s i off : Nat)
  | iptr (t : Bool) (cells : List AV)
  | slc (j g ver s off len : Nat) (cap : Option Nat)
  | islc (t full : Bool) (s : Nat) (elems : List AV)
  | agg (cells : List AV)
  | tup (l : List AV)
  | fn (f : Nat) (caps : List AV)
  | mp (j g : Nat)
  deriving Inhabited

inductive St where
  | dead
  | row (s : Nat) (es : List AV)
  | map (es : List (Int × AV))
  deriving Inhabited

structure Blk where
  gen : Nat
  ro : Bool
  st : St
  deriving Inhabited

def Heap := Nat → Blk
def Tmps := Nat → AV

def Heap.none : Heap := fun _ => ⟨0, false, .dead⟩
def Heap.upd (H : Heap) (j : Nat) (b : Blk) : Heap := fun i => cond (Nat.beq i j) b (H i)
def Tmps.upd (T : Tmps) (j : Nat) (v : AV) : Tmps := fun i => cond (Nat.beq i j) v (T i)
theorem Tmps.upd_eq (T : Tmps) (j : Nat) (v : AV) (i : Nat) : T.upd j v i = if i = j then v else T i := by
  unfold Tmps.upd
  by_cases h : i = j
  · subst h; simp
  · have : Nat.beq i j = false := Bool.eq_false_iff.2 fun hb => h (Nat.eq_of_beq_eq_true hb)
    rw [this, if_neg h]; rfl
theorem Heap.upd_eq (H : Heap) (j : Nat) (b : Blk) (i : Nat) : H.upd j b i = if i = j then b else H i := by
  unfold Heap.upd
  by_cases h : i = j
  · subst h; simp
  · have : Nat.beq i j = false := Bool.eq_false_iff.2 fun hb => h (Nat.eq_of_beq_eq_true hb)
    rw [this, if_neg h]; rfl

/-- The cells of an element. -/
def AV.cells : AV → List AV
  | .agg cs => cs
  | v => [v]

/-- An element with other cells. -/
def AV.rewrap (v : AV) (cs : List AV) : AV :=
  match v with
  | .agg _ => .agg cs
  | _ => cs.headD .undef

/-- A row's elements, if the name is of the row as it stands. -/
def Heap.row (H : Heap) (j g ver s : Nat) : Option (List AV) :=
  match H j with
  | ⟨g', _, .row s' es⟩ => if g' = g ∧ es.length = ver ∧ s' = s then some es else .none
  | _ => .none

/-- The same, where it may be written. -/
def Heap.rowW (H : Heap) (j g ver s : Nat) : Option (List AV) :=
  match H j with
  | ⟨g', false, .row s' es⟩ => if g' = g ∧ es.length = ver ∧ s' = s then some es else .none
  | _ => .none

def Heap.newRow (H : Heap) (j s : Nat) (es : List AV) : Heap := H.upd j ⟨(H j).gen + 1, false, .row s es⟩
def Heap.setRow (H : Heap) (j s : Nat) (es : List AV) : Heap := H.upd j ⟨(H j).gen, false, .row s es⟩

mutual
/-- No names of blocks within. -/
def AV.norefs : AV → Bool
  | .ptr .. | .slc .. | .mp .. => false
  | .agg cs => norefsL cs
  | .tup cs => norefsL cs
  | .fn _ cs => norefsL cs
  | _ => true
def norefsL : List AV → Bool
  | [] => true
  | v :: r => v.norefs && norefsL r
end

/-- By value: 'out': as what a call hands back (its own blocks are nobody's any more); else as what is lent to a call. -/
def fz (out : Bool) : Nat → Heap → AV → AV
  | 0, _, v => if v.norefs && !out then v else match v with
    | .agg cs => .agg (cs.map fun _ => .junk)
    | _ => .junk
  | n + 1, H, v =>
    match v with
    | .ptr j g ver s i off =>
      match H.row j g ver s with
      | some es => match es[i]? with
        | some e => .iptr (!out) ((e.cells.drop off).map (fz out n H))
        | .none => .junk
      | .none => .junk
    | .slc j g ver s off len _ =>
      match H.row j g ver s with
      | some es => if off + len ≤ ver then .islc (!out) false s (((es.drop off).take len).map (fz out n H)) else .junk
      | .none => .junk
    | .iptr t cs => if out && t then .junk else .iptr t cs
    | .islc t f s es => if out && t then .junk else .islc t f s es
    | .agg cs => .agg (cs.map (fz out n H))
    | .tup cs => .tup (cs.map (fz out n H))
    | .fn f cs => .fn f (cs.map (fz out n H))
    | .mp .. => .junk
    | v => v

/-- The blocks that 'fz' looks at. -/
def vis : Nat → Heap → AV → List Nat
  | 0, _, _ => []
  | n + 1, H, v =>
    match v with
    | .ptr j g ver s i off =>
      match H.row j g ver s with
      | some es => match es[i]? with
        | some e => j :: (e.cells.drop off).flatMap (vis n H)
        | .none => [j]
      | .none => [j]
    | .slc j g ver s off len _ =>
      match H.row j g ver s with
      | some es => j :: ((es.drop off).take len).flatMap (vis n H)
      | .none => [j]
    | .agg cs => cs.flatMap (vis n H)
    | .tup cs => cs.flatMap (vis n H)
    | .fn _ cs => cs.flatMap (vis n H)
    | _ => []

/-- Depth of what is turned to values. -/
def deep : Nat := 6

inductive SArg where
  | t (n : Nat)
  | c (v : AV)

def SArg.ev (T : Tmps) : SArg → AV
  | .t n => T n
  | .c v => v

inductive Mode where
  | pure
  | fresh (site : Nat)
  | inl (base : Nat)
  | ext

inductive SOp where
  | mv (x : SArg)
  | pick (c a b : SArg)
  | box (site : Nat) (x : SArg)
  | nilrow (site s : Nat)
  | build (z : List AV) (parts : List (Nat × Nat × SArg))
  | buildS (site s n : Nat) (z : AV) (parts : List (Nat × SArg))
  | empty (s : Nat)
  | load (k : Nat) (agg : Bool) (x : SArg)
  | store (k : Nat) (x v : SArg)
  | nilc (x : SArg)
  | bin (op : BinOp) (x y : SArg)
  | eqnil (neg : Bool) (x : SArg)
  | eqagg (neg : Bool) (x y : SArg)
  | eqb (neg : Bool) (x y : SArg)
  | un (op : UnOp) (x : SArg)
  | cvi (k : IntKind) (x : SArg)
  | s2b (site : Nat) (x : SArg)
  | b2s (x : SArg)
  | ss (x : SArg)
  | mkfn (f : Nat) (caps : List SArg)
  | mks (site s : Nat) (z : AV) (l c : SArg)
  | slice (s : Nat) (x : SArg) (lo hi mx : Option SArg)
  | slcStr (x : SArg) (lo hi : Option SArg)
  | slcArr (n : Nat) (x : SArg)
  | faddr (off : Nat) (x : SArg)
  | field (off k : Nat) (agg : Bool) (x : SArg)
  | iaddr (s : Nat) (x i : SArg)
  | iaddrA (n s : Nat) (x i : SArg)
  | indexS (x i : SArg)
  | indexA (n s : Nat) (agg : Bool) (x i : SArg)
  | extract (x : SArg) (i : Nat)
  | len (x : SArg)
  | lenS (x : SArg)
  | cap (x : SArg)
  | mnmx (mx : Bool) (x y : SArg)
  | app (site s : Nat) (x y : SArg)
  | appZ (site s : Nat) (z : AV) (x n : SArg)
  | copy (s : Nat) (x y : SArg)
  | clear (s : Nat) (z : AV) (x : SArg)
  | call (m : Mode) (f : Nat) (args : List SArg)
  | callv (m : Mode) (x : SArg) (args : List SArg)
  | mkmap (site : Nat)
  | lookup (z : AV) (m k : SArg) (ok : Bool)
  | mapset (m k v : SArg)
  | mapdel (m k : SArg)
  | maplen (m : SArg)

/-- What an operation looked at, and wrote to; 'top': anything. -/
structure FP where
  rd : List Nat
  wr : List Nat
  top : Bool := false

def FP.z : FP := ⟨[], [], false⟩

def FP.apart (a b : FP) : Bool :=
  !a.top && !b.top && a.wr.all (fun j => !b.rd.contains j && !b.wr.contains j) && b.wr.all (fun j => !a.rd.contains j)

def storable : AV → Bool
  | .junk | .undef | .tup _ => false
  | _ => true

/-- The most elements that a slice may have here. -/
def roomy : Nat := 68719476736

abbrev R := Option (AV × Heap × FP)

def rv (v : AV) (H : Heap) : R := some (v, H, .z)

/-- Operators on numbers, truths, texts. -/
def abin (op : BinOp) : AV → AV → Option AV
  | .int k a, .int k' b =>
    match op with
    | .shl => if b < 0 then .none else some (.int k (k.wrap (a * 2 ^ min b.toNat k.bits)))
    | .shr => if b < 0 then .none else some (.int k (a.fdiv (2 ^ min b.toNat k.bits)))
    | _ =>
      if k ≠ k' then .none else
      match op with
      | .add => some (.int k (k.wrap (a + b)))
      | .sub => some (.int k (k.wrap (a - b)))
      | .mul => some (.int k (k.wrap (a * b)))
      | .quo => if b = 0 then .none else some (.int k (k.wrap (a.tdiv b)))
      | .rem => if b = 0 then .none else some (.int k (a.tmod b))
      | .and => some (.int k (k.wrap (BitVec.ofInt k.bits a &&& BitVec.ofInt k.bits b).toNat))
      | .or => some (.int k (k.wrap (BitVec.ofInt k.bits a ||| BitVec.ofInt k.bits b).toNat))
      | .xor => some (.int k (k.wrap (BitVec.ofInt k.bits a ^^^ BitVec.ofInt k.bits b).toNat))
      | .eql => some (.bool (a == b))
      | .neq => some (.bool (a != b))
      | .lss => some (.bool (decide (a < b)))
      | .leq => some (.bool (decide (a ≤ b)))
      | .gtr => some (.bool (decide (a > b)))
      | .geq => some (.bool (decide (a ≥ b)))
      | _ => .none
  | .str a, .str b =>
    match op with
    | .add => if (a.size + b.size : Nat) ≤ roomy then some (.str (a ++ b)) else .none
    | .eql => some (.bool (a.toList == b.toList))
    | .neq => some (.bool (!(a.toList == b.toList)))
    | _ => .none
  | _, _ => .none

def aun (op : UnOp) : AV → Option AV
  | .int k n =>
    match op with
    | .neg => some (.int k (k.wrap (0 - n)))
    | .xor => some (.int k (k.wrap (BitVec.ofInt k.bits (if k.signed then -1 else k.max) ^^^ BitVec.ofInt k.bits n).toNat))
    | _ => .none
  | .bool b => match op with | .not => some (.bool !b) | _ => .none
  | _ => .none

def nilOf : AV → Option Bool
  | .islc _ _ _ (_ :: _) => some false
  | _ => .none

def scalar : AV → Bool
  | .int .. | .bool _ | .str _ => true
  | _ => false

def eqScalar : AV → AV → Option Bool
  | .int k a, .int k' b => if k = k' then some (a == b) else .none
  | .bool a, .bool b => some (a == b)
  | .str a, .str b => some (a == b)
  | _, _ => .none

def eqCells : List AV → List AV → Option Bool
  | [], [] => some true
  | a :: x, b :: y => do
    let e ← eqScalar a b
    let r ← eqCells x y
    some (e && r)
  | _, _ => .none

def natOf : AV → Option Nat
  | .int _ n => if 0 ≤ n then some n.toNat else .none
  | _ => .none

def optNat (T : Tmps) : Option SArg → Option (Option Nat)
  | .none => some .none
  | some a => (natOf (a.ev T)).map some

def isNil : List AV → Bool
  | [] => true
  | _ => false

/-- A slice cut anew. -/
def aslice (H : Heap) (s : Nat) (x : AV) (lo hi mx : Option Nat) : R :=
  match x with
  | .islc t full s' es =>
    if ¬ (isNil es ∨ s' = s) then .none else
    let l := lo.getD 0
    let h := hi.getD es.length
    let m := mx.getD es.length
    if l ≤ h ∧ h ≤ m ∧ m ≤ es.length ∧ (hi = .none → mx = .none) then
      some (.islc t ((full || mx.isSome) && decide (h = m)) s ((es.drop l).take (h - l)), H, .z)
    else .none
  | .slc j g ver s' off len cap =>
    if s' ≠ s then .none else
    match H.row j g ver s with
    | .none => .none
    | some _ =>
      let l := lo.getD 0
      let h := hi.getD len
      let c := cap.getD (ver - off)
      let m := mx.getD c
      if l ≤ h ∧ h ≤ m ∧ m ≤ c ∧ off + c ≤ ver ∧ (hi = .none → mx = .none) then
        some (.slc j g ver s (off + l) (h - l) (match mx with | some m => some (m - l) | .none => cap.map (· - l)), H, ⟨[j], [], false⟩)
      else .none
  | _ => .none

/-- The elements that a slice shows. -/
def elemsOf (H : Heap) (s : Nat) : AV → Option (List AV × List Nat)
  | .islc _ _ s' es => if isNil es ∨ s' = s then some (es, []) else .none
  | .slc j g ver s' off len _ =>
    match H.row j g ver s' with
    | some es => if s' = s ∧ off + len ≤ ver then some ((es.drop off).take len, [j]) else .none
    | .none => .none
  | .str b => if s = 1 then some (b.data.toList.map fun c => .int .u8 c.toNat, []) else .none
  | _ => .none

def bytesOf : List AV → Option (List UInt8)
  | [] => some []
  | .int .u8 n :: r => (bytesOf r).map (UInt8.ofNat n.toNat :: ·)
  | _ => .none

def isStrV : AV → Bool
  | .str _ => true
  | _ => false

/-- What is laid into a row names no block. -/
def absorb (H : Heap) (es : List AV) : Option (List AV × Heap × List Nat) :=
  if norefsL es then some (es, H, []) else .none

def sized (s : Nat) (e : AV) : Bool := e.cells.length == s

/-- Elements put behind a slice. -/
def appendTo (H : Heap) (site s : Nat) (x : AV) (ys : List AV) : R :=
  match x with
  | .islc _ full s' es =>
    if isNil ys then some (x, H, .z)
    else if full ∧ isNil es ∧ ys.length ≤ roomy then
      some (.slc site ((H site).gen + 1) ys.length s 0 ys.length .none, H.newRow site s ys, ⟨[], [site], false⟩)
    else .none
  | .slc j g ver s' off len cap =>
    if isNil ys then some (x, H, .z)
    else match H.rowW j g ver s' with
    | .none => .none
    | some es =>
      if s' = s ∧ off + len ≤ ver ∧ len + ys.length ≤ roomy then
        if len + ys.length ≤ cap.getD (ver - off) ∧ off + cap.getD (ver - off) ≤ ver then
          some (.slc j g ver s off (len + ys.length) cap, H.setRow j s (es.take (off + len) ++ ys ++ es.drop (off + len + ys.length)), ⟨[j], [j], false⟩)
        else match cap with
          | .none =>
            if off = 0 ∧ len = ver then
              some (.slc j g (len + ys.length) s 0 (len + ys.length) .none, H.setRow j s (es ++ ys), ⟨[j], [j], false⟩)
            else .none
          | some c =>
            if c < len + ys.length then
              some (.slc site ((H site).gen + 1) (len + ys.length) s 0 (len + ys.length) .none, H.newRow site s ((es.drop off).take len ++ ys), ⟨[j], [site], false⟩)
            else .none
      else .none
  | _ => .none

def aappend (H : Heap) (site s : Nat) (x y : AV) : R := do
  let (ys, r1) ← elemsOf H s y
  let (ys', H1, k) ← absorb H ys
  let (v, H2, fp) ← appendTo H1 site s x ys'
  some (v, H2, ⟨r1 ++ k ++ fp.rd, k ++ fp.wr, false⟩)

def acopy (H : Heap) (s : Nat) (x y : AV) : R := do
  let (ys, r1) ← elemsOf H s y
  if !norefsL ys then .none else
  match x with
  | .islc _ _ _ es => if isNil es ∨ isNil ys then some (.int .i64 0, H, ⟨r1, [], false⟩) else .none
  | .slc j g ver s' off len _ =>
    match H.rowW j g ver s' with
    | .none => .none
    | some es =>
      if s' = s ∧ off + len ≤ ver then
        let n := min ys.length len
        some (.int .i64 n, H.setRow j s (es.take off ++ ys.take n ++ es.drop (off + n)), ⟨j :: r1, [j], false⟩)
      else .none
  | _ => .none

def fillCells (z : List AV) : List (Nat × Nat × AV) → Option (List AV)
  | [] => some z
  | (off, k, v) :: r =>
    if storable v ∧ v.cells.length = k ∧ off + k ≤ z.length then fillCells (z.take off ++ v.cells ++ z.drop (off + k)) r else .none

def fillElems (s : Nat) (z : List AV) : List (Nat × AV) → Option (List AV)
  | [] => some z
  | (i, v) :: r => if storable v ∧ v.cells.length = s ∧ i < z.length then fillElems s (z.set i v) r else .none

/-- Maps from numbers: the model's own order. -/
def mapGet (k : Int) : List (Int × AV) → Option AV
  | [] => .none
  | (a, v) :: r => if k = a then some v else mapGet k r
def mapSet (k : Int) (v : AV) : List (Int × AV) → List (Int × AV)
  | [] => [(k, v)]
  | (a, u) :: r => if k = a then (a, v) :: r else (a, u) :: mapSet k v r
def mapDel (k : Int) : List (Int × AV) → List (Int × AV)
  | [] => []
  | (a, u) :: r => if k = a then r else (a, u) :: mapDel k r

def Heap.mapAt (H : Heap) (j g : Nat) : Option (List (Int × AV)) :=
  match H j with
  | ⟨g', false, .map es⟩ => if g' = g then some es else .none
  | _ => .none

/-- What a callee does: its number, where its names begin, its arguments, the heap. -/
def CallF := Nat → Nat → List AV → Heap → Option (AV × Heap)
/-- What a function of the table 'ext' answers. -/
def ExtF := Nat → List AV → Option AV

/-- A result of a call, one block of which is the caller's then. -/
def moveOut (H Hc : Heap) (site : Nat) (v : AV) (rest : List AV) : Option (AV × List AV × Heap) :=
  match v with
  | .slc j g ver s off len cap =>
    match Hc.rowW j g ver s with
    | some es =>
      if norefsL es ∧ norefsL rest then
        some (.slc site ((H site).gen + 1) ver s off len cap, rest.map (fz true deep Hc), H.newRow site s (es.map (fz true deep Hc)))
      else .none
    | .none => .none
  | v => if v.norefs ∧ norefsL rest then some (fz true deep Hc v, rest.map (fz true deep Hc), H) else .none

def moveRes (H Hc : Heap) (site : Nat) (v : AV) : Option (AV × Heap) :=
  match v with
  | .tup (u :: r) => match moveOut H Hc site u r with
    | some (u', r', H') => some (.tup (u' :: r'), H')
    | .none => .none
  | .tup [] => .none
  | v => match moveOut H Hc site v [] with
    | some (v', _, H') => some (v', H')
    | .none => .none

def acallM (cf : CallF) (xf : ExtF) (base : Nat) (m : Mode) (f : Nat) (args : List AV) (H : Heap) : R :=
  match m with
  | .pure => do
    let (v, Hc) ← cf f 0 (args.map (fz false deep H)) .none
    some (fz true deep Hc v, H, ⟨args.flatMap (vis deep H), [], false⟩)
  | .ext => do
    let v ← xf f (args.map (fz false deep H))
    some (v, H, ⟨args.flatMap (vis deep H), [], false⟩)
  | .fresh site => do
    let (v, Hc) ← cf f 0 (args.map (fz false deep H)) .none
    let (v', H') ← moveRes H Hc (base + site) v
    some (v', H', ⟨args.flatMap (vis deep H), [base + site], false⟩)
  | .inl b => do
    let (v, H') ← cf f (base + b) args H
    some (v, H', ⟨[], [], true⟩)

def aop (cf : CallF) (xf : ExtF) (base : Nat) (T : Tmps) (H : Heap) : SOp → R
  | .mv x => rv (x.ev T) H
  | .pick c a b => match c.ev T with
    | .bool t => rv (if t then a.ev T else b.ev T) H
    | _ => .none
  | .box site x =>
    let v := x.ev T
    if !storable v then .none else
    some (.ptr (base + site) ((H (base + site)).gen + 1) 1 v.cells.length 0 0, H.newRow (base + site) v.cells.length [v], ⟨[], [base + site], false⟩)
  | .nilrow site s => some (.slc (base + site) ((H (base + site)).gen + 1) 0 s 0 0 .none, H.newRow (base + site) s [], ⟨[], [base + site], false⟩)
  | .build z parts => do
    let cs ← fillCells z (parts.map fun (o, k, x) => (o, k, x.ev T))
    rv (.agg cs) H
  | .buildS site s n z parts =>
    if z.cells.length ≠ s then .none else
    match fillElems s (List.replicate n z) (parts.map fun (i, x) => (i, x.ev T)) with
    | .none => .none
    | some es => some (.slc (base + site) ((H (base + site)).gen + 1) n s 0 n .none, H.newRow (base + site) s es, ⟨[], [base + site], false⟩)
  | .empty s => rv (.islc false true s []) H
  | .load k agg x =>
    match x.ev T with
    | .ptr j g ver s i off =>
      match H.row j g ver s with
      | some es => match es[i]? with
        | some e =>
          if off + k ≤ e.cells.length then
            some (if agg then .agg ((e.cells.drop off).take k) else ((e.cells.drop off).headD .undef), H, ⟨[j], [], false⟩)
          else .none
        | .none => .none
      | .none => .none
    | .iptr _ cs => if k ≤ cs.length then rv (if agg then .agg (cs.take k) else cs.headD .undef) H else .none
    | _ => .none
  | .store k x v =>
    match x.ev T with
    | .ptr j g ver s i off =>
      match H.rowW j g ver s with
      | some es => match es[i]? with
        | some e =>
          let cs := (v.ev T).cells
          if storable (v.ev T) ∧ cs.length = k ∧ off + k ≤ e.cells.length then
            some (.undef, H.setRow j s (es.set i (e.rewrap (e.cells.take off ++ cs ++ e.cells.drop (off + k)))), ⟨[j], [j], false⟩)
          else .none
        | .none => .none
      | .none => .none
    | _ => .none
  | .nilc x =>
    match x.ev T with
    | .ptr j g ver s i off => rv (.ptr j g ver s i off) H
    | .iptr t cs => rv (.iptr t cs) H
    | .fn f cs => rv (.fn f cs) H
    | _ => .none
  | .bin op x y => (abin op (x.ev T) (y.ev T)).bind (rv · H)
  | .eqnil neg x => (nilOf (x.ev T)).bind fun b => rv (.bool (b != neg)) H
  | .eqagg neg x y =>
    match x.ev T, y.ev T with
    | .agg a, .agg b => (eqCells a b).bind fun r => rv (.bool (r != neg)) H
    | _, _ => .none
  | .eqb neg x y =>
    match x.ev T, y.ev T with
    | .bool a, .bool b => rv (.bool ((a == b) != neg)) H
    | _, _ => .none
  | .un op x => (aun op (x.ev T)).bind (rv · H)
  | .cvi k x => match x.ev T with
    | .int _ n => rv (.int k (k.wrap n)) H
    | _ => .none
  | .s2b site x => match x.ev T with
    | .str b =>
      if 0 < b.size then
        some (.slc (base + site) ((H (base + site)).gen + 1) b.size 1 0 b.size .none, H.newRow (base + site) 1 (b.data.toList.map fun c => .int .u8 c.toNat), ⟨[], [base + site], false⟩)
      else .none
    | _ => .none
  | .b2s x =>
    if isStrV (x.ev T) then .none else do
    let (es, r) ← elemsOf H 1 (x.ev T)
    let bs ← bytesOf es
    some (.str ⟨bs.toArray⟩, H, ⟨r, [], false⟩)
  | .ss x => match x.ev T with
    | .slc j g ver s off len cap =>
      match H.rowW j g ver s with
      | some es => if off < ver ∧ 0 < len then some (.slc j g ver s off len cap, H.setRow j s es, ⟨[j], [j], false⟩) else .none
      | .none => .none
    | _ => .none
  | .mkfn f caps => rv (.fn f (caps.map (SArg.ev T))) H
  | .mks site s z l c => do
    let l ← natOf (l.ev T)
    let c ← natOf (c.ev T)
    if l ≤ c ∧ c ≤ roomy ∧ z.cells.length = s then
      some (.slc (base + site) ((H (base + site)).gen + 1) c s 0 l .none, H.newRow (base + site) s (List.replicate c z), ⟨[], [base + site], false⟩)
    else .none
  | .slice s x lo hi mx => do
    let lo ← optNat T lo
    let hi ← optNat T hi
    let mx ← optNat T mx
    aslice H s (x.ev T) lo hi mx
  | .slcStr x lo hi => do
    let lo ← optNat T lo
    let hi ← optNat T hi
    match x.ev T with
    | .str b =>
      let l := lo.getD 0
      let h := hi.getD b.size
      if l ≤ h ∧ h ≤ b.size then rv (.str (b.extract l h)) H else .none
    | _ => .none
  | .slcArr n x => match x.ev T with
    | .iptr t cs => if n ≤ cs.length then rv (.islc t false 1 (cs.take n)) H else .none
    | _ => .none
  | .faddr off x => match x.ev T with
    | .ptr j g ver s i o => rv (.ptr j g ver s i (o + off)) H
    | .iptr t cs => if off ≤ cs.length then rv (.iptr t (cs.drop off)) H else .none
    | _ => .none
  | .field off k agg x => match x.ev T with
    | .agg cs => if off + k ≤ cs.length then rv (if agg then .agg ((cs.drop off).take k) else ((cs.drop off).headD .undef)) H else .none
    | _ => .none
  | .iaddr s x i => do
    let i ← natOf (i.ev T)
    match x.ev T with
    | .slc j g ver s' off len _ =>
      let _es ← H.row j g ver s'
      if s' = s ∧ i < len ∧ off + len ≤ ver then some (.ptr j g ver s (off + i) 0, H, ⟨[j], [], false⟩) else .none
    | .islc t _ s' es =>
      if s' ≠ s then .none else
      match es[i]? with
      | some e => rv (.iptr t e.cells) H
      | .none => .none
    | _ => .none
  | .iaddrA n s x i => do
    let i ← natOf (i.ev T)
    if n ≤ i then .none else
    match x.ev T with
    | .ptr j g ver s' k o => rv (.ptr j g ver s' k (o + i * s)) H
    | .iptr t cs => if i * s ≤ cs.length then rv (.iptr t (cs.drop (i * s))) H else .none
    | _ => .none
  | .indexS x i => do
    let i ← natOf (i.ev T)
    match x.ev T with
    | .str b => match b.data.toList[i]? with
      | some c => rv (.int .u8 c.toNat) H
      | .none => .none
    | _ => .none
  | .indexA n s agg x i => do
    let i ← natOf (i.ev T)
    if n ≤ i then .none else
    match x.ev T with
    | .agg cs => if i * s + s ≤ cs.length then rv (if agg then .agg ((cs.drop (i * s)).take s) else ((cs.drop (i * s)).headD .undef)) H else .none
    | _ => .none
  | .extract x i => match x.ev T with
    | .tup vs => match vs[i]? with
      | some v => rv v H
      | .none => .none
    | _ => .none
  | .len x => match x.ev T with
    | .slc _ _ _ _ _ len _ => rv (.int .i64 len) H
    | .islc _ _ _ es => rv (.int .i64 es.length) H
    | _ => .none
  | .lenS x => match x.ev T with
    | .str b => rv (.int .i64 b.size) H
    | _ => .none
  | .cap x => match x.ev T with
    | .islc _ true _ es => rv (.int .i64 es.length) H
    | _ => .none
  | .mnmx mx x y => match x.ev T, y.ev T with
    | .int k a, .int k' b => if k = k' then rv (.int k (if mx then (if a < b then b else a) else (if b < a then b else a))) H else .none
    | _, _ => .none
  | .app site s x y => aappend H (base + site) s (x.ev T) (y.ev T)
  | .appZ site s z x n => do
    let n ← natOf (n.ev T)
    if n ≤ roomy ∧ z.cells.length = s ∧ z.norefs then appendTo H (base + site) s (x.ev T) (List.replicate n z) else .none
  | .copy s x y => acopy H s (x.ev T) (y.ev T)
  | .clear s z x => match x.ev T with
    | .islc _ _ _ [] => rv .undef H
    | .slc j g ver s' off len _ =>
      match H.rowW j g ver s' with
      | some es => if s' = s ∧ off + len ≤ ver ∧ z.cells.length = s then
          some (.undef, H.setRow j s (es.take off ++ List.replicate len z ++ es.drop (off + len)), ⟨[j], [j], false⟩)
        else .none
      | .none => .none
    | _ => .none
  | .call m f args => acallM cf xf base m f (args.map (SArg.ev T)) H
  | .callv m x args => match x.ev T with
    | .fn f caps => acallM cf xf base m f (args.map (SArg.ev T) ++ caps) H
    | _ => .none
  | .mkmap site => some (.mp (base + site) ((H (base + site)).gen + 1), H.upd (base + site) ⟨(H (base + site)).gen + 1, false, .map []⟩, ⟨[], [base + site], false⟩)
  | .lookup z m k ok => match m.ev T, k.ev T with
    | .mp j g, .int .i64 n => do
      let es ← H.mapAt j g
      let r := mapGet n es
      let v := r.getD z
      some (if ok then .tup [v, .bool r.isSome] else v, H, ⟨[j], [], false⟩)
    | _, _ => .none
  | .mapset m k v => match m.ev T, k.ev T with
    | .mp j g, .int .i64 n => do
      let es ← H.mapAt j g
      if (v.ev T).norefs ∧ storable (v.ev T) ∧ (v.ev T).cells.length = 1 then
        some (.undef, H.upd j ⟨(H j).gen, false, .map (mapSet n (v.ev T) es)⟩, ⟨[j], [j], false⟩)
      else .none
    | _, _ => .none
  | .mapdel m k => match m.ev T, k.ev T with
    | .mp j g, .int .i64 n => do
      let es ← H.mapAt j g
      some (.undef, H.upd j ⟨(H j).gen, false, .map (mapDel n es)⟩, ⟨[j], [j], false⟩)
    | _, _ => .none
  | .maplen m => match m.ev T with
    | .mp j g => do
      let es ← H.mapAt j g
      some (.int .i64 es.length, H, ⟨[j], [], false⟩)
    | _ => .none

structure SOper where
  dst : Option Nat
  op : SOp
  guard : Option (Nat × Bool) := .none
  un : List Nat := []

inductive SCode where
  | skip
  | region (ops : List SOper)
  | seq (a b : SCode)
  | cond (c : SArg) (a b : SCode)
  | block (id : Nat) (b : SCode)
  | loop (b : SCode)
  | exit (id : Nat)
  | ret

def Tmps.put (T : Tmps) : Option Nat → AV → Tmps
  | some d, v => T.upd d v
  | .none, _ => T

/-- Is the operation wanted? -/
def awanted (T : Tmps) : Option (Nat × Bool) → Option Bool
  | .none => some true
  | some (t, b) => match T t with
    | .bool c => some (c == b)
    | .undef => some false
    | _ => .none

def logOk (log : List FP) (fp : FP) (un : List Nat) : Bool :=
  un.all fun k => match log[k]? with | some f => f.apart fp | .none => false

def aops (cf : CallF) (xf : ExtF) (base : Nat) : List SOper → List FP → Tmps → Heap → Option (Tmps × Heap)
  | [], _, T, H => some (T, H)
  | o :: r, log, T, H =>
    match awanted T o.guard with
    | .none => .none
    | some false => aops cf xf base r (log ++ [.z]) (T.put o.dst .undef) H
    | some true =>
      match aop cf xf base T H o.op with
      | .none => .none
      | some (v, H', fp) => if logOk log fp o.un then aops cf xf base r (log ++ [fp]) (T.put o.dst v) H' else .none

inductive Ex where
  | normal
  | exit (id : Nat)
  | ret

abbrev XR := Option (Ex × Tmps × Heap)

def aiter (body : Tmps → Heap → XR) : Nat → Tmps → Heap → XR
  | 0, _, _ => .none
  | n + 1, T, H =>
    match body T H with
    | some (.normal, T', H') => aiter body n T' H'
    | r => r

def aexec (cf : CallF) (xf : ExtF) (base fuel : Nat) : SCode → Tmps → Heap → XR
  | .skip, T, H => some (.normal, T, H)
  | .region ops, T, H => match aops cf xf base ops [] T H with
    | some (T', H') => some (.normal, T', H')
    | .none => .none
  | .seq a b, T, H => match aexec cf xf base fuel a T H with
    | some (.normal, T', H') => aexec cf xf base fuel b T' H'
    | r => r
  | .cond c a b, T, H => match c.ev T with
    | .bool true => aexec cf xf base fuel a T H
    | .bool false => aexec cf xf base fuel b T H
    | _ => .none
  | .block id b, T, H => match aexec cf xf base fuel b T H with
    | some (.exit i, T', H') => if i = id then some (.normal, T', H') else some (.exit i, T', H')
    | r => r
  | .loop b, T, H => aiter (aexec cf xf base fuel b) fuel T H
  | .exit id, T, H => some (.exit id, T, H)
  | .ret, T, H => some (.ret, T, H)

inductive SRes where
  | tmp (t : Nat)
  | cell (t k : Nat) (agg : Bool)

structure SFun where
  nparams : Nat
  results : List SRes
  code : SCode

def ares (T : Tmps) (H : Heap) : SRes → Option AV
  | .tmp t => some (T t)
  | .cell t k agg =>
    match T t with
    | .ptr j g ver s i off =>
      match H.row j g ver s with
      | some es => match es[i]? with
        | some e => if off + k ≤ e.cells.length then some (if agg then .agg ((e.cells.drop off).take k) else ((e.cells.drop off).headD .undef)) else .none
        | .none => .none
      | .none => .none
    | _ => .none

def aresults (T : Tmps) (H : Heap) (rs : List SRes) : Option AV :=
  match rs.mapM (ares T H) with
  | some [v] => some v
  | some vs => some (.tup vs)
  | .none => .none

def tmps0 (args : List AV) : Tmps := fun i => args.getD i .undef

/-- The program, as it is laid for the interpreter. -/
abbrev Prog := Nat → Option SFun

def acall (B : Prog) (xf : ExtF) (gf : CallF) : Nat → CallF
  | 0, _, _, _, _ => .none
  | k + 1, f, base, args, H =>
    match B f with
    | .none => gf f base args H
    | some fn =>
      if args.length = fn.nparams then
        match aexec (acall B xf gf k) xf base k fn.code (tmps0 args) H with
        | some (.normal, T', H') | some (.ret, T', H') => (aresults T' H' fn.results).map fun v => (v, H')
        | _ => .none
      else .none

end Go.AI
