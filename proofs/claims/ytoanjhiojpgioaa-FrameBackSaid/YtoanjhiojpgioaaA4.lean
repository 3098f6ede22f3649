/- The kit's code, laid for the interpreter. -/
import Derived.Test.YtoanjhiojpgioaaA3
namespace Go.AI

def cvtAtom : Value → Option AV
  | .int k n => some (.int k n)
  | .bool b => some (.bool b)
  | .string s => some (.str s)
  | .slice none 0 0 => some (.islc false true 0 [])
  | .pointer none => some .nilp
  | .nilFunc => some .nilf
  | _ => none

def cvtL : List Value → Option (List AV)
  | [] => some []
  | v :: r => match cvtAtom v, cvtL r with
    | some a, some l => some (a :: l)
    | _, _ => none

def cvt : Value → Option AV
  | .agg cs => (cvtL cs.toList).map .agg
  | .tuple cs => if cs.size = 0 then some .undef else none
  | v => cvtAtom v

def sarg : Operand → Option SArg
  | .tmp t => some (.t t)
  | .const v => (cvt v).map .c
  | .func f => some (.c (.fn f []))
  | .global _ => none

def sargs : List Operand → Option (List SArg)
  | [] => some []
  | x :: r => match sarg x, sargs r with
    | some a, some l => some (a :: l)
    | _, _ => none

def sopt : Option Operand → Option (Option SArg)
  | none => some none
  | some x => (sarg x).map some

def isAggB (P : Program) (t : TypeId) : Bool :=
  match P.underlying t with
  | some (.struct _) | some (.array _ _) => true
  | _ => false

def sizeOf? (P : Program) (t : TypeId) : Option Nat :=
  match P.underlying t with
  | some _ => (P.info? t).map (·.size)
  | none => none

def zeroOf? (P : Program) (t : TypeId) : Option AV := ((P.info? t).bind (·.zero)).bind cvt

/-- What the interpreter is told of an operation: where a new block gets its name; how a call is taken. -/
structure Hint where
  site : Nat := 0
  mode : Mode := .pure
  nilrow : Bool := false
  deriving Inhabited

def isNilSlice : Operand → Bool
  | .const (.slice none 0 0) => true
  | _ => false
def isNilPtr : Operand → Bool
  | .const (.pointer none) => true
  | _ => false
def isNilFn : Operand → Bool
  | .const .nilFunc => true
  | _ => false

def fieldOf (P : Program) (t : TypeId) (f : Nat) : Option (Nat × Nat × Bool) :=
  match P.underlying t with
  | some (.struct fs) => match fs[f]? with
    | some x => match sizeOf? P x.type with
      | some s => if s = 0 then none else some (x.offset, s, isAggB P x.type)
      | none => none
    | none => none
  | _ => none

def elemOf? (P : Program) (t : TypeId) : Option TypeId :=
  match P.underlying t with
  | some (.slice e) => some e
  | _ => none

/-- An element type: its cells, its zero; no more than 1,024 bytes. -/
def elemInfo (P : Program) (e : TypeId) : Option (Nat × AV) :=
  match P.info? e with
  | some i => match i.zero with
    | some z => match cvt z with
      | some a => if 0 < i.size ∧ 0 < i.bytes ∧ i.bytes ≤ 1024 ∧ a.cells.length = i.size ∧ z.cells.size = i.size ∧ storable a then some (i.size, a) else none
      | none => none
    | none => none
  | none => none

def isInt (P : Program) (t : TypeId) : Bool := match P.underlying t with | some (.int _) => true | _ => false
def isStr (P : Program) (t : TypeId) : Bool := match P.underlying t with | some .string => true | _ => false
def isBoolT (P : Program) (t : TypeId) : Bool := match P.underlying t with | some .bool => true | _ => false
def isU8 (P : Program) (t : TypeId) : Bool := match P.underlying t with | some (.int .u8) => true | _ => false

def isI64 (P : Program) (t : TypeId) : Bool := match P.underlying t with | some (.int .i64) => true | _ => false

def placesOf (P : Program) (t : TypeId) : Option (List (Nat × Nat)) :=
  match P.underlying t with
  | some (.struct fields) => fields.toList.mapM (fun f => (P.info? f.type).map fun i => (f.offset, i.size))
  | _ => none

def sparts (places : List (Nat × Nat)) : List (Nat × Operand) → Option (List (Nat × Nat × SArg))
  | [] => some []
  | (i, x) :: r => match places[i]?, sarg x, sparts places r with
    | some (o, k), some a, some l => some ((o, k, a) :: l)
    | _, _, _ => none

def separts : List (Nat × Operand) → Option (List (Nat × SArg))
  | [] => some []
  | (i, x) :: r => match sarg x, separts r with
    | some a, some l => some ((i, a) :: l)
    | _, _ => none

def isEq : BinOp → Option Bool
  | .eql => some false
  | .neq => some true
  | _ => none

def stripBuiltin (P : Program) (h : Hint) (b : Builtin) (argTypes : List TypeId) (args : List Operand) : Option SOp :=
  match b, argTypes, args with
  | .len, [t], [x] => match P.underlying t with
    | some (.slice _) => (sarg x).map .len
    | some .string => (sarg x).map .lenS
    | some (.array n _) => some (.mv (.c (.int .i64 n)))
    | _ => none
  | .cap, [t], [x] => match P.underlying t with
    | some (.slice _) => (sarg x).map .cap
    | _ => none
  | .append, [t, u], [x, y] => match elemOf? P t with
    | some e => match elemInfo P e with
      | some (s, z) => match sarg x, sarg y with
        | some x, some y =>
          match P.underlying u with
          | some (.int _) => some (.appZ h.site s z x y)
          | some (.slice _) => some (.app h.site s x y)
          | some .string => some (.app h.site s x y)
          | _ => none
        | _, _ => none
      | none => none
    | none => none
  | .min, [_, _], [x, y] => match sarg x, sarg y with
    | some x, some y => some (.mnmx false x y)
    | _, _ => none
  | .max, [_, _], [x, y] => match sarg x, sarg y with
    | some x, some y => some (.mnmx true x y)
    | _, _ => none
  | _, _, _ => none

def stripOp (P : Program) (h : Hint) (o : Oper) : Option SOp :=
  match o.op with
  | .move x => (sarg x).map .mv
  | .assign x =>
    if h.nilrow && isNilSlice x then
      match elemOf? P o.type with
      | some e => match elemInfo P e with
        | some (s, _) => some (.nilrow h.site s)
        | none => none
      | none => none
    else (sarg x).map .mv
  | .pick c a b => match sarg c, sarg a, sarg b with
    | some c, some a, some b => some (.pick c a b)
    | _, _, _ => none
  | .alloc e => (zeroOf? P e).map fun z => .box h.site (.c z)
  | .box _ x => (sarg x).map (.box h.site)
  | .build t parts => match zeroOf? P t with
    | some (.agg z) => match placesOf P t with
      | some places => (sparts places parts.toList).map (.build z)
      | none => match P.underlying t with
        | some (.array _ e) => if parts.size = 0 ∧ (P.info? e).isSome then some (.build z []) else none
        | _ => none
    | _ => none
  | .buildSlice t n parts => match elemOf? P t with
    | some e => match elemInfo P e with
      | some (s, z) => if n * s ≤ 16777216 ∧ 0 < n then (separts parts.toList).map (.buildS h.site s n z) else if n = 0 ∧ parts.size = 0 then some (.empty s) else none
      | none => none
    | none => none
  | .load t x => match sizeOf? P t, sarg x with
    | some k, some x => if isAggB P t ∨ k = 1 then some (.load k (isAggB P t) x) else none
    | _, _ => none
  | .store t x v => match sizeOf? P t, sarg x, sarg v with
    | some k, some x, some v => some (.store k x v)
    | _, _, _ => none
  | .nilCheck x => (sarg x).map .nilc
  | .binOp op t x y _ =>
    match isEq op with
    | some neg =>
      match P.underlying t with
      | some (.int _) | some .string => match sarg x, sarg y with
        | some x, some y => some (.bin op x y)
        | _, _ => none
      | some .bool => match sarg x, sarg y with
        | some x, some y => some (.eqb neg x y)
        | _, _ => none
      | some (.slice _) => if isNilSlice y then (sarg x).map (.eqnil neg) else none
      | _ => none
    | none => match sarg x, sarg y with
      | some x, some y => some (.bin op x y)
      | _, _ => none
  | .unOp op _ x => (sarg x).map (.un op)
  | .convert s d x => match P.underlying s, P.underlying d, sarg x with
    | some (.int _), some (.int k), some x => some (.cvi k x)
    | some .string, some (.slice e), some x => if isU8 P e ∧ (sizeOf? P e = some 1) then some (.s2b h.site x) else none
    | some (.slice e), some .string, some x => if isU8 P e then some (.b2s x) else none
    | some (.slice _), some (.slice e), some x => if isU8 P e ∧ (s == d) = true then some (.ss x) else none
    | _, _, _ => none
  | .makeFunc (.func f) first caps => if first.size = 0 then (sargs caps.toList).map (.mkfn f) else none
  | .makeSlice t l c => match elemOf? P t with
    | some e => match elemInfo P e with
      | some (s, z) => match sarg l, sarg c with
        | some l, some c => some (.mks h.site s z l c)
        | _, _ => none
      | none => none
    | none => none
  | .slice t x lo hi mx => match sarg x, sopt lo, sopt hi, sopt mx with
    | some x, some lo, some hi, some mx => match P.underlying t with
      | some (.slice e) => match sizeOf? P e with
        | some s => some (.slice s x lo hi mx)
        | none => none
      | some .string => if mx.isNone then some (.slcStr x lo hi) else none
      | some (.array n e) => if lo.isNone ∧ hi.isNone ∧ mx.isNone ∧ sizeOf? P e = some 1 then some (.slcArr n x) else none
      | _ => none
    | _, _, _, _ => none
  | .fieldAddr t x f => match fieldOf P t f, sarg x with
    | some (o, _, _), some x => some (.faddr o x)
    | _, _ => none
  | .field t x f => match fieldOf P t f, sarg x with
    | some (o, k, b), some x => if b ∨ k = 1 then some (.field o k b x) else none
    | _, _ => none
  | .indexAddr t x i => match sarg x, sarg i with
    | some x, some i => match P.underlying t with
      | some (.slice e) => match sizeOf? P e with
        | some s => some (.iaddr s x i)
        | none => none
      | some (.array n e) => match sizeOf? P e with
        | some s => some (.iaddrA n s x i)
        | none => none
      | _ => none
    | _, _ => none
  | .index t x i => match sarg x, sarg i with
    | some x, some i => match P.underlying t with
      | some .string => some (.indexS x i)
      | some (.array n e) => match sizeOf? P e with
        | some s => if isAggB P e ∨ s = 1 then some (.indexA n s (isAggB P e) x i) else none
        | none => none
      | _ => none
    | _, _ => none
  | .extract x i => (sarg x).map (.extract · i)
  | .call c => match c.callee with
    | .builtin b => stripBuiltin P h b c.argTypes.toList c.args.toList
    | .value (.func f) => match P.funcs[f]? with
      | some fn => if fn.body.isSome ∧ fn.name ≠ "runtime.NumGoroutine" then (sargs c.args.toList).map (.call h.mode f) else none
      | none => none
    | .value (.tmp t) => (sargs c.args.toList).map (.callv h.mode (.t t))
    | _ => none
  | _ => none

/-- Which operations may stand in each other's way: 0: it looks at no block; 1: it looks; 2: it writes or makes one. -/
def cls : SOp → Nat
  | .box .. | .nilrow .. | .buildS .. | .store .. | .s2b .. | .ss .. | .mks .. | .app .. | .appZ .. | .copy .. | .clear .. | .mkmap .. | .mapset .. | .mapdel .. => 2
  | .call .pure .. | .call .ext .. | .callv .pure .. | .callv .ext .. => 1
  | .call .. | .callv .. => 2
  | .load .. | .slice .. | .iaddr .. | .b2s .. | .lookup .. | .maplen .. => 1
  | _ => 0

def inTheWay (a b : SOp) : Bool := cls a ≠ 0 && cls b ≠ 0 && (cls a == 2 || cls b == 2)

def guardOf (ops : Array Oper) : Option (Nat × Bool) → Option (Option (Nat × Bool))
  | none => some none
  | some (j, b) => match (ops[j]?).bind (·.dst) with
    | some d => some (some (d, b))
    | none => none

/-- Each operation by itself. -/
def stripOps (P : Program) (n : Nat) (hs : Nat → Hint) (ops : Array Oper) : Nat → List Oper → Option (List SOper)
  | _, [] => some []
  | i, o :: r =>
    match stripOp P (hs i) o, guardOf ops o.guard, stripOps P n hs ops (i + 1) r with
    | some op, some g, some l => if (o.dst.all (· < n)) then some (⟨o.dst, op, g, []⟩ :: l) else none
    | _, _, _ => none

/-- What an operation waits for itself. -/
def direct (o : Oper) : List Nat := o.after.toList.filterMap fun e => if Region.binds .any e then some e.on else none

/-- What each operation waits for. -/
def befs : List Oper → List (List Nat) → List (List Nat)
  | [], acc => acc
  | o :: r, acc => befs r (acc ++ [((direct o).filter (· < acc.length)).flatMap fun k => k :: acc.getD k []])

def directOk : List Oper → Nat → Bool
  | [], _ => true
  | o :: r, i => (direct o).all (· < i) && directOk r (i + 1)

/-- Which of the earlier ones are not waited for. -/
def unOf (bef : List (List Nat)) (l : List SOper) (i : Nat) (op : SOp) : List Nat :=
  (List.range i).filter fun k => !(bef.getD i []).contains k && match l[k]? with | some x => inTheWay x.op op | none => true

def withUn (bef : List (List Nat)) (all : List SOper) : Nat → List SOper → List SOper
  | _, [] => []
  | i, o :: r => { o with un := unOf bef all i o.op } :: withUn bef all (i + 1) r

def optA : Option SArg → List SArg
  | none => []
  | some x => [x]

def sargsOf : SOp → List SArg
  | .mv x | .box _ x | .load _ _ x | .nilc x | .eqnil _ x | .un _ x | .cvi _ x | .s2b _ x | .b2s x | .ss x | .faddr _ x | .field _ _ _ x | .slcArr _ x | .extract x _ | .len x | .lenS x | .cap x | .maplen x => [x]
  | .pick a b c | .mapset a b c => [a, b, c]
  | .nilrow .. | .empty _ | .mkmap _ => []
  | .build _ ps => ps.map fun x => x.2.2
  | .buildS _ _ _ _ ps => ps.map fun x => x.2
  | .store _ a b | .bin _ a b | .eqagg _ a b | .eqb _ a b | .mks _ _ _ a b | .iaddr _ a b | .iaddrA _ _ a b | .indexS a b | .indexA _ _ _ a b | .mnmx _ a b | .app _ _ a b | .appZ _ _ _ a b | .copy _ a b
  | .lookup _ a b _ | .mapdel a b => [a, b]
  | .clear _ _ x => [x]
  | .mkfn _ cs => cs
  | .slice _ x lo hi mx => x :: (optA lo ++ optA hi ++ optA mx)
  | .slcStr x lo hi => x :: (optA lo ++ optA hi)
  | .call _ _ args => args
  | .callv _ x args => x :: args

def tmpOf : SArg → Option Nat
  | .t n => some n
  | .c _ => none

def sreads (o : SOper) : List Nat := (sargsOf o.op).filterMap tmpOf ++ (match o.guard with | some (t, _) => [t] | none => [])

/-- Neither hangs on the other's temporary. -/
def tmpsApart (x y : SOper) : Bool :=
  (match x.dst with | some d => !(sreads y).contains d && y.dst != some d | none => true) && (match y.dst with | some d => !(sreads x).contains d | none => true)

def pairsOk (bef : List (List Nat)) (l : List SOper) : Bool :=
  (List.range l.length).all fun i => (List.range i).all fun k => (bef.getD i []).contains k || match l[k]?, l[i]? with | some x, some y => tmpsApart x y | _, _ => false

def laidL (l : List SOper) : Bool := l.all fun o => match o.op with
  | .copy .. | .clear .. | .eqagg .. | .mkmap .. | .lookup .. | .mapset .. | .mapdel .. | .maplen .. => false
  | _ => true

def stripRegion (P : Program) (n : Nat) (hs : Nat → Hint) (ops : Array Oper) (draw : Bool) : Option (List SOper) :=
  match stripOps P n hs ops 0 ops.toList with
  | some l =>
    if draw then
      let bef := befs ops.toList []
      let l' := withUn bef l 0 l
      if pairsOk bef l' && laidL l' && directOk ops.toList 0 then some l' else none
    else some l
  | none => none

/-- The hints of a function, by region and operation. -/
abbrev Hints := Nat → Nat → Hint

def stripCode (P : Program) (n : Nat) (hs : Hints) : Code → Option SCode
  | .skip => some .skip
  | .region id ops draw => (stripRegion P n (hs id) ops draw).map .region
  | .seq a b => match stripCode P n hs a, stripCode P n hs b with
    | some a, some b => some (.seq a b)
    | _, _ => none
  | .cond c a b => match sarg c, stripCode P n hs a, stripCode P n hs b with
    | some c, some a, some b => some (.cond c a b)
    | _, _, _ => none
  | .block id b => (stripCode P n hs b).map (.block id)
  | .loop b => (stripCode P n hs b).map .loop
  | .exit id => some (.exit id)
  | .ret => some .ret
  | .label _ => some .skip
  | _ => none

def stripRes (P : Program) : List ResultVar → Option (List SRes)
  | [] => some []
  | .tmp t :: r => (stripRes P r).map (.tmp t :: ·)
  | .cell a t :: r => match sizeOf? P t, stripRes P r with
    | some k, some l => if isAggB P t ∨ k = 1 then some (.cell a k (isAggB P t) :: l) else none
    | _, _ => none

def stripFun (P : Program) (hs : Hints) (f : Func) : Option SFun :=
  match f.body with
  | some c => match stripCode P f.ntmps hs c, stripRes P f.results.toList with
    | some code, some rs => if f.params.size + f.nfree ≤ f.ntmps then some ⟨f.params.size + f.nfree, rs, code⟩ else none
    | _, _ => none
  | none => none

end Go.AI
