/- Lemmas. -/
import Derived.Orders
import Derived.Laws.Cells
import Derived.Laws.Tables
import Derived.Laws.Rows
import Derived.Laws.Entries
import Derived.Laws.StructEq
set_option linter.unusedSimpArgs false
set_option linter.unusedVariables false
namespace Go.AI
abbrev Ke := @Array.eq_empty_of_size_eq_zero
abbrev Jp := @Array.ext'
abbrev Cv := @Array.getD_eq_getD_getElem?
abbrev Fe := @Array.getElem?_eq_some_iff
abbrev Eu := @Array.getElem?_modify
abbrev Om := @Array.getElem?_replicate
abbrev Sq := @Array.getElem_modify
abbrev Jz := @Array.length_toList
abbrev Bu := @Bool.and_eq_true
abbrev Qk := @Bool.and_false
abbrev Sn := @Bool.and_true
abbrev Zw := @Bool.eq_false_iff
abbrev Ap := @Bool.false_eq_true
abbrev Kv := @Bool.false_ne_true
abbrev dP := @Bool.not_eq_true
abbrev Qj := @Bool.not_eq_true'
abbrev Jq := @Bool.not_true
abbrev Lc := @Bool.or_eq_true
abbrev cA := @Bool.or_false
abbrev Cw := @Classical.not_not
abbrev Xs := @Int.natCast_nonneg
abbrev Bd := @Int.toNat_natCast
abbrev sY := @List.all_cons
abbrev Ij := @List.all_eq_true
abbrev Ec := @List.any_eq_true
abbrev Dr := @List.append_assoc
abbrev Bt := @List.append_nil
abbrev Hf := @List.cons_append
abbrev Ii := @List.drop_append
abbrev pG := @List.drop_drop
abbrev Cg := @List.drop_eq_getElem_cons
abbrev Ik := @List.drop_length
abbrev Bm := @List.drop_of_length_le
abbrev Cc := @List.drop_zero
abbrev Sr := @List.eq_nil_of_length_eq_zero
abbrev Et := @List.eq_of_mem_replicate
abbrev Gd := @List.filter_append
abbrev Gg := @List.filter_cons
abbrev Ob := @List.filter_eq_self
abbrev Fq := @List.flatMap_cons
abbrev Adx := @List.flatMap_def
abbrev Aaa := @List.foldl_append
abbrev Cz := @List.foldl_cons
abbrev Vk := @List.getD_cons_succ
abbrev Aw := @List.getD_eq_getElem?_getD
abbrev Ai := @List.getElem?_eq_getElem
abbrev Hd := @List.getElem?_eq_none
abbrev Dg := @List.getElem?_eq_some_iff
abbrev Cd := @List.getElem?_map
abbrev vS := @List.getElem?_take
abbrev Nt := @List.getElem_map
abbrev Bz := @List.getElem_mem
abbrev jG := @List.headD_cons
abbrev Ar := @List.length_append
abbrev As := @List.length_cons
abbrev Ea := @List.length_drop
abbrev Qi := @List.length_eq_one_iff
abbrev Eb := @List.length_eq_zero_iff
abbrev Hb := @List.length_filter_le
abbrev Ak := @List.length_map
abbrev Dl := @List.length_nil
abbrev Fp := @List.length_pos_iff
abbrev Ev := @List.length_replicate
abbrev sX := @List.length_reverse
abbrev Oq := @List.length_set
abbrev Cf := @List.length_take
abbrev Ut := @List.length_zip
abbrev pI := @List.mapM_cons
abbrev Br := @List.map_append
abbrev Bn := @List.map_congr_left
abbrev Bc := @List.map_cons
abbrev Ih := @List.map_drop
abbrev Fh := @List.map_map
abbrev jA := @List.map_nil
abbrev Hg := @List.map_replicate
abbrev bZ := @List.map_take
abbrev Bg := @List.mem_append
abbrev Ss := @List.mem_append_left
abbrev Au := @List.mem_cons
abbrev Bi := @List.mem_cons_of_mem
abbrev Cl := @List.mem_cons_self
abbrev Ld := @List.mem_filter
abbrev Nq := @List.mem_flatMap
abbrev Ca := @List.mem_map
abbrev Na := @List.mem_of_mem_drop
abbrev Hn := @List.mem_of_mem_take
abbrev Eh := @List.mem_or_eq_of_mem_set
abbrev Kg := @List.mem_range
abbrev Ns := @List.mem_reverse
abbrev Bw := @List.mem_singleton
abbrev Dk := @List.nil_append
abbrev Fs := @List.nodup_append
abbrev jF := @List.nodup_cons
abbrev Xu := @List.nodup_nil
abbrev Kf := @List.not_mem_nil
abbrev Lf := @List.of_mem_zip
abbrev jE := @List.range_succ
abbrev kH := @List.set_append_right
abbrev pJ := @List.tail_cons
abbrev Iy := @List.take_append_drop
abbrev Cq := @List.take_append_of_le_length
abbrev Bp := @List.take_length
abbrev Aj := @List.take_of_length_le
abbrev Jy := @List.take_succ_cons
abbrev Bh := @List.take_succ_eq_append_getElem
abbrev Ix := @List.take_zero
abbrev Xt := @List.zip_cons_cons
abbrev bY := @Nat.add_assoc
abbrev Cp := @Nat.add_mul
abbrev El := @Nat.add_zero
abbrev Dy := @Nat.eq_of_beq_eq_true
abbrev vT := @Nat.eq_zero_or_pos
abbrev jD := @Nat.le_antisymm
abbrev Ce := @Nat.le_of_ble_eq_true
abbrev Ao := @Nat.le_refl
abbrev Ga := @Nat.le_trans
abbrev Iw := @Nat.lt_of_lt_of_le
abbrev Hx := @Nat.min_eq_left
abbrev jC := @Nat.mul_comm
abbrev pH := @Nat.mul_le_mul
abbrev Ef := @Nat.mul_le_mul_right
abbrev Ady := @Nat.one_mul
abbrev zZ := @Nat.pow_succ
abbrev zY := @Nat.sub_self
abbrev Adz := @Nat.sub_sub
abbrev dQ := @Nat.succ_le_succ
abbrev jB := @Nat.succ_mul
abbrev Xr := @Nat.xor_lt_two_pow
abbrev Da := @Nat.zero_add
abbrev Eg := @Nat.zero_le
abbrev iZ := @Nat.zero_mul
abbrev Ac := @Option.bind_eq_bind
abbrev Aa := @Option.bind_some
abbrev Nr := @Option.getD_some
abbrev Ol := @Option.isSome_iff_exists
abbrev Al := @Option.map_eq_some_iff
abbrev Le := @Option.map_some
abbrev Ae := @Option.some.injEq
abbrev Ah := @Prod.mk.injEq
abbrev Gs := @Result.andThen_ok
abbrev Ku := @Sem.run_bind
abbrev zX := @Sem.run_pure
abbrev Ay := @congrArg
abbrev Bo := @decide_eq_false
abbrev Az := @decide_eq_true
abbrev Dj := @decide_eq_true_eq
abbrev Bx := @if_false
abbrev Mm := @not_true_eq_false
abbrev Jj := @of_decide_eq_true
abbrev dO := @or_false
abbrev Am := @run_underlying
inductive AV where
 | int (k : IntKind) (n : Int)
 | bool (b : Bool)
 | str (s : ByteArray)
 | undef
 | junk
 | nilp
 | nilf
 | ptr (j g ver s i off : Nat)
 | iptr (t : Bool) (cells : List AV)
 | slc (j g ver s off len : Nat) (cap : Option Nat)
 | islc (t full : Bool) (s : Nat) (elems : List AV)
 | agg (cells : List AV)
 | tup (l : List AV)
 | fn (f : Nat) (caps : List AV)
 | mp (j g : Nat)
 deriving Inhabited
inductive St where
 | dead
 | row (s : Nat) (es : List AV)
 | map (es : List (Int × AV))
 deriving Inhabited
structure Blk where
 gen : Nat
 ro : Bool
 st : St
 deriving Inhabited
def Heap := Nat → Blk
def Tmps := Nat → AV
def Heap.none : Heap := fun _ => ⟨0, false, .dead⟩
def Heap.upd (H : Heap) (j : Nat) (b : Blk) : Heap := fun i => cond (Nat.beq i j) b (H i)
def Tmps.upd (T : Tmps) (j : Nat) (v : AV) : Tmps := fun i => cond (Nat.beq i j) v (T i)
theorem Tmps.upd_eq (T : Tmps) (j : Nat) (v : AV) (i : Nat) : T.upd j v i = if i = j then v else T i := by
 unfold Tmps.upd
 by_cases h : i = j
 ·subst h; simp
 ·have : Nat.beq i j = false := Zw.2 fun hb => h (Dy hb)
  rw [this, if_neg h]; rfl
theorem Heap.upd_eq (H : Heap) (j : Nat) (b : Blk) (i : Nat) : H.upd j b i = if i = j then b else H i := by
 unfold Heap.upd
 by_cases h : i = j
 ·subst h; simp
 ·have : Nat.beq i j = false := Zw.2 fun hb => h (Dy hb)
  rw [this, if_neg h]; rfl
def AV.cells : AV → List AV
 | .agg cs => cs
 | v => [v]
def AV.rewrap (v : AV) (cs : List AV) : AV :=
 match v with
 | .agg _ => .agg cs
 | _ => cs.headD .undef
def Heap.row (H : Heap) (j g ver s : Nat) : Option (List AV) :=
 match H j with
 | ⟨g', _, .row s' es⟩ => if g' = g ∧ es.length = ver ∧ s' = s then some es else .none
 | _ => .none
def Heap.rowW (H : Heap) (j g ver s : Nat) : Option (List AV) :=
 match H j with
 | ⟨g', false, .row s' es⟩ => if g' = g ∧ es.length = ver ∧ s' = s then some es else .none
 | _ => .none
def Heap.newRow (H : Heap) (j s : Nat) (es : List AV) : Heap := H.upd j ⟨(H j).gen + 1, false, .row s es⟩
def Heap.setRow (H : Heap) (j s : Nat) (es : List AV) : Heap := H.upd j ⟨(H j).gen, false, .row s es⟩
mutual
def AV.norefs : AV → Bool
 | .ptr .. | .slc .. | .mp .. => false
 | .agg cs => Bq cs
 | .tup cs => Bq cs
 | .fn _ cs => Bq cs
 | _ => true
def Bq : List AV → Bool
 | [] => true
 | v :: r => v.norefs && Bq r
end
def fz (out : Bool) : Nat → Heap → AV → AV
 | 0, _, v => if v.norefs && !out then v else match v with
  | .agg cs => .agg (cs.map fun _ => .junk)
  | _ => .junk
 | n + 1, H, v =>
  match v with
  | .ptr j g ver s i off =>
   match H.row j g ver s with
   | some es => match es[i]? with
    | some e => .iptr (!out) ((e.cells.drop off).map (fz out n H))
    | .none => .junk
   | .none => .junk
  | .slc j g ver s off len _ =>
   match H.row j g ver s with
   | some es => if off + len ≤ ver then .islc (!out) false s (((es.drop off).take len).map (fz out n H)) else .junk
   | .none => .junk
  | .iptr t cs => if out && t then .junk else .iptr t cs
  | .islc t f s es => if out && t then .junk else .islc t f s es
  | .agg cs => .agg (cs.map (fz out n H))
  | .tup cs => .tup (cs.map (fz out n H))
  | .fn f cs => .fn f (cs.map (fz out n H))
  | .mp .. => .junk
  | v => v
def vis : Nat → Heap → AV → List Nat
 | 0, _, _ => []
 | n + 1, H, v =>
  match v with
  | .ptr j g ver s i off =>
   match H.row j g ver s with
   | some es => match es[i]? with
    | some e => j :: (e.cells.drop off).flatMap (vis n H)
    | .none => [j]
   | .none => [j]
  | .slc j g ver s off len _ =>
   match H.row j g ver s with
   | some es => j :: ((es.drop off).take len).flatMap (vis n H)
   | .none => [j]
  | .agg cs => cs.flatMap (vis n H)
  | .tup cs => cs.flatMap (vis n H)
  | .fn _ cs => cs.flatMap (vis n H)
  | _ => []
def deep : Nat := 6
inductive SArg where
 | t (n : Nat)
 | c (v : AV)
def SArg.ev (T : Tmps) : SArg → AV
 | .t n => T n
 | .c v => v
inductive Mode where
 | pure
 | fresh (site : Nat)
 | inl (base : Nat)
 | ext
 | peek (base : Nat)
inductive SOp where
 | mv (x : SArg)
 | pick (c a b : SArg)
 | box (site : Nat) (x : SArg)
 | boxF (site : Nat) (x : SArg)
 | nilrow (site s : Nat)
 | build (z : List AV) (parts : List (Nat × Nat × SArg))
 | buildS (site s n : Nat) (z : AV) (parts : List (Nat × SArg))
 | buildSN (site s n : Nat) (z : AV) (parts : List (Nat × SArg))
 | empty (s : Nat)
 | load (k : Nat) (agg : Bool) (x : SArg)
 | store (k : Nat) (x v : SArg)
 | nilc (x : SArg)
 | bin (op : BinOp) (x y : SArg)
 | eqnil (neg : Bool) (x : SArg)
 | eqagg (neg : Bool) (n : Nat) (x y : SArg)
 | eqb (neg : Bool) (x y : SArg)
 | un (op : UnOp) (x : SArg)
 | cvi (k : IntKind) (x : SArg)
 | s2b (site : Nat) (x : SArg)
 | b2s (x : SArg)
 | ss (x : SArg)
 | mkfn (f : Nat) (caps : List SArg)
 | mks (site s : Nat) (z : AV) (l c : SArg)
 | mksN (site s : Nat) (z : AV) (l c : SArg)
 | slice (s : Nat) (x : SArg) (lo hi mx : Option SArg)
 | slcStr (x : SArg) (lo hi : Option SArg)
 | slcArr (n : Nat) (x : SArg)
 | faddr (off : Nat) (x : SArg)
 | field (off k : Nat) (agg : Bool) (x : SArg)
 | iaddr (s : Nat) (x i : SArg)
 | iaddrA (n s : Nat) (x i : SArg)
 | indexS (x i : SArg)
 | indexA (n s : Nat) (agg : Bool) (x i : SArg)
 | extract (x : SArg) (i : Nat)
 | len (x : SArg)
 | lenS (x : SArg)
 | cap (x : SArg)
 | mnmx (mx : Bool) (x y : SArg)
 | app (site s : Nat) (x y : SArg)
 | appZ (site s : Nat) (z : AV) (x n : SArg)
 | copy (s : Nat) (x y : SArg)
 | clear (s : Nat) (z : AV) (x : SArg)
 | call (m : Mode) (f : Nat) (args : List SArg)
 | callv (m : Mode) (x : SArg) (args : List SArg)
 | mkmap (site : Nat)
 | lookup (z : AV) (m k : SArg) (ok : Bool)
 | mapset (m k v : SArg)
 | mapdel (m k : SArg)
 | maplen (m : SArg)
 | bad
structure FP where
 rd : List Nat
 wr : List Nat
 top : Bool := false
def FP.z : FP := ⟨[], [], false⟩
def FP.apart (a b : FP) : Bool :=
 !a.top && !b.top && a.wr.all (fun j => !b.rd.contains j && !b.wr.contains j) && b.wr.all (fun j => !a.rd.contains j)
def Dq : AV → Bool
 | .junk | .undef | .tup _ => false
 | _ => true
def Gz : Nat := 68719476736
abbrev R := Option (AV × Heap × FP)
def rv (v : AV) (H : Heap) : R := some (v, H, .z)
def Im (H : Heap) : Nat → Nat → Nat
 | b, 0 => b
 | b, n + 1 => cond (Nat.beq (H b).gen 0) b (Im H (b + 1) n)
def Wo : Nat → Nat → List Nat
 | b, 0 => [b]
 | b, n + 1 => b :: Wo (b + 1) n
def many : Nat := 11
def abin (op : BinOp) : AV → AV → Option AV
 | .int k a, .int k' b =>
  match op with
  | .shl => if b < 0 then .none else some (.int k (k.wrap (a * 2 ^ min b.toNat k.bits)))
  | .shr => if b < 0 then .none else some (.int k (a.fdiv (2 ^ min b.toNat k.bits)))
  | _ =>
   if k ≠ k' then .none else
   match op with
   | .add => some (.int k (k.wrap (a + b)))
   | .sub => some (.int k (k.wrap (a - b)))
   | .mul => some (.int k (k.wrap (a * b)))
   | .quo => if b = 0 then .none else some (.int k (k.wrap (a.tdiv b)))
   | .rem => if b = 0 then .none else some (.int k (a.tmod b))
   | .and => some (.int k (k.wrap (BitVec.ofInt k.bits a &&& BitVec.ofInt k.bits b).toNat))
   | .or => some (.int k (k.wrap (BitVec.ofInt k.bits a ||| BitVec.ofInt k.bits b).toNat))
   | .xor => some (.int k (k.wrap (BitVec.ofInt k.bits a ^^^ BitVec.ofInt k.bits b).toNat))
   | .eql => some (.bool (a == b))
   | .neq => some (.bool (a != b))
   | .lss => some (.bool (decide (a < b)))
   | .leq => some (.bool (decide (a ≤ b)))
   | .gtr => some (.bool (decide (a > b)))
   | .geq => some (.bool (decide (a ≥ b)))
   | _ => .none
 | .str a, .str b =>
  match op with
  | .add => if (a.size + b.size : Nat) ≤ Gz then some (.str (a ++ b)) else .none
  | .eql => some (.bool (a.toList == b.toList))
  | .neq => some (.bool (!(a.toList == b.toList)))
  | _ => .none
 | _, _ => .none
def aun (op : UnOp) : AV → Option AV
 | .int k n =>
  match op with
  | .neg => some (.int k (k.wrap (0 - n)))
  | .xor => some (.int k (k.wrap (BitVec.ofInt k.bits (if k.signed then -1 else k.max) ^^^ BitVec.ofInt k.bits n).toNat))
  | _ => .none
 | .bool b => match op with | .not => some (.bool !b) | _ => .none
 | _ => .none
def rH : AV → Option Bool
 | .islc _ _ _ (_ :: _) => some false
 | _ => .none
def Aac : AV → AV → Option Bool
 | .int k a, .int k' b => if k = k' then some (a == b) else .none
 | _, _ => .none
def mX : List AV → List AV → Option Bool
 | [], [] => some true
 | a :: x, b :: y => do
  let e ← Aac a b
  let r ← mX x y
  some (e && r)
 | _, _ => .none
def Fb : AV → Option Nat
 | .int _ n => if 0 ≤ n then some n.toNat else .none
 | _ => .none
def Ei (T : Tmps) : Option SArg → Option (Option Nat)
 | .none => some .none
 | some a => (Fb (a.ev T)).map some
def Fz : List AV → Bool
 | [] => true
 | _ => false
def Xo (H : Heap) (s : Nat) (x : AV) (lo hi mx : Option Nat) : R :=
 match x with
 | .islc t full s' es =>
  if ¬ (Fz es ∨ s' = s) then .none else
  let l := lo.getD 0
  let h := hi.getD es.length
  let m := mx.getD es.length
  if l ≤ h ∧ h ≤ m ∧ m ≤ es.length ∧ (hi = .none → mx = .none) then
   some (.islc t ((full || mx.isSome) && decide (h = m)) s ((es.drop l).take (h - l)), H, .z)
  else .none
 | .slc j g ver s' off len cap =>
  if s' ≠ s then .none else
  match H.row j g ver s with
  | .none => .none
  | some _ =>
   let l := lo.getD 0
   let h := hi.getD len
   let c := cap.getD (ver - off)
   let m := mx.getD c
   if l ≤ h ∧ h ≤ m ∧ m ≤ c ∧ off + c ≤ ver ∧ (hi = .none → mx = .none) then
    some (.slc j g ver s (off + l) (h - l) (match mx with | some m => some (m - l) | .none => cap.map (· - l)), H, ⟨[j], [], false⟩)
   else .none
 | _ => .none
def Ch (H : Heap) (s : Nat) : AV → Option (List AV × List Nat)
 | .islc _ _ s' es => if Fz es ∨ s' = s then some (es, []) else .none
 | .slc j g ver s' off len _ =>
  match H.row j g ver s' with
  | some es => if s' = s ∧ off + len ≤ ver then some ((es.drop off).take len, [j]) else .none
  | .none => .none
 | .str b => if s = 1 then some (b.data.toList.map fun c => .int .u8 c.toNat, []) else .none
 | _ => .none
def Ng : List AV → Option (List UInt8)
 | [] => some []
 | .int .u8 n :: r => (Ng r).map (UInt8.ofNat n.toNat :: ·)
 | _ => .none
def uB : AV → Bool
 | .str _ => true
 | _ => false
def Se (H : Heap) : List Nat → Heap
 | [] => H
 | j :: r => Se (H.upd j ⟨(H j).gen, true, (H j).st⟩) r
def Du (H : Heap) (es : List AV) : Option (List AV × Heap × List Nat) :=
 if Bq es then some (es, H, []) else some (es.map (fz true deep H), Se H (es.flatMap (vis deep H)), es.flatMap (vis deep H))
def Dc (H : Heap) (site s : Nat) (x : AV) (ys : List AV) : R :=
 match x with
 | .islc _ full s' es =>
  if Fz ys then some (x, H, .z)
  else if full ∧ Fz es ∧ ys.length ≤ Gz then
   some (.slc site ((H site).gen + 1) ys.length s 0 ys.length .none, H.newRow site s ys, ⟨[], [site], false⟩)
  else .none
 | .slc j g ver s' off len cap =>
  if Fz ys then some (x, H, .z)
  else match H.rowW j g ver s' with
  | .none => .none
  | some es =>
   if s' = s ∧ off + len ≤ ver ∧ len + ys.length ≤ Gz then
    if len + ys.length ≤ cap.getD (ver - off) ∧ off + cap.getD (ver - off) ≤ ver then
     some (.slc j g ver s off (len + ys.length) cap, H.setRow j s (es.take (off + len) ++ ys ++ es.drop (off + len + ys.length)), ⟨[j], [j], false⟩)
    else match cap with
     | .none =>
      if off = 0 ∧ len = ver then
       some (.slc j g (len + ys.length) s 0 (len + ys.length) .none, H.setRow j s (es ++ ys), ⟨[j], [j], false⟩)
      else .none
     | some c =>
      if c < len + ys.length then
       some (.slc site ((H site).gen + 1) (len + ys.length) s 0 (len + ys.length) .none, H.newRow site s ((es.drop off).take len ++ ys), ⟨[j], [site], false⟩)
      else .none
   else .none
 | _ => .none
def Gv (H : Heap) (site s : Nat) (x y : AV) : R := do
 let (ys, r1) ← Ch H s y
 let (ys', H1, k) ← Du H ys
 let (v, H2, fp) ← Dc H1 site s x ys'
 some (v, H2, ⟨r1 ++ k ++ fp.rd, k ++ fp.wr, false⟩)
def kS (H : Heap) (s : Nat) (x y : AV) : R := do
 let (ys, r1) ← Ch H s y
 if !Bq ys then .none else
 match x with
 | .islc _ _ _ es => if Fz es ∨ Fz ys then some (.int .i64 0, H, ⟨r1, [], false⟩) else .none
 | .slc j g ver s' off len _ =>
  match H.rowW j g ver s' with
  | .none => .none
  | some es =>
   if s' = s ∧ off + len ≤ ver then
    let n := min ys.length len
    some (.int .i64 n, H.setRow j s (es.take off ++ ys.take n ++ es.drop (off + n)), ⟨j :: r1, [j], false⟩)
   else .none
 | _ => .none
def Jf (z : List AV) : List (Nat × Nat × AV) → Option (List AV)
 | [] => some z
 | (off, k, v) :: r =>
  if Dq v ∧ v.cells.length = k ∧ off + k ≤ z.length then Jf (z.take off ++ v.cells ++ z.drop (off + k)) r else .none
def Je (s : Nat) (z : List AV) : List (Nat × AV) → Option (List AV)
 | [] => some z
 | (i, v) :: r => if Dq v ∧ v.cells.length = s ∧ i < z.length then Je s (z.set i v) r else .none
def Xn (k : Int) : List (Int × AV) → Option AV
 | [] => .none
 | (a, v) :: r => if k = a then some v else Xn k r
def Rn (k : Int) (v : AV) : List (Int × AV) → List (Int × AV)
 | [] => [(k, v)]
 | (a, u) :: r => if k = a then (a, v) :: r else (a, u) :: Rn k v r
def Rk (k : Int) : List (Int × AV) → List (Int × AV)
 | [] => []
 | (a, u) :: r => if k = a then r else (a, u) :: Rk k r
def Heap.mapAt (H : Heap) (j g : Nat) : Option (List (Int × AV)) :=
 match H j with
 | ⟨g', false, .map es⟩ => if g' = g then some es else .none
 | _ => .none
def Cx := Nat → Nat → List AV → Heap → Option (AV × Heap)
def ExtF := Nat → List AV → Option AV
def Lr (H Hc : Heap) (site : Nat) (v : AV) (rest : List AV) : Option (AV × List AV × Heap) :=
 match v with
 | .slc j g ver s off len cap =>
  match Hc.rowW j g ver s with
  | some es =>
   if Bq es ∧ Bq rest then
    some (.slc site ((H site).gen + 1) ver s off len cap, rest.map (fz true deep Hc), H.newRow site s (es.map (fz true deep Hc)))
   else .none
  | .none => .none
 | v => if v.norefs ∧ Bq rest then some (fz true deep Hc v, rest.map (fz true deep Hc), H) else .none
def Mk (H Hc : Heap) (site : Nat) (v : AV) : Option (AV × Heap) :=
 match v with
 | .tup (u :: r) => match Lr H Hc site u r with
  | some (u', r', H') => some (.tup (u' :: r'), H')
  | .none => .none
 | .tup [] => .none
 | v => match Lr H Hc site v [] with
  | some (v', _, H') => some (v', H')
  | .none => .none
def Qz (H : Heap) (j s : Nat) (es : List AV) : Heap := Heap.none.upd j ⟨(H j).gen, true, .row s es⟩
def Zx : List AV → Bool
 | [] => true
 | .int .u8 _ :: r => Zx r
 | _ => false
def mL (cf : Cx) (base f : Nat) (args : List AV) (H : Heap) : R :=
 match args with
 | .slc j g ver s off len cap :: rest =>
  match (H j).st with
  | .row s' es =>
   if Bq rest ∧ Bq es then
    match cf f base (.slc j g ver s off len cap :: rest) (Qz H j s' es) with
    | some (.slc j' g' ver' s2 off' len' cap', Hc) =>
     if j' = j ∧ g' = g ∧ ver' = ver ∧ s2 = s ∧ (Hc.row j g ver s).isSome then some (.slc j g ver s off' len' cap', H, ⟨[j], [], false⟩) else .none
    | _ => .none
   else .none
  | _ => .none
 | .islc t f0 s es :: rest =>
  if Bq rest ∧ Zx es then
   match cf f base (.islc false f0 s es :: rest) Heap.none with
   | some (.islc false f' s' es', _) => if Zx es' then some (.islc t f' s' es', H, ⟨[], [], false⟩) else .none
   | _ => .none
  else .none
 | _ => .none
def Fu (cf : Cx) (xf : ExtF) (base : Nat) (m : Mode) (f : Nat) (args : List AV) (H : Heap) : R :=
 match m with
 | .pure => do
  let (v, Hc) ← cf f 0 (args.map (fz false deep H)) .none
  some (fz true deep Hc v, H, ⟨args.flatMap (vis deep H), [], false⟩)
 | .ext => do
  let v ← xf f (args.map (fz false deep H))
  some (v, H, ⟨args.flatMap (vis deep H), [], false⟩)
 | .fresh site => do
  let (v, Hc) ← cf f 0 (args.map (fz false deep H)) .none
  let (v', H') ← Mk H Hc (base + site) v
  some (v', H', ⟨args.flatMap (vis deep H), [base + site], false⟩)
 | .inl b => do
  let (v, H') ← cf f (base + b) args H
  some (v, H', ⟨[], [], true⟩)
 | .peek b => mL cf (base + b) f args H
def aop (cf : Cx) (xf : ExtF) (base : Nat) (T : Tmps) (H : Heap) : SOp → R
 | .mv x => rv (x.ev T) H
 | .pick c a b => match c.ev T with
  | .bool t => rv (if t then a.ev T else b.ev T) H
  | _ => .none
 | .box site x =>
  let v := x.ev T
  if !Dq v then .none else
  some (.ptr (base + site) ((H (base + site)).gen + 1) 1 v.cells.length 0 0, H.newRow (base + site) v.cells.length [v], ⟨[], [base + site], false⟩)
 | .boxF site x =>
  if !Dq (x.ev T) || Fz (x.ev T).cells then .none else
  some (.ptr (base + site) ((H (base + site)).gen + 1) (x.ev T).cells.length 1 0 0, H.newRow (base + site) 1 (x.ev T).cells, ⟨[], [base + site], false⟩)
 | .nilrow site s => some (.slc (base + site) ((H (base + site)).gen + 1) 0 s 0 0 .none, H.newRow (base + site) s [], ⟨[], [base + site], false⟩)
 | .build z parts => do
  let cs ← Jf z (parts.map fun (o, k, x) => (o, k, x.ev T))
  rv (.agg cs) H
 | .buildS site s n z parts =>
  if z.cells.length ≠ s then .none else
  match Je s (List.replicate n z) (parts.map fun (i, x) => (i, x.ev T)) with
  | .none => .none
  | some es => some (.slc (base + site) ((H (base + site)).gen + 1) n s 0 n .none, H.newRow (base + site) s es, ⟨[], [base + site], false⟩)
 | .buildSN site s n z parts =>
  if z.cells.length ≠ s then .none else
  match Je s (List.replicate n z) (parts.map fun (i, x) => (i, x.ev T)) with
  | .none => .none
  | some es => some (.slc (Im H (base + site) many) ((H (Im H (base + site) many)).gen + 1) n s 0 n .none, H.newRow (Im H (base + site) many) s es, ⟨Wo (base + site) many, [Im H (base + site) many], false⟩)
 | .empty s => rv (.islc false true s []) H
 | .load k agg x =>
  match x.ev T with
  | .ptr j g ver s i off =>
   match H.row j g ver s with
   | some es => match es[i]? with
    | some e =>
     if off + k ≤ e.cells.length then
      some (if agg then .agg ((e.cells.drop off).take k) else ((e.cells.drop off).headD .undef), H, ⟨[j], [], false⟩)
     else if s = 1 ∧ i + off + k ≤ es.length then
      some (if agg then .agg (((es.drop (i + off)).flatMap AV.cells).take k) else (((es.drop (i + off)).flatMap AV.cells).headD .undef), H, ⟨[j], [], false⟩)
     else .none
    | .none => .none
   | .none => .none
  | .iptr _ cs => if k ≤ cs.length then rv (if agg then .agg (cs.take k) else cs.headD .undef) H else .none
  | _ => .none
 | .store k x v =>
  match x.ev T with
  | .ptr j g ver s i off =>
   match H.rowW j g ver s with
   | some es => match es[i]? with
    | some e =>
     let cs := (v.ev T).cells
     if Dq (v.ev T) ∧ cs.length = k ∧ off + k ≤ e.cells.length then
      some (.undef, H.setRow j s (es.set i (e.rewrap (e.cells.take off ++ cs ++ e.cells.drop (off + k)))), ⟨[j], [j], false⟩)
     else if s = 1 ∧ Dq (v.ev T) ∧ cs.length = k ∧ i + off + k ≤ es.length then
      some (.undef, H.setRow j s (es.take (i + off) ++ cs ++ es.drop (i + off + k)), ⟨[j], [j], false⟩)
     else .none
    | .none => .none
   | .none => .none
  | _ => .none
 | .nilc x =>
  match x.ev T with
  | .ptr j g ver s i off => rv (.ptr j g ver s i off) H
  | .iptr t cs => rv (.iptr t cs) H
  | .fn f cs => rv (.fn f cs) H
  | _ => .none
 | .bin op x y => (abin op (x.ev T) (y.ev T)).bind (rv · H)
 | .eqnil neg x => (rH (x.ev T)).bind fun b => rv (.bool (b != neg)) H
 | .eqagg neg n x y =>
  match x.ev T, y.ev T with
  | .agg a, .agg b => if a.length = n then (mX a b).bind fun r => rv (.bool (r != neg)) H else .none
  | _, _ => .none
 | .eqb neg x y =>
  match x.ev T, y.ev T with
  | .bool a, .bool b => rv (.bool ((a == b) != neg)) H
  | _, _ => .none
 | .un op x => (aun op (x.ev T)).bind (rv · H)
 | .cvi k x => match x.ev T with
  | .int _ n => rv (.int k (k.wrap n)) H
  | _ => .none
 | .s2b site x => match x.ev T with
  | .str b =>
   if 0 < b.size then
    some (.slc (base + site) ((H (base + site)).gen + 1) b.size 1 0 b.size .none, H.newRow (base + site) 1 (b.data.toList.map fun c => .int .u8 c.toNat), ⟨[], [base + site], false⟩)
   else .none
  | _ => .none
 | .b2s x =>
  if uB (x.ev T) then .none else do
  let (es, r) ← Ch H 1 (x.ev T)
  let bs ← Ng es
  some (.str ⟨bs.toArray⟩, H, ⟨r, [], false⟩)
 | .ss x => match x.ev T with
  | .slc j g ver s off len cap =>
   match H.rowW j g ver s with
   | some es => if off < ver ∧ 0 < len then some (.slc j g ver s off len cap, H.setRow j s es, ⟨[j], [j], false⟩) else .none
   | .none => .none
  | _ => .none
 | .mkfn f caps => rv (.fn f (caps.map (SArg.ev T))) H
 | .mks site s z l c => do
  let l ← Fb (l.ev T)
  let c ← Fb (c.ev T)
  if l ≤ c ∧ c ≤ Gz ∧ z.cells.length = s then
   some (.slc (base + site) ((H (base + site)).gen + 1) c s 0 l .none, H.newRow (base + site) s (List.replicate c z), ⟨[], [base + site], false⟩)
  else .none
 | .mksN site s z l c => do
  let l ← Fb (l.ev T)
  let c ← Fb (c.ev T)
  if l ≤ c ∧ c ≤ Gz ∧ z.cells.length = s then
   some (.slc (Im H (base + site) many) ((H (Im H (base + site) many)).gen + 1) c s 0 l .none, H.newRow (Im H (base + site) many) s (List.replicate c z), ⟨Wo (base + site) many, [Im H (base + site) many], false⟩)
  else .none
 | .slice s x lo hi mx => do
  let lo ← Ei T lo
  let hi ← Ei T hi
  let mx ← Ei T mx
  Xo H s (x.ev T) lo hi mx
 | .slcStr x lo hi => do
  let lo ← Ei T lo
  let hi ← Ei T hi
  match x.ev T with
  | .str b =>
   let l := lo.getD 0
   let h := hi.getD b.size
   if l ≤ h ∧ h ≤ b.size then rv (.str (b.extract l h)) H else .none
  | _ => .none
 | .slcArr n x => match x.ev T with
  | .iptr t cs => if n ≤ cs.length then rv (.islc t false 1 (cs.take n)) H else .none
  | .ptr j g ver s i off => if s = 1 ∧ 0 < n ∧ i + off + n ≤ ver then rv (.slc j g ver 1 (i + off) n (some n)) H else .none
  | _ => .none
 | .faddr off x => match x.ev T with
  | .ptr j g ver s i o => rv (.ptr j g ver s i (o + off)) H
  | .iptr t cs => if off ≤ cs.length then rv (.iptr t (cs.drop off)) H else .none
  | _ => .none
 | .field off k agg x => match x.ev T with
  | .agg cs => if off + k ≤ cs.length then rv (if agg then .agg ((cs.drop off).take k) else ((cs.drop off).headD .undef)) H else .none
  | _ => .none
 | .iaddr s x i => do
  let i ← Fb (i.ev T)
  match x.ev T with
  | .slc j g ver s' off len _ =>
   let _es ← H.row j g ver s'
   if s' = s ∧ i < len ∧ off + len ≤ ver then some (.ptr j g ver s (off + i) 0, H, ⟨[j], [], false⟩) else .none
  | .islc t _ s' es =>
   if s' ≠ s then .none else
   match es[i]? with
   | some e => rv (.iptr t e.cells) H
   | .none => .none
  | _ => .none
 | .iaddrA n s x i => do
  let i ← Fb (i.ev T)
  if n ≤ i then .none else
  match x.ev T with
  | .ptr j g ver s' k o => rv (.ptr j g ver s' k (o + i * s)) H
  | .iptr t cs => if i * s ≤ cs.length then rv (.iptr t (cs.drop (i * s))) H else .none
  | _ => .none
 | .indexS x i => do
  let i ← Fb (i.ev T)
  match x.ev T with
  | .str b => match b.data.toList[i]? with
   | some c => rv (.int .u8 c.toNat) H
   | .none => .none
  | _ => .none
 | .indexA n s agg x i => do
  let i ← Fb (i.ev T)
  if n ≤ i then .none else
  match x.ev T with
  | .agg cs => if i * s + s ≤ cs.length then rv (if agg then .agg ((cs.drop (i * s)).take s) else ((cs.drop (i * s)).headD .undef)) H else .none
  | _ => .none
 | .extract x i => match x.ev T with
  | .tup vs => match vs[i]? with
   | some v => rv v H
   | .none => .none
  | _ => .none
 | .len x => match x.ev T with
  | .slc _ _ _ _ _ len _ => rv (.int .i64 len) H
  | .islc _ _ _ es => rv (.int .i64 es.length) H
  | _ => .none
 | .lenS x => match x.ev T with
  | .str b => rv (.int .i64 b.size) H
  | _ => .none
 | .cap x => match x.ev T with
  | .islc _ true _ es => rv (.int .i64 es.length) H
  | _ => .none
 | .mnmx mx x y => match x.ev T, y.ev T with
  | .int k a, .int k' b => if k = k' then rv (.int k (if mx then (if a < b then b else a) else (if b < a then b else a))) H else .none
  | _, _ => .none
 | .app site s x y => Gv H (base + site) s (x.ev T) (y.ev T)
 | .appZ site s z x n => do
  let n ← Fb (n.ev T)
  if n ≤ Gz ∧ z.cells.length = s ∧ z.norefs then Dc H (base + site) s (x.ev T) (List.replicate n z) else .none
 | .copy s x y => kS H s (x.ev T) (y.ev T)
 | .clear s z x => match x.ev T with
  | .islc _ _ _ [] => rv .undef H
  | .slc j g ver s' off len _ =>
   match H.rowW j g ver s' with
   | some es => if s' = s ∧ off + len ≤ ver ∧ z.cells.length = s then
     some (.undef, H.setRow j s (es.take off ++ List.replicate len z ++ es.drop (off + len)), ⟨[j], [j], false⟩)
    else .none
   | .none => .none
  | _ => .none
 | .call m f args => Fu cf xf base m f (args.map (SArg.ev T)) H
 | .callv m x args => match x.ev T with
  | .fn f caps => Fu cf xf base m f (args.map (SArg.ev T) ++ caps) H
  | _ => .none
 | .mkmap site => some (.mp (base + site) ((H (base + site)).gen + 1), H.upd (base + site) ⟨(H (base + site)).gen + 1, false, .map []⟩, ⟨[], [base + site], false⟩)
 | .lookup z m k ok => match m.ev T, k.ev T with
  | .mp j g, .int .i64 n => do
   let es ← H.mapAt j g
   let r := Xn n es
   let v := r.getD z
   some (if ok then .tup [v, .bool r.isSome] else v, H, ⟨[j], [], false⟩)
  | _, _ => .none
 | .mapset m k v => match m.ev T, k.ev T with
  | .mp j g, .int .i64 n => do
   let es ← H.mapAt j g
   if (v.ev T).norefs ∧ Dq (v.ev T) ∧ (v.ev T).cells.length = 1 then
    some (.undef, H.upd j ⟨(H j).gen, false, .map (Rn n (v.ev T) es)⟩, ⟨[j], [j], false⟩)
   else .none
  | _, _ => .none
 | .mapdel m k => match m.ev T, k.ev T with
  | .mp j g, .int .i64 n => do
   let es ← H.mapAt j g
   some (.undef, H.upd j ⟨(H j).gen, false, .map (Rk n es)⟩, ⟨[j], [j], false⟩)
  | _, _ => .none
 | .maplen m => match m.ev T with
  | .mp j g => do
   let es ← H.mapAt j g
   some (.int .i64 es.length, H, ⟨[j], [], false⟩)
  | _ => .none
 | .bad => .none
structure SOper where
 dst : Option Nat
 op : SOp
 guard : Option (Nat × Bool) := .none
 un : List Nat := []
inductive SCode where
 | skip
 | region (ops : List SOper)
 | seq (a b : SCode)
 | cond (c : SArg) (a b : SCode)
 | block (id : Nat) (b : SCode)
 | loop (b : SCode)
 | exit (id : Nat)
 | ret
def Tmps.put (T : Tmps) : Option Nat → AV → Tmps
 | some d, v => T.upd d v
 | .none, _ => T
def Af (T : Tmps) : Option (Nat × Bool) → Option Bool
 | .none => some true
 | some (t, b) => match T t with
  | .bool c => some (c == b)
  | .undef => some false
  | _ => .none
def Av (log : List FP) (fp : FP) (un : List Nat) : Bool :=
 un.all fun k => match log[k]? with | some f => f.apart fp | .none => false
def aops (cf : Cx) (xf : ExtF) (base : Nat) : List SOper → List FP → Tmps → Heap → Option (Tmps × Heap)
 | [], _, T, H => some (T, H)
 | o :: r, log, T, H =>
  match Af T o.guard with
  | .none => .none
  | some false => aops cf xf base r (log ++ [.z]) (T.put o.dst .undef) H
  | some true =>
   match aop cf xf base T H o.op with
   | .none => .none
   | some (v, H', fp) => if Av log fp o.un then aops cf xf base r (log ++ [fp]) (T.put o.dst v) H' else .none
inductive Ex where
 | normal
 | exit (id : Nat)
 | ret
abbrev XR := Option (Ex × Tmps × Heap)
def Dm (body : Tmps → Heap → XR) : Nat → Tmps → Heap → XR
 | 0, _, _ => .none
 | n + 1, T, H =>
  match body T H with
  | some (.normal, T', H') => Dm body n T' H'
  | r => r
def Bb (cf : Cx) (xf : ExtF) (base fuel : Nat) : SCode → Tmps → Heap → XR
 | .skip, T, H => some (.normal, T, H)
 | .region ops, T, H => match aops cf xf base ops [] T H with
  | some (T', H') => some (.normal, T', H')
  | .none => .none
 | .seq a b, T, H => match Bb cf xf base fuel a T H with
  | some (.normal, T', H') => Bb cf xf base fuel b T' H'
  | r => r
 | .cond c a b, T, H => match c.ev T with
  | .bool true => Bb cf xf base fuel a T H
  | .bool false => Bb cf xf base fuel b T H
  | _ => .none
 | .block id b, T, H => match Bb cf xf base fuel b T H with
  | some (.exit i, T', H') => if i = id then some (.normal, T', H') else some (.exit i, T', H')
  | r => r
 | .loop b, T, H => Dm (Bb cf xf base fuel b) fuel T H
 | .exit id, T, H => some (.exit id, T, H)
 | .ret, T, H => some (.ret, T, H)
inductive SRes where
 | tmp (t : Nat)
 | cell (t k : Nat) (agg : Bool)
structure SFun where
 nparams : Nat
 results : List SRes
 code : SCode
def ares (T : Tmps) (H : Heap) : SRes → Option AV
 | .tmp t => some (T t)
 | .cell t k agg =>
  match T t with
  | .ptr j g ver s i off =>
   match H.row j g ver s with
   | some es => match es[i]? with
    | some e => if off + k ≤ e.cells.length then some (if agg then .agg ((e.cells.drop off).take k) else ((e.cells.drop off).headD .undef)) else .none
    | .none => .none
   | .none => .none
  | _ => .none
def Jb (T : Tmps) (H : Heap) (rs : List SRes) : Option AV :=
 match rs.mapM (ares T H) with
 | some [v] => some v
 | some vs => some (.tup vs)
 | .none => .none
def Qw (args : List AV) : Tmps := fun i => args.getD i .undef
abbrev Prog := Nat → Option SFun
def Cj (B : Prog) (xf : ExtF) (gf : Cx) : Nat → Cx
 | 0, _, _, _, _ => .none
 | k + 1, f, base, args, H =>
  match B f with
  | .none => gf f base args H
  | some fn =>
   if args.length = fn.nparams then
    match Bb (Cj B xf gf k) xf base k fn.code (Qw args) H with
    | some (.normal, T', H') | some (.ret, T', H') => (Jb T' H' fn.results).map fun v => (v, H')
    | _ => .none
   else .none
end Go.AI
namespace Go.AI
def isGl (_ : Nat) : Bool := false
def GlOk (_ : Nat) (_ : Option Obj) : Prop := True
theorem Ahr {b : Nat} {w : World} {o : Nat} {v : Value} (h : isGl b = true) (_ : GlOk b w.heap[b]?) (_ : w.cell? ⟨b, o, none⟩ = some v) : ∃ z, v = .int .u64 z := by cases h
def Blk.live (b : Blk) : Bool :=
 match b.st with
 | .row _ (_ :: _) => true
 | .map _ => true
 | _ => false
def Blk.mut (b : Blk) : Bool := b.live && !b.ro
structure Ctx where
 F : Nat → Prop
 μ : Nat → Nat
 H : Heap
 w : World
def Own (C : Ctx) (b : Nat) : Prop := ∃ j, (C.H j).mut = true ∧ C.μ j = b
def IB (C : Ctx) (t : Bool) (b : Nat) : Prop := b < C.w.heap.size ∧ ¬ Own C b ∧ (t = false → ¬ C.F b)
def rowAt (w : World) (b o : Nat) (vs : List Value) : Prop := ∀ i v, vs[i]? = some v → w.cell? ⟨b, o + i, none⟩ = some v
def past (H : Heap) (j g ver : Nat) : Prop := g ≤ (H j).gen ∧ (g = (H j).gen → ∀ s es, (H j).st = .row s es → ver ≤ es.length)
def Abt (C : Ctx) (j ver s off : Nat) (cap : Option Nat) (a : Option Addr) (cap' : Nat) : Prop :=
 (ver = 0 → cap' = 0) ∧ (match cap with | none => ver - off ≤ cap' | some c => cap' = c) ∧
  (off < ver → 0 < cap' → a = some ⟨C.μ j, off * s, none⟩ ∧ ∃ e n, C.w.shape? (C.μ j) = some (e, n) ∧ (off + cap') * s ≤ n)
mutual
def VR (C : Ctx) (r t : Bool) : AV → Value → Prop
 | .int k n, v => v = .int k n
 | .bool b, v => v = .bool b
 | .str s, v => v = .string s
 | .undef, v => v = Go.undef
 | .junk, _ => True
 | .nilp, v => v = .pointer none
 | .nilf, v => v = .nilFunc
 | .ptr j g ver s i off, v => r = true ∧ past C.H j g ver ∧ ∃ a, v = .pointer (some a) ∧
   (∀ es, C.H.row j g ver s = some es → i < ver → a = ⟨C.μ j, i * s + off, none⟩)
 | .iptr tt cells, v => (tt = true → t = true) ∧ ∃ b o vs, v = .pointer (some ⟨b, o, none⟩) ∧ IB C tt b ∧ rowAt C.w b o vs ∧ VRL C false tt cells vs
 | .slc j g ver s off len cap, v => r = true ∧ past C.H j g ver ∧ ∃ a cap', v = .slice a len cap' ∧ len ≤ cap' ∧
   (∀ es, C.H.row j g ver s = some es → Abt C j ver s off cap a cap')
 | .islc tt full s es, v => (tt = true → t = true) ∧ ∃ a cap', v = .slice a es.length cap' ∧ es.length ≤ cap' ∧ (full = true → cap' = es.length) ∧
   (es ≠ [] → ∃ b o vs, a = some ⟨b, o, none⟩ ∧ IB C tt b ∧ rowAt C.w b o vs ∧ CRL C false tt s es vs)
 | .agg cs, v => ∃ vs : Array Value, v = .agg vs ∧ VRL C r t cs vs.toList
 | .tup cs, v => ∃ vs : Array Value, v = .tuple vs ∧ VRT C r t cs vs.toList
 | .fn f cs, v => ∃ vs : Array Value, v = .func (.func f) #[] vs ∧ VRT C r t cs vs.toList
 | .mp j g, v => r = true ∧ past C.H j g 0 ∧ ∃ b, v = .map (some b) ∧ (∀ es, C.H.mapAt j g = some es → b = C.μ j)
def VRL (C : Ctx) (r t : Bool) : List AV → List Value → Prop
 | [], vs => vs = []
 | a :: as, vs => ∃ v vs', vs = v :: vs' ∧ v.oneCell' = true ∧ VR C r t a v ∧ VRL C r t as vs'
def VRT (C : Ctx) (r t : Bool) : List AV → List Value → Prop
 | [], vs => vs = []
 | a :: as, vs => ∃ v vs', vs = v :: vs' ∧ VR C r t a v ∧ VRT C r t as vs'
def CRL (C : Ctx) (r t : Bool) (s : Nat) : List AV → List Value → Prop
 | [], vs => vs = []
 | e :: es, vs => (e.cells.length = s ∧ s ≤ vs.length ∧ ∃ v, VR C r t e v ∧ v.cells.toList = vs.take s ∧ ∀ u ∈ vs.take s, u.oneCell' = true) ∧ CRL C r t s es (vs.drop s)
end
structure Evo (C C' : Ctx) : Prop where
 F : C'.F = C.F
 size : C.w.heap.size ≤ C'.w.heap.size
 keep : ∀ b, b < C.w.heap.size → ¬ Own C b → C'.w.heap[b]? = C.w.heap[b]?
 own : ∀ b, Own C' b → Own C b ∨ C.w.heap.size ≤ b
 pst : ∀ j g ver, past C.H j g ver → past C'.H j g ver
 row : ∀ j g ver s es', past C.H j g ver → C'.H.row j g ver s = some es' → (∃ es, C.H.row j g ver s = some es) ∧ (0 < ver → C'.μ j = C.μ j)
 map : ∀ j g es', past C.H j g 0 → C'.H.mapAt j g = some es' → (∃ es, C.H.mapAt j g = some es) ∧ C'.μ j = C.μ j
 shape : ∀ b e n, C.w.shape? b = some (e, n) → C'.w.shape? b = some (e, n)
 os : C'.w.os = C.w.os
 tape : C'.w.tape = C.w.tape
 output : C'.w.output = C.w.output
theorem Evo.refl (C : Ctx) : Evo C C :=
 ⟨rfl, Ao _, fun _ _ _ => rfl, fun _ h => .inl h, fun _ _ _ h => h, fun _ _ _ _ es' _ h => ⟨⟨es', h⟩, fun _ => rfl⟩, fun _ _ es' _ h => ⟨⟨es', h⟩, rfl⟩, fun _ _ _ h => h, rfl, rfl, rfl⟩
theorem Evo.trans {A B C : Ctx} (h : Evo A B) (k : Evo B C) : Evo A C where
 F := k.F.trans h.F
 size := Ga h.size k.size
 keep b hb ho := by
  have hb' : b < B.w.heap.size := Iw hb h.size
  rw [k.keep b hb' (fun hB => (h.own b hB).elim ho (by omega)), h.keep b hb ho]
 own b hb := (k.own b hb).elim (fun hB => h.own b hB) (fun hs => .inr (Ga h.size hs))
 pst j g ver hp := k.pst _ _ _ (h.pst _ _ _ hp)
 row j g ver s es' hp hr := by
  obtain ⟨⟨es, h1⟩, h2⟩ := k.row j g ver s es' (h.pst _ _ _ hp) hr
  obtain ⟨h3, h4⟩ := h.row j g ver s es hp h1
  exact ⟨h3, fun hv => (h2 hv).trans (h4 hv)⟩
 map j g es' hp hr := by
  obtain ⟨⟨es, h1⟩, h2⟩ := k.map j g es' (h.pst _ _ _ hp) hr
  obtain ⟨h3, h4⟩ := h.map j g es hp h1
  exact ⟨h3, h2.trans h4⟩
 shape b e n hs := k.shape b e n (h.shape b e n hs)
 os := k.os.trans h.os
 tape := k.tape.trans h.tape
 output := k.output.trans h.output
theorem cell?_of_block {w w' : World} {a : Addr} (h : w'.heap[a.block]? = w.heap[a.block]?) : w'.cell? a = w.cell? a := by
 unfold World.cell?; rw [h]
theorem Evo.ib {C C' : Ctx} (h : Evo C C') {t : Bool} {b : Nat} (hb : IB C t b) : IB C' t b :=
 ⟨Iw hb.1 h.size, fun ho => (h.own b ho).elim hb.2.1 (by have := hb.1; omega), by rw [h.F]; exact hb.2.2⟩
theorem Evo.rowAt {C C' : Ctx} (h : Evo C C') {t : Bool} {b o : Nat} {vs : List Value} (hb : IB C t b) (hr : rowAt C.w b o vs) : rowAt C'.w b o vs :=
 fun i v hv => by rw [cell?_of_block (h.keep b hb.1 hb.2.1)]; exact hr i v hv
theorem Evo.slcOk {C C' : Ctx} (h : Evo C C') {j g ver s off : Nat} {cap : Option Nat} {a : Option Addr} {cap' : Nat} {es'}
  (hp : past C.H j g ver) (hr' : C'.H.row j g ver s = some es') (hk : ∀ es, C.H.row j g ver s = some es → Abt C j ver s off cap a cap') : Abt C' j ver s off cap a cap' := by
 obtain ⟨⟨es, h1⟩, h2⟩ := h.row j g ver s es' hp hr'
 obtain ⟨a1, a2, a3⟩ := hk es h1
 refine ⟨a1, a2, fun ho hc => ?_⟩
 obtain ⟨b1, e, n, b2, b3⟩ := a3 ho hc
 have hm := h2 (by omega)
 exact ⟨by rw [hm]; exact b1, e, n, by rw [hm]; exact h.shape _ _ _ b2, b3⟩
mutual
theorem VR.mono {C C' : Ctx} (h : Evo C C') {r t : Bool} : ∀ {a : AV} {v : Value}, VR C r t a v → VR C' r t a v
 | .int _ _, _, hv => by simpa [VR] using hv
 | .bool _, _, hv => by simpa [VR] using hv
 | .str _, _, hv => by simpa [VR] using hv
 | .undef, _, hv => by simpa [VR] using hv
 | .junk, _, _ => by simp [VR]
 | .nilp, _, hv => by simpa [VR] using hv
 | .nilf, _, hv => by simpa [VR] using hv
 | .ptr j g ver s i off, _, hv => by
  simp only [VR] at hv ⊢
  obtain ⟨h1, h2, a, h3, h4⟩ := hv
  refine ⟨h1, h.pst _ _ _ h2, a, h3, fun es' hr hi => ?_⟩
  obtain ⟨⟨es, hr0⟩, hm⟩ := h.row _ _ _ _ _ h2 hr
  rw [hm (by omega)]; exact h4 es hr0 hi
 | .iptr tt cells, _, hv => by
  simp only [VR] at hv ⊢
  obtain ⟨h1, b, o, vs, h2, h3, h4, h5⟩ := hv
  exact ⟨h1, b, o, vs, h2, h.ib h3, h.rowAt h3 h4, VRL.mono h h5⟩
 | .slc j g ver s off len cap, _, hv => by
  simp only [VR] at hv ⊢
  obtain ⟨h1, h2, a, cap', h3, h5, h4⟩ := hv
  exact ⟨h1, h.pst _ _ _ h2, a, cap', h3, h5, fun es' hr => h.slcOk h2 hr h4⟩
 | .islc tt full s es, _, hv => by
  simp only [VR] at hv ⊢
  obtain ⟨h1, a, cap', h2, h3, h4, h5⟩ := hv
  refine ⟨h1, a, cap', h2, h3, h4, fun hne => ?_⟩
  obtain ⟨b, o, vs, k1, k2, k3, k4⟩ := h5 hne
  exact ⟨b, o, vs, k1, h.ib k2, h.rowAt k2 k3, CRL.mono h k4⟩
 | .agg cs, _, hv => by
  simp only [VR] at hv ⊢
  obtain ⟨vs, h1, h2⟩ := hv
  exact ⟨vs, h1, VRL.mono h h2⟩
 | .tup cs, _, hv => by
  simp only [VR] at hv ⊢
  obtain ⟨vs, h1, h2⟩ := hv
  exact ⟨vs, h1, VRT.mono h h2⟩
 | .fn f cs, _, hv => by
  simp only [VR] at hv ⊢
  obtain ⟨vs, h1, h2⟩ := hv
  exact ⟨vs, h1, VRT.mono h h2⟩
 | .mp j g, _, hv => by
  simp only [VR] at hv ⊢
  obtain ⟨h1, h2, b, h3, h4⟩ := hv
  refine ⟨h1, h.pst _ _ _ h2, b, h3, fun es' hr => ?_⟩
  obtain ⟨⟨es, hr0⟩, hm⟩ := h.map _ _ _ h2 hr
  rw [hm]; exact h4 es hr0
theorem VRL.mono {C C' : Ctx} (h : Evo C C') {r t : Bool} : ∀ {as : List AV} {vs : List Value}, VRL C r t as vs → VRL C' r t as vs
 | [], _, hv => by simpa [VRL] using hv
 | a :: as, _, hv => by
  simp only [VRL] at hv ⊢
  obtain ⟨v, vs', h1, h2, h3, h4⟩ := hv
  exact ⟨v, vs', h1, h2, VR.mono h h3, VRL.mono h h4⟩
theorem VRT.mono {C C' : Ctx} (h : Evo C C') {r t : Bool} : ∀ {as : List AV} {vs : List Value}, VRT C r t as vs → VRT C' r t as vs
 | [], _, hv => by simpa [VRT] using hv
 | a :: as, _, hv => by
  simp only [VRT] at hv ⊢
  obtain ⟨v, vs', h1, h3, h4⟩ := hv
  exact ⟨v, vs', h1, VR.mono h h3, VRT.mono h h4⟩
theorem CRL.mono {C C' : Ctx} (h : Evo C C') {r t : Bool} {s : Nat} : ∀ {as : List AV} {vs : List Value}, CRL C r t s as vs → CRL C' r t s as vs
 | [], _, hv => by simpa [CRL] using hv
 | a :: as, _, hv => by
  simp only [CRL] at hv ⊢
  obtain ⟨⟨h0, h5, v, h1, h2, h3⟩, h4⟩ := hv
  exact ⟨⟨h0, h5, v, VR.mono h h1, h2, h3⟩, CRL.mono h h4⟩
end
def MapRel (C : Ctx) : List (Int × AV) → List MapEntry → Prop
 | [], es => es = []
 | (k, a) :: r, es => ∃ e es', es = e :: es' ∧ e.key = .int .i64 k ∧ VR C true true a e.val ∧ MapRel C r es'
theorem MapRel.mono {C C' : Ctx} (h : Evo C C') : ∀ {as : List (Int × AV)} {es : List MapEntry}, MapRel C as es → MapRel C' as es
 | [], _, hv => by simpa [MapRel] using hv
 | (k, a) :: as, _, hv => by
  simp only [MapRel] at hv ⊢
  obtain ⟨e, es', h1, h2, h3, h4⟩ := hv
  exact ⟨e, es', h1, h2, VR.mono h h3, MapRel.mono h h4⟩
def unfrozen (fz : Nat × Nat) (n : Nat) : Prop := fz.1 = fz.2 ∨ n ≤ fz.1
theorem unfrozen.not {fz : Nat × Nat} {n o : Nat} (h : unfrozen fz n) (ho : o < n) : ¬ (fz.1 ≤ o ∧ o < fz.2) := by
 unfold unfrozen at h; omega
structure RowOk (C : Ctx) (j s : Nat) (es : List AV) (c : Array Value) (fz : Nat × Nat) : Prop where
 uf : unfrozen fz c.size
 le : es.length * s ≤ c.size
 cells : CRL C true true s es (c.toList.take (es.length * s))
def BR (C : Ctx) (j : Nat) : Prop :=
 match (C.H j).st with
 | .row s (e :: es) => ¬ C.F (C.μ j) ∧ ∃ c el fz, C.w.heap[C.μ j]? = some (.cells c el fz) ∧ RowOk C j s (e :: es) c fz
 | .map es => ¬ C.F (C.μ j) ∧ ∃ ents clock, C.w.heap[C.μ j]? = some (.map ents clock) ∧ MapRel C es ents.toList
 | _ => True
structure Rel (C : Ctx) : Prop where
 fsz : ∀ b, C.F b → b < C.w.heap.size
 blk : ∀ j, BR C j
 inj : ∀ i j, (C.H i).mut = true → (C.H j).live = true → i ≠ j → C.μ i ≠ C.μ j
 gl : ∀ b, isGl b = true → C.F b ∧ GlOk b C.w.heap[b]?
theorem BR.mono {C C' : Ctx} (h : Evo C C') {j : Nat} (hst : (C'.H j).st = (C.H j).st) (hm : (C.H j).live = true → C'.μ j = C.μ j)
  (hk : (C.H j).live = true → C'.w.heap[C.μ j]? = C.w.heap[C.μ j]?) (hb : BR C j) : BR C' j := by
 unfold BR at hb ⊢
 rw [hst]
 unfold Blk.live at hm hk
 split
 ·rename_i s e es hs
  simp only [hs] at hb hm hk
  obtain ⟨h1, c, el, fz, h2, h3⟩ := hb
  rw [hm trivial]
  exact ⟨by rw [h.F]; exact h1, c, el, fz, by rw [hk trivial]; exact h2, h3.uf, h3.le, CRL.mono h h3.cells⟩
 ·rename_i es hs
  simp only [hs] at hb hm hk
  obtain ⟨h1, ents, clock, h2, h3⟩ := hb
  rw [hm trivial]
  exact ⟨by rw [h.F]; exact h1, ents, clock, by rw [hk trivial]; exact h2, MapRel.mono h h3⟩
 ·trivial
def updN (μ : Nat → Nat) (j m : Nat) : Nat → Nat := fun i => if i = j then m else μ i
@[simp] theorem upd_same (H : Heap) (j : Nat) (b : Blk) : H.upd j b j = b := by simp [Heap.upd_eq]
theorem Ck (H : Heap) {i j : Nat} (b : Blk) (h : i ≠ j) : H.upd j b i = H i := by simp [Heap.upd_eq, h]
@[simp] theorem updN_same (μ : Nat → Nat) (j m : Nat) : updN μ j m j = m := by simp [updN]
theorem Ok (μ : Nat → Nat) {i j : Nat} (m : Nat) (h : i ≠ j) : updN μ j m i = μ i := by simp [updN, h]
theorem row_some {H : Heap} {j g ver s : Nat} {es : List AV} : H.row j g ver s = some es ↔ (H j).gen = g ∧ (H j).st = .row s es ∧ es.length = ver := by
 unfold Heap.row
 rcases hH : H j with ⟨g', ro, st⟩
 cases st with
 | row s' es' =>
  simp only
  constructor
  ·intro h
   split at h
   ·rename_i hc
    obtain ⟨rfl, h2, rfl⟩ := hc
    simp at h; subst h
    exact ⟨rfl, rfl, h2⟩
   ·simp at h
  ·rintro ⟨rfl, h2, h3⟩
   cases h2
   simp [h3]
 | dead => simp
 | map _ => simp
theorem rowW_some {H : Heap} {j g ver s : Nat} {es : List AV} : H.rowW j g ver s = some es ↔ H.row j g ver s = some es ∧ (H j).ro = false := by
 rw [row_some]
 unfold Heap.rowW
 rcases hH : H j with ⟨g', ro, st⟩
 cases st with
 | row s' es' =>
  cases ro with
  | true => simp
  | false =>
   simp only
   constructor
   ·intro h
    split at h
    ·rename_i hc
     obtain ⟨rfl, h2, rfl⟩ := hc
     simp at h; subst h
     exact ⟨⟨rfl, rfl, h2⟩, trivial⟩
    ·simp at h
   ·rintro ⟨⟨rfl, h2, h3⟩, _⟩
    cases h2
    simp [h3]
 | dead => simp
 | map _ => cases ro <;> simp
theorem mapAt_some {H : Heap} {j g : Nat} {es : List (Int × AV)} : H.mapAt j g = some es ↔ (H j).gen = g ∧ (H j).ro = false ∧ (H j).st = .map es := by
 unfold Heap.mapAt
 rcases hH : H j with ⟨g', ro, st⟩
 cases st with
 | map es' =>
  cases ro with
  | true => simp
  | false =>
   simp only
   constructor
   ·intro h
    split at h
    ·simp at h; subst h; simp_all
    ·simp at h
   ·rintro ⟨rfl, _, h2⟩
    cases h2; simp
 | dead => cases ro <;> simp
 | row _ _ => cases ro <;> simp
theorem Pd {b : Blk} {s : Nat} {es : List AV} (h : b.st = .row s es) (hne : es ≠ []) : b.live = true := by
 unfold Blk.live; rw [h]; cases es with
 | nil => exact absurd rfl hne
 | cons _ _ => rfl
theorem Ado {b : Blk} {es : List (Int × AV)} (h : b.st = .map es) : b.live = true := by unfold Blk.live; rw [h]
theorem iM {b : Blk} (h : b.mut = true) : b.live = true := by unfold Blk.mut at h; simp at h; exact h.1
theorem Rel.lt {C : Ctx} (h : Rel C) {j : Nat} (hl : (C.H j).live = true) : C.μ j < C.w.heap.size ∧ ¬ C.F (C.μ j) := by
 have hb := h.blk j
 unfold BR at hb
 unfold Blk.live at hl
 split at hb
 ·obtain ⟨hF, c, el, fz, h2, _⟩ := hb
  exact ⟨(Fe.1 h2).1, hF⟩
 ·obtain ⟨hF, c, el, h2, _⟩ := hb
  exact ⟨(Fe.1 h2).1, hF⟩
 ·rename_i h1 h2
  split at hl
  ·rename_i s e es hs; exact absurd hs (h1 s e es)
  ·rename_i es hs; exact absurd hs (h2 es)
  ·simp at hl
theorem Rel.glm {C C' : Ctx} (hR : Rel C) (hE : Evo C C') : ∀ b, isGl b = true → C'.F b ∧ GlOk b C'.w.heap[b]? := by
 intro b hb
 obtain ⟨h1, h2⟩ := hR.gl b hb
 refine ⟨by rw [hE.F]; exact h1, ?_⟩
 rw [hE.keep b (hR.fsz b h1) (by rintro ⟨j, hm, rfl⟩; exact (hR.lt (iM hm)).2 h1)]
 exact h2
theorem Oe {C : Ctx} (hR : Rel C) (j : Nat) (b' : Blk) (m' : Nat) (w' : World)
  (hgen : (C.H j).gen ≤ b'.gen)
  (hrow : b'.gen = (C.H j).gen → ∀ s es, b'.st = .row s es → ∃ es0, (C.H j).st = .row s es0 ∧ es0.length ≤ es.length ∧ (es.length = es0.length → 0 < es.length → m' = C.μ j))
  (hmap : b'.gen = (C.H j).gen → ∀ es, b'.st = .map es → b'.ro = false → (∃ es0, (C.H j).st = .map es0) ∧ (C.H j).ro = false ∧ m' = C.μ j)
  (hsz : C.w.heap.size ≤ w'.heap.size)
  (hkeep : ∀ b, b < C.w.heap.size → ¬ ((C.H j).mut = true ∧ b = C.μ j) → w'.heap[b]? = C.w.heap[b]?)
  (hshape : ∀ b e n, C.w.shape? b = some (e, n) → w'.shape? b = some (e, n))
  (hown : b'.mut = true → (m' = C.μ j ∧ (C.H j).mut = true) ∨ C.w.heap.size ≤ m')
  (hlive : b'.live = true → (m' = C.μ j ∧ (C.H j).live = true) ∨ C.w.heap.size ≤ m')
  (hos : w'.os = C.w.os) (htape : w'.tape = C.w.tape) (hout : w'.output = C.w.output) :
  Evo C ⟨C.F, updN C.μ j m', C.H.upd j b', w'⟩ ∧ (BR ⟨C.F, updN C.μ j m', C.H.upd j b', w'⟩ j → Rel ⟨C.F, updN C.μ j m', C.H.upd j b', w'⟩) := by
 have hE : Evo C ⟨C.F, updN C.μ j m', C.H.upd j b', w'⟩ := by
  refine ⟨rfl, hsz, fun b hb hn => hkeep b hb fun ⟨h1, h2⟩ => hn ⟨j, h1, h2.symm⟩, ?_, ?_, ?_, ?_, hshape, hos, htape, hout⟩
  ·rintro b ⟨i, h1, h2⟩
   by_cases hi : i = j
   ·subst hi
    simp only [upd_same, updN_same] at h1 h2
    subst h2
    exact (hown h1).imp (fun ⟨e, hm⟩ => ⟨i, hm, e.symm⟩) id
   ·simp only [Ck _ _ hi, Ok _ _ hi] at h1 h2
    exact .inl ⟨i, h1, h2⟩
  ·rintro i g ver ⟨h1, h2⟩
   by_cases hi : i = j
   ·subst hi
    unfold past
    simp only [upd_same]
    refine ⟨Ga h1 hgen, fun hg s es hs => ?_⟩
    have hg' : b'.gen = (C.H i).gen := jD (hg ▸ h1) hgen
    obtain ⟨es0, k1, k2, _⟩ := hrow hg' s es hs
    exact Ga (h2 (hg.trans hg') s es0 k1) k2
   ·unfold past
    simp only [Ck _ _ hi]
    exact ⟨h1, h2⟩
  ·intro i g ver s es' hp hr
   by_cases hi : i = j
   ·subst hi
    rw [row_some] at hr
    simp only [upd_same] at hr
    obtain ⟨r1, r2, r3⟩ := hr
    obtain ⟨h1, h2⟩ := hp
    have hg' : b'.gen = (C.H i).gen := jD (r1 ▸ h1) hgen
    obtain ⟨es0, k1, k2, k3⟩ := hrow hg' s es' r2
    have hl : es0.length = ver := jD (r3 ▸ k2) (h2 (r1.symm.trans hg') s es0 k1)
    refine ⟨⟨es0, row_some.2 ⟨(hg'.symm.trans r1), k1, hl⟩⟩, fun hv => ?_⟩
    simp only [updN_same]
    exact k3 (r3.trans hl.symm) (r3 ▸ hv)
   ·rw [row_some] at hr
    simp only [Ck _ _ hi] at hr
    exact ⟨⟨es', row_some.2 hr⟩, fun _ => Ok _ _ hi⟩
  ·intro i g es' hp hr
   by_cases hi : i = j
   ·subst hi
    rw [mapAt_some] at hr
    simp only [upd_same] at hr
    obtain ⟨r1, r2, r3⟩ := hr
    obtain ⟨h1, h2⟩ := hp
    have hg' : b'.gen = (C.H i).gen := jD (r1 ▸ h1) hgen
    obtain ⟨⟨es0, k1⟩, k2, k3⟩ := hmap hg' es' r3 r2
    exact ⟨⟨es0, mapAt_some.2 ⟨hg'.symm.trans r1, k2, k1⟩⟩, by simp only [updN_same]; exact k3⟩
   ·rw [mapAt_some] at hr
    simp only [Ck _ _ hi] at hr
    exact ⟨⟨es', mapAt_some.2 hr⟩, Ok _ _ hi⟩
 refine ⟨hE, fun hbr => ⟨fun b hb => Iw (hR.fsz b hb) hsz, fun k => ?_, ?_, hR.glm hE⟩⟩
 ·by_cases hk : k = j
  ·subst hk; exact hbr
  ·refine BR.mono hE (by simp only [Ck _ _ hk]) (fun _ => Ok _ _ hk) (fun hl => ?_) (hR.blk k)
   exact hkeep _ (hR.lt hl).1 fun ⟨h1, h2⟩ => hR.inj j k h1 hl (Ne.symm hk) h2.symm
 ·intro i k h1 h2 hne
  by_cases hi : i = j
  ·subst hi
   have hk : k ≠ i := Ne.symm hne
   simp only [upd_same, Ck _ _ hk, updN_same, Ok _ _ hk] at h1 h2 ⊢
   rcases hown h1 with ⟨e, hm⟩ | hs
   ·rw [e]; exact hR.inj i k hm h2 hne
   ·have := (hR.lt h2).1; omega
  ·by_cases hk : k = j
   ·subst hk
    simp only [upd_same, Ck _ _ hi, updN_same, Ok _ _ hi] at h1 h2 ⊢
    rcases hlive h2 with ⟨e, hl⟩ | hs
    ·rw [e]; exact hR.inj i k h1 hl hne
    ·have := (hR.lt (iM h1)).1; omega
   ·simp only [Ck _ _ hi, Ck _ _ hk, Ok _ _ hi, Ok _ _ hk] at h1 h2 ⊢
    exact hR.inj i k h1 h2 hne
theorem Vi {C : Ctx} (hR : Rel C) (w' : World) (hh : w'.heap = C.w.heap) (hos : w'.os = C.w.os) (htape : w'.tape = C.w.tape) (hout : w'.output = C.w.output) :
  Evo C { C with w := w' } ∧ Rel { C with w := w' } := by
 have hE : Evo C { C with w := w' } :=
  ⟨rfl, by simp [hh], fun b _ _ => by simp [hh], fun b h => .inl h, fun _ _ _ h => h, fun _ _ _ _ es' _ h => ⟨⟨es', h⟩, fun _ => rfl⟩,
   fun _ _ es' _ h => ⟨⟨es', h⟩, rfl⟩, fun b e n h => by simpa [World.shape?, hh] using h, hos, htape, hout⟩
 exact ⟨hE, ⟨fun b hb => by simpa [hh] using hR.fsz b hb, fun j => BR.mono hE rfl (fun _ => rfl) (fun _ => by simp [hh]) (hR.blk j), hR.inj, hR.glm hE⟩⟩
theorem Po (w : World) (o : Obj) (b : Nat) (e : TypeId) (n : Nat) (h : w.shape? b = some (e, n)) : (w.alloc o).shape? b = some (e, n) := by
 unfold World.shape? at h ⊢
 have hb : b < w.heap.size := by
  rcases Nat.lt_or_ge b w.heap.size with h' | h'
  ·exact h'
  ·simp [Array.getElem?_eq_none h'] at h
 simp only [World.alloc, Array.getElem?_push, Nat.ne_of_lt hb, Bx]
 exact h
theorem Kh (w : World) (o : Obj) {b : Nat} (h : b < w.heap.size) : (w.alloc o).heap[b]? = w.heap[b]? := by
 simp only [World.alloc, Array.getElem?_push, Nat.ne_of_lt h, Bx]
theorem Gj (w : World) (o : Obj) : (w.alloc o).heap[w.heap.size]? = some o := by
 show (w.heap.push o)[w.heap.size]? = some o
 simp
theorem Ms {C : Ctx} (hR : Rel C) (j s : Nat) (es : List AV) (c : Array Value) (el : TypeId) (fz : Nat × Nat) (hf : unfrozen fz c.size)
  (hle : es.length * s ≤ c.size) (hc : CRL C true true s es (c.toList.take (es.length * s))) :
  Evo C ⟨C.F, updN C.μ j C.w.heap.size, C.H.newRow j s es, C.w.alloc (.cells c el fz)⟩ ∧ Rel ⟨C.F, updN C.μ j C.w.heap.size, C.H.newRow j s es, C.w.alloc (.cells c el fz)⟩ := by
 have hg : ¬ ((C.H j).gen + 1 = (C.H j).gen) := by omega
 obtain ⟨hE, hr⟩ := Oe hR j ⟨(C.H j).gen + 1, false, .row s es⟩ C.w.heap.size (C.w.alloc (.cells c el fz)) (by simp) (fun h => absurd h hg) (fun h => absurd h hg)
  (by simp) (fun b hb _ => Kh _ _ hb) (fun b e n h => Po _ _ _ _ _ h) (fun _ => .inr (Ao _)) (fun _ => .inr (Ao _)) rfl rfl rfl
 refine ⟨hE, hr ?_⟩
 unfold BR
 simp only [upd_same, updN_same]
 cases es with
 | nil => trivial
 | cons e es => exact ⟨fun hF => by have := hR.fsz _ hF; omega, c, el, fz, Gj _ _, hf, hle, CRL.mono hE hc⟩
theorem Aeb {C : Ctx} (hR : Rel C) (j s : Nat) : Evo C { C with H := C.H.newRow j s [] } ∧ Rel { C with H := C.H.newRow j s [] } := by
 have hg : ¬ ((C.H j).gen + 1 = (C.H j).gen) := by omega
 have hμ : updN C.μ j (C.μ j) = C.μ := by funext i; by_cases h : i = j <;> simp [updN, h]
 obtain ⟨hE, hr⟩ := Oe hR j ⟨(C.H j).gen + 1, false, .row s []⟩ (C.μ j) C.w (by simp) (fun h => absurd h hg) (fun h => absurd h hg)
  (Ao _) (fun b hb _ => rfl) (fun b e n h => h) (fun h => by simp [Blk.mut, Blk.live] at h) (fun h => by simp [Blk.live] at h) rfl rfl rfl
 rw [hμ] at hE hr
 exact ⟨hE, hr (by unfold BR; simp)⟩
theorem eB {C : Ctx} (hR : Rel C) {j s : Nat} {es es' : List AV} (hst : (C.H j).st = .row s es) (hro : (C.H j).ro = false) (hlen : es'.length = es.length)
  {c c' : Array Value} {el : TypeId} {fz fz' : Nat × Nat} (w' : World)
  (hobj : es ≠ [] → C.w.heap[C.μ j]? = some (.cells c el fz)) (hf : unfrozen fz' c.size) (hc' : c'.size = c.size) (hle : es.length * s ≤ c.size)
  (hw : es ≠ [] → w'.heap = C.w.heap.modify (C.μ j) (fun _ => .cells c' el fz')) (hw0 : es = [] → w'.heap = C.w.heap)
  (hos : w'.os = C.w.os) (htape : w'.tape = C.w.tape) (hout : w'.output = C.w.output)
  (hc : CRL C true true s es' (c'.toList.take (es'.length * s))) :
  Evo C ⟨C.F, C.μ, C.H.setRow j s es', w'⟩ ∧ Rel ⟨C.F, C.μ, C.H.setRow j s es', w'⟩ := by
 have hμ : updN C.μ j (C.μ j) = C.μ := by funext i; by_cases h : i = j <;> simp [updN, h]
 have hne' : es' ≠ [] ↔ es ≠ [] := by rw [← Fp, ← Fp, hlen]
 have hsz : w'.heap.size = C.w.heap.size := by
  by_cases h : es = []
  ·rw [hw0 h]
  ·rw [hw h]; simp
 have hk : ∀ b, ¬ (es ≠ [] ∧ b = C.μ j) → w'.heap[b]? = C.w.heap[b]? := fun b hb => by
  by_cases h : es = []
  ·rw [hw0 h]
  ·rw [hw h, Eu, if_neg (fun e => hb ⟨h, e.symm⟩)]
 have hmut : es ≠ [] → (C.H j).mut = true := fun h => by unfold Blk.mut; rw [Pd hst h, hro]; rfl
 obtain ⟨hE, hr⟩ := Oe hR j ⟨(C.H j).gen, false, .row s es'⟩ (C.μ j) w' (Ao _)
  (fun _ s1 es1 h1 => by cases h1; exact ⟨es, hst, by omega, fun _ _ => rfl⟩) (fun _ es1 h1 => by simp at h1)
  (by omega) (fun b hb hn => hk b fun ⟨h1, h2⟩ => hn ⟨hmut h1, h2⟩)
  (fun b e n h => by
   by_cases hb : es ≠ [] ∧ b = C.μ j
   ·obtain ⟨h1, rfl⟩ := hb
    have ho := hobj h1
    unfold World.shape? at h ⊢
    rw [ho] at h
    rw [hw h1, Eu, if_pos rfl, ho]
    simpa [hc'] using h
   ·unfold World.shape? at h ⊢
    rw [hk b hb]; exact h)
  (fun h => .inl ⟨rfl, hmut (hne'.1 (fun h0 => by subst h0; simp [Blk.mut, Blk.live] at h))⟩)
  (fun h => .inl ⟨rfl, Pd hst (hne'.1 (fun h0 => by subst h0; simp [Blk.live] at h))⟩) hos htape hout
 rw [hμ] at hE hr
 refine ⟨hE, hr ?_⟩
 unfold BR
 simp only [upd_same]
 cases es' with
 | nil => trivial
 | cons e es1 =>
  have hne : es ≠ [] := hne'.1 (by simp)
  refine ⟨(hR.lt (Pd hst hne)).2, c', el, fz', ?_, by rw [hc']; exact hf, by rw [hlen, hc']; exact hle, CRL.mono hE hc⟩
  rw [hw hne, Eu, if_pos rfl, hobj hne]; rfl
theorem Adt {C : Ctx} (hR : Rel C) {j s : Nat} {es es' : List AV} (hst : (C.H j).st = .row s es) (hlen : es.length < es'.length)
  (c : Array Value) (el : TypeId) (fz : Nat × Nat) (hf : unfrozen fz c.size)
  (hle : es'.length * s ≤ c.size) (hc : CRL C true true s es' (c.toList.take (es'.length * s))) :
  Evo C ⟨C.F, updN C.μ j C.w.heap.size, C.H.setRow j s es', C.w.alloc (.cells c el fz)⟩ ∧ Rel ⟨C.F, updN C.μ j C.w.heap.size, C.H.setRow j s es', C.w.alloc (.cells c el fz)⟩ := by
 obtain ⟨hE, hr⟩ := Oe hR j ⟨(C.H j).gen, false, .row s es'⟩ C.w.heap.size (C.w.alloc (.cells c el fz)) (Ao _)
  (fun _ s1 es1 h1 => by cases h1; exact ⟨es, hst, by omega, fun h _ => by omega⟩) (fun _ es1 h1 => by simp at h1)
  (by simp) (fun b hb _ => Kh _ _ hb) (fun b e n h => Po _ _ _ _ _ h) (fun _ => .inr (Ao _)) (fun _ => .inr (Ao _)) rfl rfl rfl
 refine ⟨hE, hr ?_⟩
 unfold BR
 simp only [upd_same, updN_same]
 cases es' with
 | nil => trivial
 | cons e es => exact ⟨fun hF => by have := hR.fsz _ hF; omega, c, el, fz, Gj _ _, hf, hle, CRL.mono hE hc⟩
theorem zS {C : Ctx} (hR : Rel C) {j s : Nat} {es es' : List AV} (hst : (C.H j).st = .row s es) (hro : (C.H j).ro = false) (hne : es ≠ []) (hlen : es.length ≤ es'.length)
  {c c' : Array Value} {el : TypeId} {fz : Nat × Nat} (w' : World)
  (hobj : C.w.heap[C.μ j]? = some (.cells c el fz)) (hf : unfrozen fz c.size) (hc' : c'.size = c.size) (hle : es'.length * s ≤ c.size)
  (hw : w'.heap = C.w.heap.modify (C.μ j) (fun _ => .cells c' el fz))
  (hos : w'.os = C.w.os) (htape : w'.tape = C.w.tape) (hout : w'.output = C.w.output)
  (hc : CRL C true true s es' (c'.toList.take (es'.length * s))) :
  Evo C ⟨C.F, C.μ, C.H.setRow j s es', w'⟩ ∧ Rel ⟨C.F, C.μ, C.H.setRow j s es', w'⟩ := by
 have hμ : updN C.μ j (C.μ j) = C.μ := by funext i; by_cases h : i = j <;> simp [updN, h]
 have hsz : w'.heap.size = C.w.heap.size := by rw [hw]; simp
 have hk : ∀ b, b ≠ C.μ j → w'.heap[b]? = C.w.heap[b]? := fun b hb => by rw [hw, Eu, if_neg (Ne.symm hb)]
 have hl := Pd hst hne
 have hmut : (C.H j).mut = true := by unfold Blk.mut; rw [hl, hro]; rfl
 obtain ⟨hE, hr⟩ := Oe hR j ⟨(C.H j).gen, false, .row s es'⟩ (C.μ j) w' (Ao _)
  (fun _ s1 es1 h1 => by cases h1; exact ⟨es, hst, by omega, fun _ _ => rfl⟩) (fun _ es1 h1 => by simp at h1)
  (by omega) (fun b hb hn => hk b fun h2 => hn ⟨hmut, h2⟩)
  (fun b e n h => by
   by_cases hb : b = C.μ j
   ·subst hb
    unfold World.shape? at h ⊢
    rw [hobj] at h
    rw [hw, Eu, if_pos rfl, hobj]
    simpa [hc'] using h
   ·unfold World.shape? at h ⊢
    rw [hk b hb]; exact h)
  (fun h => .inl ⟨rfl, hmut⟩) (fun h => .inl ⟨rfl, hl⟩) hos htape hout
 rw [hμ] at hE hr
 refine ⟨hE, hr ?_⟩
 unfold BR
 simp only [upd_same]
 cases es' with
 | nil => trivial
 | cons e es1 =>
  refine ⟨(hR.lt hl).2, c', el, fz, ?_, by rw [hc']; exact hf, by rw [hc']; exact hle, CRL.mono hE hc⟩
  rw [hw, Eu, if_pos rfl, hobj]; rfl
theorem Ahk {C : Ctx} (hR : Rel C) (j : Nat) : Evo C { C with H := C.H.upd j ⟨(C.H j).gen, true, (C.H j).st⟩ } ∧ Rel { C with H := C.H.upd j ⟨(C.H j).gen, true, (C.H j).st⟩ } := by
 have hμ : updN C.μ j (C.μ j) = C.μ := by funext i; by_cases h : i = j <;> simp [updN, h]
 obtain ⟨hE, hr⟩ := Oe hR j ⟨(C.H j).gen, true, (C.H j).st⟩ (C.μ j) C.w (Ao _)
  (fun _ s1 es1 h1 => ⟨es1, h1, Ao _, fun _ _ => rfl⟩) (fun _ es1 h1 h2 => by simp at h2)
  (Ao _) (fun b hb _ => rfl) (fun b e n h => h) (fun h => by simp [Blk.mut] at h) (fun h => .inl ⟨rfl, by simpa [Blk.live] using h⟩) rfl rfl rfl
 rw [hμ] at hE hr
 refine ⟨hE, hr ?_⟩
 exact BR.mono hE (by simp) (fun _ => rfl) (fun _ => rfl) (hR.blk j)
end Go.AI
namespace Go.AI
section lists
variable {C : Ctx} {r t : Bool}
theorem VRL.length : ∀ {as : List AV} {vs : List Value}, VRL C r t as vs → vs.length = as.length
 | [], _, h => by simp only [VRL] at h; simp [h]
 | a :: as, _, h => by
  simp only [VRL] at h
  obtain ⟨v, vs', rfl, _, _, h⟩ := h
  simp [VRL.length h]
theorem VRL.one : ∀ {as : List AV} {vs : List Value}, VRL C r t as vs → ∀ u ∈ vs, u.oneCell' = true
 | [], _, h => by simp only [VRL] at h; simp [h]
 | a :: as, _, h => by
  simp only [VRL] at h
  obtain ⟨v, vs', rfl, h1, _, h⟩ := h
  intro u hu
  rcases Au.1 hu with rfl | hu
  ·exact h1
  ·exact VRL.one h u hu
theorem VRL.get : ∀ {as : List AV} {vs : List Value} (i : Nat) {a : AV}, VRL C r t as vs → as[i]? = some a → ∃ v, vs[i]? = some v ∧ v.oneCell' = true ∧ VR C r t a v
 | [], _, i, _, _, ha => by simp at ha
 | a :: as, _, 0, _, h, ha => by
  simp only [VRL] at h
  obtain ⟨v, vs', rfl, h1, h2, _⟩ := h
  simp at ha; subst ha
  exact ⟨v, by simp, h1, h2⟩
 | a :: as, _, i + 1, _, h, ha => by
  simp only [VRL] at h
  obtain ⟨v, vs', rfl, _, _, h⟩ := h
  simp at ha
  obtain ⟨v', h1, h2⟩ := VRL.get i h ha
  exact ⟨v', by simpa using h1, h2⟩
theorem VRT.length : ∀ {as : List AV} {vs : List Value}, VRT C r t as vs → vs.length = as.length
 | [], _, h => by simp only [VRT] at h; simp [h]
 | a :: as, _, h => by
  simp only [VRT] at h
  obtain ⟨v, vs', rfl, _, h⟩ := h
  simp [VRT.length h]
theorem VRT.get : ∀ {as : List AV} {vs : List Value} (i : Nat) {a : AV}, VRT C r t as vs → as[i]? = some a → ∃ v, vs[i]? = some v ∧ VR C r t a v
 | [], _, i, _, _, ha => by simp at ha
 | a :: as, _, 0, _, h, ha => by
  simp only [VRT] at h
  obtain ⟨v, vs', rfl, h2, _⟩ := h
  simp at ha; subst ha
  exact ⟨v, by simp, h2⟩
 | a :: as, _, i + 1, _, h, ha => by
  simp only [VRT] at h
  obtain ⟨v, vs', rfl, _, h⟩ := h
  simp at ha
  obtain ⟨v', h1, h2⟩ := VRT.get i h ha
  exact ⟨v', by simpa using h1, h2⟩
theorem VRT.append : ∀ {as bs : List AV} {vs us : List Value}, VRT C r t as vs → VRT C r t bs us → VRT C r t (as ++ bs) (vs ++ us)
 | [], _, _, _, h, k => by simp only [VRT] at h; subst h; simpa using k
 | a :: as, _, _, _, h, k => by
  simp only [VRT] at h
  obtain ⟨v, vs', rfl, h2, h⟩ := h
  simp only [Hf, VRT]
  exact ⟨v, _, rfl, h2, VRT.append h k⟩
theorem VRL.append : ∀ {as bs : List AV} {vs us : List Value}, VRL C r t as vs → VRL C r t bs us → VRL C r t (as ++ bs) (vs ++ us)
 | [], _, _, _, h, k => by simp only [VRL] at h; subst h; simpa using k
 | a :: as, _, _, _, h, k => by
  simp only [VRL] at h
  obtain ⟨v, vs', rfl, h1, h2, h⟩ := h
  simp only [Hf, VRL]
  exact ⟨v, _, rfl, h1, h2, VRL.append h k⟩
theorem VRL.drop : ∀ {as : List AV} {vs : List Value} (n : Nat), VRL C r t as vs → VRL C r t (as.drop n) (vs.drop n)
 | _, _, 0, h => by simpa using h
 | [], _, n + 1, h => by simp only [VRL] at h; subst h; simp [VRL]
 | a :: as, _, n + 1, h => by
  simp only [VRL] at h
  obtain ⟨v, vs', rfl, _, _, h⟩ := h
  simpa using VRL.drop n h
theorem VRL.take : ∀ {as : List AV} {vs : List Value} (n : Nat), VRL C r t as vs → VRL C r t (as.take n) (vs.take n)
 | _, _, 0, h => by simp [VRL]
 | [], _, n + 1, h => by simp only [VRL] at h; subst h; simp [VRL]
 | a :: as, _, n + 1, h => by
  simp only [VRL] at h
  obtain ⟨v, vs', rfl, h1, h2, h⟩ := h
  simp only [Jy, VRL]
  exact ⟨v, _, rfl, h1, h2, VRL.take n h⟩
def EL (C : Ctx) (r t : Bool) (s : Nat) (e : AV) (us : List Value) : Prop := e.cells.length = s ∧ VRL C r t e.cells us
theorem VR.cells {e : AV} {v : Value} (h : VR C r t e v) (h1 : ∀ u ∈ v.cells.toList, u.oneCell' = true) (hl : v.cells.toList.length = e.cells.length) : VRL C r t e.cells v.cells.toList := by
 cases e with
 | agg cs =>
  simp only [VR] at h
  obtain ⟨vs, rfl, h⟩ := h
  exact h
 | junk =>
  simp only [AV.cells, List.length_singleton] at hl ⊢
  obtain ⟨u, hu⟩ := Qi.1 hl
  rw [hu] at h1 ⊢
  simp only [VRL]
  exact ⟨u, [], rfl, h1 u (by simp), by simp [VR], rfl⟩
 | tup l =>
  simp only [VR] at h
  obtain ⟨vs, rfl, _⟩ := h
  have := h1 (.tuple vs) (by simp [Value.cells])
  simp [Value.oneCell'] at this
 | _ =>
  have hv := h
  simp only [VR] at h
  have : v.cells = #[v] := by
   unfold Value.cells
   split
   ·simp_all [Go.undef]
   ·rfl
  rw [this] at h1 ⊢
  simp only [AV.cells, VRL]
  exact ⟨v, [], by simp, h1 v (by simp), hv, rfl⟩
theorem VR.of_cells {e : AV} {us : List Value} (h : VRL C r t e.cells us) : ∃ v, VR C r t e v ∧ v.cells.toList = us := by
 have hone := VRL.one h
 cases e with
 | agg cs => exact ⟨.agg us.toArray, by simp only [VR]; exact ⟨us.toArray, rfl, by simpa [AV.cells] using h⟩, by simp [Value.cells]⟩
 | _ =>
  simp only [AV.cells, VRL] at h
  obtain ⟨v, vs', rfl, h1, h2, rfl⟩ := h
  refine ⟨v, h2, ?_⟩
  cases v <;> simp_all [Value.cells, Value.oneCell']
theorem Jd {s : Nat} {e : AV} {es : List AV} {vs : List Value} : CRL C r t s (e :: es) vs ↔ EL C r t s e (vs.take s) ∧ CRL C r t s es (vs.drop s) := by
 simp only [CRL, EL]
 constructor
 ·rintro ⟨⟨h0, h5, v, h1, h2, h3⟩, h4⟩
  refine ⟨⟨h0, ?_⟩, h4⟩
  have hl : (vs.take s).length = s := by simp; omega
  rw [← h2] at h3 hl ⊢
  exact VR.cells h1 h3 (hl.trans h0.symm)
 ·rintro ⟨⟨h0, h1⟩, h4⟩
  obtain ⟨v, h5, h6⟩ := VR.of_cells h1
  have := VRL.length h1
  simp only [Cf] at this
  exact ⟨⟨h0, by omega, v, h5, h6, VRL.one h1⟩, h4⟩
theorem EL.length {s : Nat} {e : AV} {us : List Value} (h : EL C r t s e us) : us.length = s := (VRL.length h.2).trans h.1
theorem CRL.length {s : Nat} : ∀ {es : List AV} {vs : List Value}, CRL C r t s es vs → vs.length = es.length * s
 | [], _, h => by simp only [CRL] at h; simp [h]
 | e :: es, vs, h => by
  rw [Jd] at h
  have h1 := EL.length h.1
  have h2 := CRL.length h.2
  simp only [Cf, Ea, As] at *
  rw [Cp]; omega
theorem CRL.get {s : Nat} : ∀ {es : List AV} {vs : List Value} (i : Nat) {e : AV}, CRL C r t s es vs → es[i]? = some e → EL C r t s e ((vs.drop (i * s)).take s)
 | [], _, i, _, _, he => by simp at he
 | e :: es, vs, 0, _, h, he => by
  rw [Jd] at h
  simp at he; subst he
  simpa using h.1
 | e :: es, vs, i + 1, _, h, he => by
  rw [Jd] at h
  simp at he
  have := CRL.get i h.2 he
  rwa [pG, show s + i * s = (i + 1) * s by rw [Cp]; omega] at this
theorem CRL.append {s : Nat} : ∀ {es fs : List AV} {vs us : List Value}, CRL C r t s es vs → CRL C r t s fs us → CRL C r t s (es ++ fs) (vs ++ us)
 | [], _, _, _, h, k => by simp only [CRL] at h; subst h; simpa using k
 | e :: es, fs, vs, us, h, k => by
  have hl := CRL.length h
  rw [As, Cp] at hl
  rw [Jd] at h
  rw [Hf, Jd, Cq (by omega), List.drop_append_of_le_length (by omega)]
  exact ⟨h.1, CRL.append h.2 k⟩
theorem CRL.drop {s : Nat} : ∀ {es : List AV} {vs : List Value} (n : Nat), CRL C r t s es vs → CRL C r t s (es.drop n) (vs.drop (n * s))
 | _, _, 0, h => by simpa using h
 | [], vs, n + 1, h => by simp only [CRL] at h; subst h; simp [CRL]
 | e :: es, vs, n + 1, h => by
  rw [Jd] at h
  have := CRL.drop n h.2
  rwa [pG, show s + n * s = (n + 1) * s by rw [Cp]; omega] at this
theorem CRL.take {s : Nat} : ∀ {es : List AV} {vs : List Value} (n : Nat), CRL C r t s es vs → CRL C r t s (es.take n) (vs.take (n * s))
 | _, _, 0, h => by simp [CRL]
 | [], vs, n + 1, h => by simp only [CRL] at h; subst h; simp [CRL]
 | e :: es, vs, n + 1, h => by
  rw [Jd] at h
  have := CRL.take n h.2
  rw [Jy, Jd, List.take_take, List.drop_take, Cp, Ady, Nat.add_sub_cancel, Hx (by omega)]
  exact ⟨h.1, this⟩
theorem Xp {s : Nat} {e : AV} {us : List Value} (h : EL C r t s e us) : CRL C r t s [e] us := by
 have hl := EL.length h
 rw [Jd, Aj (by omega), Bm (by omega)]
 exact ⟨h, rfl⟩
theorem CRL.set {s : Nat} {es : List AV} {vs : List Value} (i : Nat) {e : AV} {us : List Value} (h : CRL C r t s es vs) (hi : i < es.length) (he : EL C r t s e us) :
  CRL C r t s (es.set i e) (vs.take (i * s) ++ us ++ vs.drop ((i + 1) * s)) := by
 rw [List.set_eq_take_append_cons_drop, if_pos hi, ← List.singleton_append, ← Dr]
 exact ((h.take i).append (Xp he)).append (h.drop (i + 1))
theorem CRL.replicate {s : Nat} {e : AV} {us : List Value} (h : EL C r t s e us) : ∀ n, CRL C r t s (List.replicate n e) (List.replicate n us).flatten
 | 0 => by simp [CRL]
 | n + 1 => by
  rw [List.replicate_succ, List.replicate_succ, List.flatten_cons, ← List.singleton_append]
  exact (Xp h).append (CRL.replicate h n)
theorem CRL.one {s : Nat} : ∀ {es : List AV} {vs : List Value}, CRL C r t s es vs → ∀ u ∈ vs, u.oneCell' = true
 | [], _, h => by simp only [CRL] at h; simp [h]
 | e :: es, vs, h => by
  rw [Jd] at h
  intro u hu
  rw [← Iy s vs] at hu
  rcases Bg.1 hu with hu | hu
  ·exact VRL.one h.1.2 u hu
  ·exact CRL.one h.2 u hu
end lists
section cast
variable {C D : Ctx}
mutual
theorem VR.cast {t : Bool} (hw : D.w = C.w) (hI : ∀ tt b, (tt = true → t = true) → IB C tt b → IB D tt b) {r : Bool} : ∀ {a : AV} {v : Value}, a.norefs = true → VR C r t a v → VR D false t a v
 | .int _ _, _, _, hv => by simpa [VR] using hv
 | .bool _, _, _, hv => by simpa [VR] using hv
 | .str _, _, _, hv => by simpa [VR] using hv
 | .undef, _, _, hv => by simpa [VR] using hv
 | .junk, _, _, _ => by simp [VR]
 | .nilp, _, _, hv => by simpa [VR] using hv
 | .nilf, _, _, hv => by simpa [VR] using hv
 | .ptr j g ver s i off, _, h, _ => by simp [AV.norefs] at h
 | .slc j g ver s off len cap, _, h, _ => by simp [AV.norefs] at h
 | .mp j g, _, h, _ => by simp [AV.norefs] at h
 | .iptr tt cells, _, _, hv => by
  simp only [VR] at hv ⊢
  obtain ⟨h1, b, o, vs, h2, h3, h4, h5⟩ := hv
  exact ⟨h1, b, o, vs, h2, hI _ _ h1 h3, by rw [hw]; exact h4, VRL.castI hw (fun t' b h => hI t' b (fun h' => h1 (h h'))) h5⟩
 | .islc tt full s es, _, _, hv => by
  simp only [VR] at hv ⊢
  obtain ⟨h1, a, cap', h2, h3, h4, h5⟩ := hv
  refine ⟨h1, a, cap', h2, h3, h4, fun hne => ?_⟩
  obtain ⟨b, o, vs, k1, k2, k3, k4⟩ := h5 hne
  exact ⟨b, o, vs, k1, hI _ _ h1 k2, by rw [hw]; exact k3, CRL.castI hw (fun t' b h => hI t' b (fun h' => h1 (h h'))) k4⟩
 | .agg cs, _, h, hv => by
  simp only [VR, AV.norefs] at hv h ⊢
  obtain ⟨vs, h1, h2⟩ := hv
  exact ⟨vs, h1, VRL.cast hw hI h h2⟩
 | .tup cs, _, h, hv => by
  simp only [VR, AV.norefs] at hv h ⊢
  obtain ⟨vs, h1, h2⟩ := hv
  exact ⟨vs, h1, VRT.cast hw hI h h2⟩
 | .fn f cs, _, h, hv => by
  simp only [VR, AV.norefs] at hv h ⊢
  obtain ⟨vs, h1, h2⟩ := hv
  exact ⟨vs, h1, VRT.cast hw hI h h2⟩
theorem VRL.cast {t : Bool} (hw : D.w = C.w) (hI : ∀ tt b, (tt = true → t = true) → IB C tt b → IB D tt b) {r : Bool} : ∀ {as : List AV} {vs : List Value}, Bq as = true → VRL C r t as vs → VRL D false t as vs
 | [], _, _, hv => by simpa [VRL] using hv
 | a :: as, _, h, hv => by
  simp only [VRL, Bq, Bu] at hv h ⊢
  obtain ⟨v, vs', h1, h2, h3, h4⟩ := hv
  exact ⟨v, vs', h1, h2, VR.cast hw hI h.1 h3, VRL.cast hw hI h.2 h4⟩
theorem VRT.cast {t : Bool} (hw : D.w = C.w) (hI : ∀ tt b, (tt = true → t = true) → IB C tt b → IB D tt b) {r : Bool} : ∀ {as : List AV} {vs : List Value}, Bq as = true → VRT C r t as vs → VRT D false t as vs
 | [], _, _, hv => by simpa [VRT] using hv
 | a :: as, _, h, hv => by
  simp only [VRT, Bq, Bu] at hv h ⊢
  obtain ⟨v, vs', h1, h3, h4⟩ := hv
  exact ⟨v, vs', h1, VR.cast hw hI h.1 h3, VRT.cast hw hI h.2 h4⟩
theorem VR.castI {t : Bool} (hw : D.w = C.w) (hI : ∀ tt b, (tt = true → t = true) → IB C tt b → IB D tt b) : ∀ {a : AV} {v : Value}, VR C false t a v → VR D false t a v
 | .int _ _, _, hv => by simpa [VR] using hv
 | .bool _, _, hv => by simpa [VR] using hv
 | .str _, _, hv => by simpa [VR] using hv
 | .undef, _, hv => by simpa [VR] using hv
 | .junk, _, _ => by simp [VR]
 | .nilp, _, hv => by simpa [VR] using hv
 | .nilf, _, hv => by simpa [VR] using hv
 | .ptr j g ver s i off, _, h => by simp [VR] at h
 | .slc j g ver s off len cap, _, h => by simp [VR] at h
 | .mp j g, _, h => by simp [VR] at h
 | .iptr tt cells, _, hv => by
  simp only [VR] at hv ⊢
  obtain ⟨h1, b, o, vs, h2, h3, h4, h5⟩ := hv
  exact ⟨h1, b, o, vs, h2, hI _ _ h1 h3, by rw [hw]; exact h4, VRL.castI hw (fun t' b h => hI t' b (fun h' => h1 (h h'))) h5⟩
 | .islc tt full s es, _, hv => by
  simp only [VR] at hv ⊢
  obtain ⟨h1, a, cap', h2, h3, h4, h5⟩ := hv
  refine ⟨h1, a, cap', h2, h3, h4, fun hne => ?_⟩
  obtain ⟨b, o, vs, k1, k2, k3, k4⟩ := h5 hne
  exact ⟨b, o, vs, k1, hI _ _ h1 k2, by rw [hw]; exact k3, CRL.castI hw (fun t' b h => hI t' b (fun h' => h1 (h h'))) k4⟩
 | .agg cs, _, hv => by
  simp only [VR] at hv ⊢
  obtain ⟨vs, h1, h2⟩ := hv
  exact ⟨vs, h1, VRL.castI hw hI h2⟩
 | .tup cs, _, hv => by
  simp only [VR] at hv ⊢
  obtain ⟨vs, h1, h2⟩ := hv
  exact ⟨vs, h1, VRT.castI hw hI h2⟩
 | .fn f cs, _, hv => by
  simp only [VR] at hv ⊢
  obtain ⟨vs, h1, h2⟩ := hv
  exact ⟨vs, h1, VRT.castI hw hI h2⟩
theorem VRL.castI {t : Bool} (hw : D.w = C.w) (hI : ∀ tt b, (tt = true → t = true) → IB C tt b → IB D tt b) : ∀ {as : List AV} {vs : List Value}, VRL C false t as vs → VRL D false t as vs
 | [], _, hv => by simpa [VRL] using hv
 | a :: as, _, hv => by
  simp only [VRL] at hv ⊢
  obtain ⟨v, vs', h1, h2, h3, h4⟩ := hv
  exact ⟨v, vs', h1, h2, VR.castI hw hI h3, VRL.castI hw hI h4⟩
theorem VRT.castI {t : Bool} (hw : D.w = C.w) (hI : ∀ tt b, (tt = true → t = true) → IB C tt b → IB D tt b) : ∀ {as : List AV} {vs : List Value}, VRT C false t as vs → VRT D false t as vs
 | [], _, hv => by simpa [VRT] using hv
 | a :: as, _, hv => by
  simp only [VRT] at hv ⊢
  obtain ⟨v, vs', h1, h3, h4⟩ := hv
  exact ⟨v, vs', h1, VR.castI hw hI h3, VRT.castI hw hI h4⟩
theorem CRL.castI {t : Bool} {s : Nat} (hw : D.w = C.w) (hI : ∀ tt b, (tt = true → t = true) → IB C tt b → IB D tt b) : ∀ {as : List AV} {vs : List Value}, CRL C false t s as vs → CRL D false t s as vs
 | [], _, hv => by simpa [CRL] using hv
 | a :: as, _, hv => by
  simp only [CRL] at hv ⊢
  obtain ⟨⟨h0, h5, v, h1, h2, h3⟩, h4⟩ := hv
  exact ⟨⟨h0, h5, v, VR.castI hw hI h1, h2, h3⟩, CRL.castI hw hI h4⟩
end
mutual
theorem VR.weak {r r' t t' : Bool} (hr : r = true → r' = true) (ht : t = true → t' = true) : ∀ {a : AV} {v : Value}, VR C r t a v → VR C r' t' a v
 | .int _ _, _, hv => by simpa [VR] using hv
 | .bool _, _, hv => by simpa [VR] using hv
 | .str _, _, hv => by simpa [VR] using hv
 | .undef, _, hv => by simpa [VR] using hv
 | .junk, _, _ => by simp [VR]
 | .nilp, _, hv => by simpa [VR] using hv
 | .nilf, _, hv => by simpa [VR] using hv
 | .ptr j g ver s i off, _, h => by simp only [VR] at h ⊢; exact ⟨hr h.1, h.2⟩
 | .slc j g ver s off len cap, _, h => by simp only [VR] at h ⊢; exact ⟨hr h.1, h.2⟩
 | .mp j g, _, h => by simp only [VR] at h ⊢; exact ⟨hr h.1, h.2⟩
 | .iptr tt cells, _, hv => by
  simp only [VR] at hv ⊢
  exact ⟨fun h => ht (hv.1 h), hv.2⟩
 | .islc tt full s es, _, hv => by
  simp only [VR] at hv ⊢
  exact ⟨fun h => ht (hv.1 h), hv.2⟩
 | .agg cs, _, hv => by
  simp only [VR] at hv ⊢
  obtain ⟨vs, h1, h2⟩ := hv
  exact ⟨vs, h1, VRL.weak hr ht h2⟩
 | .tup cs, _, hv => by
  simp only [VR] at hv ⊢
  obtain ⟨vs, h1, h2⟩ := hv
  exact ⟨vs, h1, VRT.weak hr ht h2⟩
 | .fn f cs, _, hv => by
  simp only [VR] at hv ⊢
  obtain ⟨vs, h1, h2⟩ := hv
  exact ⟨vs, h1, VRT.weak hr ht h2⟩
theorem VRL.weak {r r' t t' : Bool} (hr : r = true → r' = true) (ht : t = true → t' = true) : ∀ {as : List AV} {vs : List Value}, VRL C r t as vs → VRL C r' t' as vs
 | [], _, hv => by simpa [VRL] using hv
 | a :: as, _, hv => by
  simp only [VRL] at hv ⊢
  obtain ⟨v, vs', h1, h2, h3, h4⟩ := hv
  exact ⟨v, vs', h1, h2, VR.weak hr ht h3, VRL.weak hr ht h4⟩
theorem VRT.weak {r r' t t' : Bool} (hr : r = true → r' = true) (ht : t = true → t' = true) : ∀ {as : List AV} {vs : List Value}, VRT C r t as vs → VRT C r' t' as vs
 | [], _, hv => by simpa [VRT] using hv
 | a :: as, _, hv => by
  simp only [VRT] at hv ⊢
  obtain ⟨v, vs', h1, h3, h4⟩ := hv
  exact ⟨v, vs', h1, VR.weak hr ht h3, VRT.weak hr ht h4⟩
end
theorem CRL.weak {r r' t t' : Bool} {s : Nat} (hr : r = true → r' = true) (ht : t = true → t' = true) : ∀ {as : List AV} {vs : List Value}, CRL C r t s as vs → CRL C r' t' s as vs
 | [], _, hv => by simpa [CRL] using hv
 | a :: as, _, hv => by
  rw [Jd] at hv ⊢
  exact ⟨⟨hv.1.1, VRL.weak hr ht hv.1.2⟩, CRL.weak hr ht hv.2⟩
end cast
theorem rowAt.drop {w : World} {b o : Nat} {vs : List Value} (n : Nat) (h : rowAt w b o vs) : rowAt w b (o + n) (vs.drop n) := fun i v hv => by
 rw [List.getElem?_drop] at hv
 have := h _ _ hv
 rwa [← bY] at this
theorem rowAt.take {w : World} {b o : Nat} {vs : List Value} (n : Nat) (h : rowAt w b o vs) : rowAt w b o (vs.take n) := fun i v hv => by
 rw [vS] at hv
 split at hv
 ·exact h _ _ hv
 ·simp at hv
theorem Hv {w : World} {b : Nat} {c : Array Value} {el : TypeId} {fz : Nat × Nat} (h : w.heap[b]? = some (.cells c el fz)) (n : Nat) : rowAt w b 0 (c.toList.take n) := fun i v hv => by
 rw [vS] at hv
 split at hv
 ·simp only [World.cell?, h]
  simpa using hv
 ·simp at hv
theorem Rel.mem {C : Ctx} (hR : Rel C) {j s : Nat} {es : List AV} (hst : (C.H j).st = .row s es) (hne : es ≠ []) :
  ¬ C.F (C.μ j) ∧ ∃ c el fz, C.w.heap[C.μ j]? = some (.cells c el fz) ∧ RowOk C j s es c fz := by
 have := hR.blk j
 unfold BR at this
 cases es with
 | nil => exact absurd rfl hne
 | cons e es => rw [hst] at this; exact this
theorem Aat (out : Bool) {C D : Ctx} (hR : Rel C) (hw : D.w = C.w) (hI : ∀ tt b, (tt = true → (!out) = true) → IB C tt b → IB D tt b) (Q : Prop)
  (hrow : Q → ∀ j s es, (C.H j).st = .row s es → es ≠ [] → IB D (!out) (C.μ j)) :
  ∀ (n : Nat) {a : AV} {v : Value}, (Q ∨ a.norefs = true) → VR C true true a v → VR D false (!out) (fz out n C.H a) v ∧ (fz out n C.H a).cells.length = a.cells.length := by
 intro n
 induction n with
 | zero =>
  intro a v hq hv
  unfold fz
  split
  ·rename_i hc
   simp only [Bu, Qj] at hc
   obtain ⟨hn, rfl⟩ := hc
   exact ⟨VR.cast hw (fun tt b _ => hI tt b (fun _ => rfl)) hn hv, rfl⟩
  ·rename_i hneg
   clear hneg
   cases a with
   | agg cs =>
    simp only [VR] at hv ⊢
    obtain ⟨vs, rfl, hv⟩ := hv
    refine ⟨⟨vs, rfl, ?_⟩, by simp [AV.cells]⟩
    clear hI hrow hq
    generalize vs.toList = us at hv
    induction cs generalizing us with
    | nil => simpa [VRL] using hv
    | cons c cs ih =>
     simp only [VRL] at hv
     obtain ⟨v, vs', rfl, k1, _, k2⟩ := hv
     simp only [Bc, VRL]
     exact ⟨v, vs', rfl, k1, by simp [VR], ih _ k2⟩
   | _ => exact ⟨by simp [VR], by simp [AV.cells]⟩
 | succ n ih =>
  have hq2 : ∀ {a : AV} {as : List AV}, (Q ∨ Bq (a :: as) = true) → (Q ∨ a.norefs = true) ∧ (Q ∨ Bq as = true) := by
   intro a as h
   rcases h with h | h
   ·exact ⟨.inl h, .inl h⟩
   ·simp only [Bq, Bu] at h; exact ⟨.inr h.1, .inr h.2⟩
  have ihL : ∀ {as : List AV} {vs : List Value}, (Q ∨ Bq as = true) → VRL C true true as vs → VRL D false (!out) (as.map (fz out n C.H)) vs := by
   intro as
   induction as with
   | nil => intro vs _ h; simpa [VRL] using h
   | cons a as iha =>
    intro vs hq h
    simp only [VRL] at h
    obtain ⟨v, vs', rfl, k1, k2, k3⟩ := h
    simp only [Bc, VRL]
    exact ⟨v, vs', rfl, k1, (ih (hq2 hq).1 k2).1, iha (hq2 hq).2 k3⟩
  have ihT : ∀ {as : List AV} {vs : List Value}, (Q ∨ Bq as = true) → VRT C true true as vs → VRT D false (!out) (as.map (fz out n C.H)) vs := by
   intro as
   induction as with
   | nil => intro vs _ h; simpa [VRT] using h
   | cons a as iha =>
    intro vs hq h
    simp only [VRT] at h
    obtain ⟨v, vs', rfl, k2, k3⟩ := h
    simp only [Bc, VRT]
    exact ⟨v, vs', rfl, (ih (hq2 hq).1 k2).1, iha (hq2 hq).2 k3⟩
  have ihC : ∀ {s : Nat} {as : List AV} {vs : List Value}, (Q ∨ Bq as = true) → CRL C true true s as vs → CRL D false (!out) s (as.map (fz out n C.H)) vs := by
   intro s as
   induction as with
   | nil => intro vs _ h; simpa [CRL] using h
   | cons a as iha =>
    intro vs hq h
    simp only [CRL] at h
    obtain ⟨⟨k0, k5, v, k1, k2, k3⟩, k4⟩ := h
    simp only [Bc, CRL]
    exact ⟨⟨(ih (hq2 hq).1 k1).2.trans k0, k5, v, (ih (hq2 hq).1 k1).1, k2, k3⟩, iha (hq2 hq).2 k4⟩
  intro a v hq hv
  cases a with
  | ptr j g ver s i off =>
   have hq : Q := hq.resolve_right (by simp [AV.norefs])
   simp only [fz]
   split
   ·rename_i es hes
    split
    ·rename_i e he
     refine ⟨?_, by simp [AV.cells]⟩
     simp only [VR] at hv ⊢
     obtain ⟨_, _, a, rfl, hk⟩ := hv
     have hes' := row_some.1 hes
     have hi : i < es.length := (Dg.1 he).1
     have hne : es ≠ [] := by intro h; subst h; simp at hi
     obtain ⟨_, c, el, fzz, hobj, hok⟩ := hR.mem hes'.2.1 hne
     rw [hk es hes (by omega)]
     have hel := CRL.get i hok.cells he
     refine ⟨fun h => h, C.μ j, i * s + off, _, rfl, hrow hq j s es hes'.2.1 hne, ?_, ihL (.inl hq) (VRL.drop off hel.2)⟩
     rw [hw]
     have hr := ((Hv (w := C.w) hobj (es.length * s)).drop (i * s)).take s |>.drop off
     simpa using hr
    ·exact ⟨by simp [VR], by simp [AV.cells]⟩
   ·exact ⟨by simp [VR], by simp [AV.cells]⟩
  | slc j g ver s off len cap =>
   have hq : Q := hq.resolve_right (by simp [AV.norefs])
   simp only [fz]
   split
   ·rename_i es hes
    split
    ·rename_i hle
     refine ⟨?_, by simp [AV.cells]⟩
     simp only [VR] at hv ⊢
     obtain ⟨_, _, a, cap', rfl, hcap, hk⟩ := hv
     have hes' := row_some.1 hes
     obtain ⟨k1, k2, k3⟩ := hk es hes
     have hlen : (List.map (fz out n C.H) (List.take len (List.drop off es))).length = len := by simp; omega
     refine ⟨fun h => h, a, cap', by rw [hlen], by rw [hlen]; exact hcap, fun h => by simp at h, fun hne' => ?_⟩
     have hl : 0 < len := by
      rcases vT len with h | h
      ·subst h; simp at hne'
      ·exact h
     have hne : es ≠ [] := by intro h; subst h; simp at hes'; omega
     obtain ⟨_, c, el, fzz, hobj, hok⟩ := hR.mem hes'.2.1 hne
     obtain ⟨k4, _⟩ := k3 (by omega) (by omega)
     refine ⟨C.μ j, off * s, _, k4, hrow hq j s es hes'.2.1 hne, ?_, ihC (.inl hq) ((hok.cells.drop off).take len)⟩
     rw [hw]
     have hr := ((Hv (w := C.w) hobj (es.length * s)).drop (off * s)).take (len * s)
     simpa using hr
    ·exact ⟨by simp [VR], by simp [AV.cells]⟩
   ·exact ⟨by simp [VR], by simp [AV.cells]⟩
  | iptr tt cs =>
   simp only [fz]
   split
   ·exact ⟨by simp [VR], by simp [AV.cells]⟩
   ·rename_i hc
    refine ⟨?_, by simp [AV.cells]⟩
    have ht : tt = true → (!out) = true := fun h => by subst h; simpa using hc
    simp only [VR] at hv ⊢
    obtain ⟨_, b, o, vs, k2, k3, k4, k5⟩ := hv
    exact ⟨ht, b, o, vs, k2, hI _ _ ht k3, by rw [hw]; exact k4, VRL.castI hw (fun t' b h => hI t' b (fun h' => ht (h h'))) k5⟩
  | islc tt full s es =>
   simp only [fz]
   split
   ·exact ⟨by simp [VR], by simp [AV.cells]⟩
   ·rename_i hc
    refine ⟨?_, by simp [AV.cells]⟩
    have ht : tt = true → (!out) = true := fun h => by subst h; simpa using hc
    simp only [VR] at hv ⊢
    obtain ⟨_, a, cap', k2, k3, k4, k5⟩ := hv
    refine ⟨ht, a, cap', k2, k3, k4, fun hne => ?_⟩
    obtain ⟨b, o, vs, m1, m2, m3, m4⟩ := k5 hne
    exact ⟨b, o, vs, m1, hI _ _ ht m2, by rw [hw]; exact m3, CRL.castI hw (fun t' b h => hI t' b (fun h' => ht (h h'))) m4⟩
  | agg cs =>
   simp only [fz, VR] at hv ⊢
   obtain ⟨vs, h1, h2⟩ := hv
   exact ⟨⟨vs, h1, ihL (by simpa [AV.norefs] using hq) h2⟩, by simp [AV.cells]⟩
  | tup cs =>
   simp only [fz, VR] at hv ⊢
   obtain ⟨vs, h1, h2⟩ := hv
   exact ⟨⟨vs, h1, ihT (by simpa [AV.norefs] using hq) h2⟩, by simp [AV.cells]⟩
  | fn f cs =>
   simp only [fz, VR] at hv ⊢
   obtain ⟨vs, h1, h2⟩ := hv
   exact ⟨⟨vs, h1, ihT (by simpa [AV.norefs] using hq) h2⟩, by simp [AV.cells]⟩
  | mp j g => exact ⟨by simp [fz, VR], by simp [fz, AV.cells]⟩
  | junk => exact ⟨by simp [fz, VR], by simp [fz]⟩
  | _ => exact ⟨by simpa [fz, VR] using hv, by simp [fz]⟩
theorem Adw (out : Bool) {C D : Ctx} (hR : Rel C) (hw : D.w = C.w) (h1 : ∀ b, Own D b → out = true ∧ C.F b) (h2 : ∀ b, D.F b → C.F b ∨ (out = false ∧ Own C b))
  (n : Nat) {a : AV} {v : Value} (hv : VR C true true a v) : VR D false (!out) (fz out n C.H a) v := by
 have hI : ∀ tt b, (tt = true → (!out) = true) → IB C tt b → IB D tt b := by
  intro tt b ht ⟨a1, a2, a3⟩
  refine ⟨by rw [hw]; exact a1, fun ho => ?_, fun htt hF => ?_⟩
  ·obtain ⟨e1, e2⟩ := h1 b ho
   subst e1
   cases tt with
   | false => exact a3 rfl e2
   | true => simp at ht
  ·rcases h2 b hF with e | ⟨_, e⟩
   ·exact a3 htt e
   ·exact a2 e
 have hrow : ∀ j s es, (C.H j).st = .row s es → es ≠ [] → IB D (!out) (C.μ j) := by
  intro j s es hst hne
  have hl := hR.lt (Pd hst hne)
  refine ⟨by rw [hw]; exact hl.1, fun ho => hl.2 (h1 _ ho).2, fun htt hF => ?_⟩
  rcases h2 _ hF with e | ⟨e, _⟩
  ·exact hl.2 e
  ·subst e; simp at htt
 exact (Aat out hR hw hI True (fun _ => hrow) n (.inl trivial) hv).1
theorem vO (out : Bool) {C D : Ctx} (hR : Rel C) (hw : D.w = C.w) (h1 : ∀ b, Own D b → out = true ∧ C.F b) (h2 : ∀ b, D.F b → C.F b ∨ (out = false ∧ Own C b))
  (n : Nat) : ∀ {as : List AV} {vs : List Value}, VRT C true true as vs → VRT D false (!out) (as.map (fz out n C.H)) vs
 | [], _, h => by simpa [VRT] using h
 | a :: as, _, h => by
  simp only [VRT] at h
  obtain ⟨v, vs', rfl, k2, k3⟩ := h
  simp only [Bc, VRT]
  exact ⟨v, vs', rfl, Adw out hR hw h1 h2 n k2, vO out hR hw h1 h2 n k3⟩
theorem Agp (out : Bool) {C D : Ctx} (hR : Rel C) (hw : D.w = C.w) (hI : ∀ tt b, (tt = true → (!out) = true) → IB C tt b → IB D tt b) (K : List Nat)
  (hrow : ∀ j ∈ K, ∀ s es, (C.H j).st = .row s es → es ≠ [] → IB D (!out) (C.μ j)) :
  ∀ (n : Nat) {a : AV} {v : Value}, (∀ j ∈ vis n C.H a, j ∈ K) → VR C true true a v → VR D false (!out) (fz out n C.H a) v ∧ (fz out n C.H a).cells.length = a.cells.length := by
 intro n
 induction n with
 | zero =>
  intro a v hq hv
  unfold fz
  split
  ·rename_i hc
   simp only [Bu, Qj] at hc
   obtain ⟨hn, rfl⟩ := hc
   exact ⟨VR.cast hw (fun tt b _ => hI tt b (fun _ => rfl)) hn hv, rfl⟩
  ·rename_i hneg
   clear hneg
   cases a with
   | agg cs =>
    simp only [VR] at hv ⊢
    obtain ⟨vs, rfl, hv⟩ := hv
    refine ⟨⟨vs, rfl, ?_⟩, by simp [AV.cells]⟩
    clear hI hrow hq
    generalize vs.toList = us at hv
    induction cs generalizing us with
    | nil => simpa [VRL] using hv
    | cons c cs ih =>
     simp only [VRL] at hv
     obtain ⟨v, vs', rfl, k1, _, k2⟩ := hv
     simp only [Bc, VRL]
     exact ⟨v, vs', rfl, k1, by simp [VR], ih _ k2⟩
   | _ => exact ⟨by simp [VR], by simp [AV.cells]⟩
 | succ n ih =>
  have hq2 : ∀ {a : AV} {as : List AV}, (∀ j ∈ (a :: as).flatMap (vis n C.H), j ∈ K) → (∀ j ∈ vis n C.H a, j ∈ K) ∧ (∀ j ∈ as.flatMap (vis n C.H), j ∈ K) := by
   intro a as h
   exact ⟨fun j hj => h j (by simp only [Fq, Bg]; exact .inl hj), fun j hj => h j (by simp only [Fq, Bg]; exact .inr hj)⟩
  have ihL : ∀ {as : List AV} {vs : List Value}, (∀ j ∈ as.flatMap (vis n C.H), j ∈ K) → VRL C true true as vs → VRL D false (!out) (as.map (fz out n C.H)) vs := by
   intro as
   induction as with
   | nil => intro vs _ h; simpa [VRL] using h
   | cons a as iha =>
    intro vs hq h
    simp only [VRL] at h
    obtain ⟨v, vs', rfl, k1, k2, k3⟩ := h
    simp only [Bc, VRL]
    exact ⟨v, vs', rfl, k1, (ih (hq2 hq).1 k2).1, iha (hq2 hq).2 k3⟩
  have ihT : ∀ {as : List AV} {vs : List Value}, (∀ j ∈ as.flatMap (vis n C.H), j ∈ K) → VRT C true true as vs → VRT D false (!out) (as.map (fz out n C.H)) vs := by
   intro as
   induction as with
   | nil => intro vs _ h; simpa [VRT] using h
   | cons a as iha =>
    intro vs hq h
    simp only [VRT] at h
    obtain ⟨v, vs', rfl, k2, k3⟩ := h
    simp only [Bc, VRT]
    exact ⟨v, vs', rfl, (ih (hq2 hq).1 k2).1, iha (hq2 hq).2 k3⟩
  have ihC : ∀ {s : Nat} {as : List AV} {vs : List Value}, (∀ j ∈ as.flatMap (vis n C.H), j ∈ K) → CRL C true true s as vs → CRL D false (!out) s (as.map (fz out n C.H)) vs := by
   intro s as
   induction as with
   | nil => intro vs _ h; simpa [CRL] using h
   | cons a as iha =>
    intro vs hq h
    simp only [CRL] at h
    obtain ⟨⟨k0, k5, v, k1, k2, k3⟩, k4⟩ := h
    simp only [Bc, CRL]
    exact ⟨⟨(ih (hq2 hq).1 k1).2.trans k0, k5, v, (ih (hq2 hq).1 k1).1, k2, k3⟩, iha (hq2 hq).2 k4⟩
  intro a v hq hv
  cases a with
  | ptr j g ver s i off =>
   simp only [fz]
   split
   ·rename_i es hes
    split
    ·rename_i e he
     refine ⟨?_, by simp [AV.cells]⟩
     simp only [VR] at hv ⊢
     obtain ⟨_, _, a, rfl, hk⟩ := hv
     have hes' := row_some.1 hes
     have hi : i < es.length := (Dg.1 he).1
     have hne : es ≠ [] := by intro h; subst h; simp at hi
     obtain ⟨_, c, el, fzz, hobj, hok⟩ := hR.mem hes'.2.1 hne
     rw [hk es hes (by omega)]
     have hel := CRL.get i hok.cells he
     refine ⟨fun h => h, C.μ j, i * s + off, _, rfl, hrow j (hq j (by simp [vis, hes, he])) s es hes'.2.1 hne, ?_, ihL (fun i hi => hq i (by simp only [vis, hes, he]; exact Bi _ hi)) (VRL.drop off hel.2)⟩
     rw [hw]
     have hr := ((Hv (w := C.w) hobj (es.length * s)).drop (i * s)).take s |>.drop off
     simpa using hr
    ·exact ⟨by simp [VR], by simp [AV.cells]⟩
   ·exact ⟨by simp [VR], by simp [AV.cells]⟩
  | slc j g ver s off len cap =>
   simp only [fz]
   split
   ·rename_i es hes
    split
    ·rename_i hle
     refine ⟨?_, by simp [AV.cells]⟩
     simp only [VR] at hv ⊢
     obtain ⟨_, _, a, cap', rfl, hcap, hk⟩ := hv
     have hes' := row_some.1 hes
     obtain ⟨k1, k2, k3⟩ := hk es hes
     have hlen : (List.map (fz out n C.H) (List.take len (List.drop off es))).length = len := by simp; omega
     refine ⟨fun h => h, a, cap', by rw [hlen], by rw [hlen]; exact hcap, fun h => by simp at h, fun hne' => ?_⟩
     have hl : 0 < len := by
      rcases vT len with h | h
      ·subst h; simp at hne'
      ·exact h
     have hne : es ≠ [] := by intro h; subst h; simp at hes'; omega
     obtain ⟨_, c, el, fzz, hobj, hok⟩ := hR.mem hes'.2.1 hne
     obtain ⟨k4, _⟩ := k3 (by omega) (by omega)
     refine ⟨C.μ j, off * s, _, k4, hrow j (hq j (by simp [vis, hes])) s es hes'.2.1 hne, ?_, ihC (fun i hi => hq i (by simp only [vis, hes]; exact Bi _ hi)) ((hok.cells.drop off).take len)⟩
     rw [hw]
     have hr := ((Hv (w := C.w) hobj (es.length * s)).drop (off * s)).take (len * s)
     simpa using hr
    ·exact ⟨by simp [VR], by simp [AV.cells]⟩
   ·exact ⟨by simp [VR], by simp [AV.cells]⟩
  | iptr tt cs =>
   simp only [fz]
   split
   ·exact ⟨by simp [VR], by simp [AV.cells]⟩
   ·rename_i hc
    refine ⟨?_, by simp [AV.cells]⟩
    have ht : tt = true → (!out) = true := fun h => by subst h; simpa using hc
    simp only [VR] at hv ⊢
    obtain ⟨_, b, o, vs, k2, k3, k4, k5⟩ := hv
    exact ⟨ht, b, o, vs, k2, hI _ _ ht k3, by rw [hw]; exact k4, VRL.castI hw (fun t' b h => hI t' b (fun h' => ht (h h'))) k5⟩
  | islc tt full s es =>
   simp only [fz]
   split
   ·exact ⟨by simp [VR], by simp [AV.cells]⟩
   ·rename_i hc
    refine ⟨?_, by simp [AV.cells]⟩
    have ht : tt = true → (!out) = true := fun h => by subst h; simpa using hc
    simp only [VR] at hv ⊢
    obtain ⟨_, a, cap', k2, k3, k4, k5⟩ := hv
    refine ⟨ht, a, cap', k2, k3, k4, fun hne => ?_⟩
    obtain ⟨b, o, vs, m1, m2, m3, m4⟩ := k5 hne
    exact ⟨b, o, vs, m1, hI _ _ ht m2, by rw [hw]; exact m3, CRL.castI hw (fun t' b h => hI t' b (fun h' => ht (h h'))) m4⟩
  | agg cs =>
   simp only [fz, VR] at hv ⊢
   obtain ⟨vs, h1, h2⟩ := hv
   exact ⟨⟨vs, h1, ihL (fun i hi => hq i (by simpa [vis] using hi)) h2⟩, by simp [AV.cells]⟩
  | tup cs =>
   simp only [fz, VR] at hv ⊢
   obtain ⟨vs, h1, h2⟩ := hv
   exact ⟨⟨vs, h1, ihT (fun i hi => hq i (by simpa [vis] using hi)) h2⟩, by simp [AV.cells]⟩
  | fn f cs =>
   simp only [fz, VR] at hv ⊢
   obtain ⟨vs, h1, h2⟩ := hv
   exact ⟨⟨vs, h1, ihT (fun i hi => hq i (by simpa [vis] using hi)) h2⟩, by simp [AV.cells]⟩
  | mp j g => exact ⟨by simp [fz, VR], by simp [fz, AV.cells]⟩
  | junk => exact ⟨by simp [fz, VR], by simp [fz]⟩
  | _ => exact ⟨by simpa [fz, VR] using hv, by simp [fz]⟩
theorem fA (out : Bool) {C D : Ctx} (hR : Rel C) (hw : D.w = C.w) (hI : ∀ tt b, (tt = true → (!out) = true) → IB C tt b → IB D tt b) (K : List Nat)
  (hrow : ∀ j ∈ K, ∀ s es, (C.H j).st = .row s es → es ≠ [] → IB D (!out) (C.μ j)) (n : Nat) {s : Nat} : ∀ {as : List AV} {vs : List Value}, (∀ j ∈ as.flatMap (vis n C.H), j ∈ K) → CRL C true true s as vs → CRL D false (!out) s (as.map (fz out n C.H)) vs
 | [], vs, _, h => by simpa [CRL] using h
 | a :: as, vs, hq, h => by
  simp only [CRL] at h
  obtain ⟨⟨k0, k5, v, k1, k2, k3⟩, k4⟩ := h
  simp only [Bc, CRL]
  have ha : ∀ j ∈ vis n C.H a, j ∈ K := fun j hj => hq j (by simp only [Fq, Bg]; exact .inl hj)
  have hz := Agp out hR hw hI K hrow n ha k1
  exact ⟨⟨hz.2.trans k0, k5, v, hz.1, k2, k3⟩, fA out hR hw hI K hrow n (fun j hj => hq j (by simp only [Fq, Bg]; exact .inr hj)) k4⟩
end Go.AI
namespace Go.AI
def Yq : Value → Option AV
 | .int k n => some (.int k n)
 | .bool b => some (.bool b)
 | .string s => some (.str s)
 | .slice none 0 0 => some (.islc false true 0 [])
 | .pointer none => some .nilp
 | .map none => some .junk
 | .nilFunc => some .nilf
 | _ => none
def cvtL : List Value → Option (List AV)
 | [] => some []
 | v :: r => match Yq v, cvtL r with
  | some a, some l => some (a :: l)
  | _, _ => none
def cvt : Value → Option AV
 | .agg cs => (cvtL cs.toList).map .agg
 | .tuple cs => if cs.size = 0 then some .undef else none
 | v => Yq v
def sarg : Operand → Option SArg
 | .tmp t => some (.t t)
 | .const v => (cvt v).map .c
 | .func f => some (.c (.fn f []))
 | .global _ => none
def Wc : List Operand → Option (List SArg)
 | [] => some []
 | x :: r => match sarg x, Wc r with
  | some a, some l => some (a :: l)
  | _, _ => none
def sopt : Option Operand → Option (Option SArg)
 | none => some none
 | some x => (sarg x).map some
def Gb (P : Program) (t : TypeId) : Bool :=
 match P.underlying t with
 | some (.struct _) | some (.array _ _) => true
 | _ => false
def sizeOf? (P : Program) (t : TypeId) : Option Nat :=
 match P.underlying t with
 | some _ => (P.info? t).map (·.size)
 | none => none
def zeroOf? (P : Program) (t : TypeId) : Option AV := ((P.info? t).bind (·.zero)).bind cvt
structure Hint where
 site : Nat := 0
 mode : Mode := .pure
 nilrow : Bool := false
 deriving Inhabited
def Mr : Operand → Bool
 | .const (.slice none 0 0) => true
 | _ => false
def Vj (P : Program) (t : TypeId) (f : Nat) : Option (Nat × Nat × Bool) :=
 match P.underlying t with
 | some (.struct fs) => match fs[f]? with
  | some x => match sizeOf? P x.type with
   | some s => if s = 0 then none else some (x.offset, s, Gb P x.type)
   | none => none
  | none => none
 | _ => none
def elemOf? (P : Program) (t : TypeId) : Option TypeId :=
 match P.underlying t with
 | some (.slice e) => some e
 | _ => none
def Fv (P : Program) (e : TypeId) : Option (Nat × AV) :=
 match P.info? e with
 | some i => match i.zero with
  | some z => match cvt z with
   | some a => if 0 < i.size ∧ 0 < i.bytes ∧ i.bytes ≤ 1024 ∧ a.cells.length = i.size ∧ z.cells.size = i.size ∧ Dq a then some (i.size, a) else none
   | none => none
  | none => none
 | none => none
def rY (P : Program) (t : TypeId) : Bool := match P.underlying t with | some (.int _) => true | _ => false
def isU8 (P : Program) (t : TypeId) : Bool := match P.underlying t with | some (.int .u8) => true | _ => false
def cR (P : Program) (t : TypeId) : Bool := match P.underlying t with | some (.int .i64) => true | _ => false
def fQ (P : Program) (t : TypeId) : Option (List (Nat × Nat)) :=
 match P.underlying t with
 | some (.struct fields) => fields.toList.mapM (fun f => (P.info? f.type).map fun i => (f.offset, i.size))
 | _ => none
def aN (places : List (Nat × Nat)) : List (Nat × Operand) → Option (List (Nat × Nat × SArg))
 | [] => some []
 | (i, x) :: r => match places[i]?, sarg x, aN places r with
  | some (o, k), some a, some l => some ((o, k, a) :: l)
  | _, _, _ => none
def Rz : List (Nat × Operand) → Option (List (Nat × SArg))
 | [] => some []
 | (i, x) :: r => match sarg x, Rz r with
  | some a, some l => some ((i, a) :: l)
  | _, _ => none
def isEq : BinOp → Option Bool
 | .eql => some false
 | .neq => some true
 | _ => none
def Lq (P : Program) (h : Hint) (b : Builtin) (argTypes : List TypeId) (args : List Operand) : Option SOp :=
 match b, argTypes, args with
 | .len, [t], [x] => match P.underlying t with
  | some (.slice _) => (sarg x).map .len
  | some (.array n _) => some (.mv (.c (.int .i64 n)))
  | some (.map _ _) => (sarg x).map .maplen
  | _ => none
 | .cap, [t], [x] => match P.underlying t with
  | some (.slice _) => (sarg x).map .cap
  | _ => none
 | .append, [t, u], [x, y] => match elemOf? P t with
  | some e => match Fv P e with
   | some (s, z) => match sarg x, sarg y with
    | some x, some y =>
     match P.underlying u with
     | some (.int _) => some (.appZ h.site s z x y)
     | some (.slice _) => some (.app h.site s x y)
     | some .string => some (.app h.site s x y)
     | _ => none
    | _, _ => none
   | none => none
  | none => none
 | .copy, [t, _], [x, y] => match elemOf? P t with
  | some e => match Fv P e with
   | some (s, _) => match sarg x, sarg y with
    | some x, some y => some (.copy s x y)
    | _, _ => none
   | none => none
  | none => none
 | .delete, [t, _], [x, y] => match P.underlying t with
  | some (.map k _) => if cR P k then (match sarg x, sarg y with
   | some x, some y => some (.mapdel x y)
   | _, _ => none) else none
  | _ => none
 | .min, [_, _], [x, y] => match sarg x, sarg y with
  | some x, some y => some (.mnmx false x y)
  | _, _ => none
 | .max, [_, _], [x, y] => match sarg x, sarg y with
  | some x, some y => some (.mnmx true x y)
  | _, _ => none
 | _, _, _ => none
def Pq (P : Program) (h : Hint) (o : Oper) : Option SOp :=
 match o.op with
 | .move x => (sarg x).map .mv
 | .assign x =>
  if h.nilrow && Mr x then
   match elemOf? P o.type with
   | some e => match Fv P e with
    | some (s, _) => some (.nilrow h.site s)
    | none => none
   | none => none
  else (sarg x).map .mv
 | .pick c a b => match sarg c, sarg a, sarg b with
  | some c, some a, some b => some (.pick c a b)
  | _, _, _ => none
 | .alloc e => (zeroOf? P e).map fun z => if h.nilrow then .boxF h.site (.c z) else .box h.site (.c z)
 | .box _ x => (sarg x).map (if h.nilrow then .boxF h.site else .box h.site)
 | .build t parts => match zeroOf? P t with
  | some (.agg z) => match fQ P t with
   | some places => (aN places parts.toList).map (.build z)
   | none => match P.underlying t with
    | some (.array _ e) => if parts.size = 0 ∧ (P.info? e).isSome then some (.build z []) else none
    | _ => none
  | _ => none
 | .buildSlice t n parts => match elemOf? P t with
  | some e => match Fv P e with
   | some (s, z) => if n * s ≤ 16777216 ∧ 0 < n then (Rz parts.toList).map (if h.nilrow then .buildSN h.site s n z else .buildS h.site s n z) else if n = 0 ∧ parts.size = 0 then some (.empty s) else none
   | none => none
  | none => none
 | .load t x => match sizeOf? P t, sarg x with
  | some k, some x => if Gb P t ∨ k = 1 then some (.load k (Gb P t) x) else none
  | _, _ => none
 | .store t x v => match sizeOf? P t, sarg x, sarg v with
  | some k, some x, some v => some (.store k x v)
  | _, _, _ => none
 | .nilCheck x => (sarg x).map .nilc
 | .binOp op t x y _ =>
  match isEq op with
  | some neg =>
   match P.underlying t with
   | some (.int _) | some .string => match sarg x, sarg y with
    | some x, some y => some (.bin op x y)
    | _, _ => none
   | some (.slice _) => if Mr y then (sarg x).map (.eqnil neg) else none
   | _ => none
  | none => match sarg x, sarg y with
   | some x, some y => some (.bin op x y)
   | _, _ => none
 | .unOp op _ x => (sarg x).map (.un op)
 | .convert s d x => match P.underlying s, P.underlying d, sarg x with
  | some (.int _), some (.int k), some x => some (.cvi k x)
  | some (.slice e), some .string, some x => if isU8 P e then some (.b2s x) else none
  | _, _, _ => none
 | .makeFunc (.func f) first caps => if first.size = 0 then (Wc caps.toList).map (.mkfn f) else none
 | .makeSlice t l c => match elemOf? P t with
  | some e => match Fv P e with
   | some (s, z) => match sarg l, sarg c with
    | some l, some c => some (if h.nilrow then .mksN h.site s z l c else .mks h.site s z l c)
    | _, _ => none
   | none => none
  | none => none
 | .slice t x lo hi mx => match sarg x, sopt lo, sopt hi, sopt mx with
  | some x, some lo, some hi, some mx => match P.underlying t with
   | some (.slice e) => match sizeOf? P e with
    | some s => some (.slice s x lo hi mx)
    | none => none
   | some (.array n e) => if lo.isNone ∧ hi.isNone ∧ mx.isNone ∧ sizeOf? P e = some 1 then some (.slcArr n x) else none
   | _ => none
  | _, _, _, _ => none
 | .fieldAddr t x f => match Vj P t f, sarg x with
  | some (o, _, _), some x => some (.faddr o x)
  | _, _ => none
 | .field t x f => match Vj P t f, sarg x with
  | some (o, k, b), some x => if b ∨ k = 1 then some (.field o k b x) else none
  | _, _ => none
 | .indexAddr t x i => match sarg x, sarg i with
  | some x, some i => match P.underlying t with
   | some (.slice e) => match sizeOf? P e with
    | some s => some (.iaddr s x i)
    | none => none
   | some (.array n e) => match sizeOf? P e with
    | some s => some (.iaddrA n s x i)
    | none => none
   | _ => none
  | _, _ => none
 | .index t x i => match sarg x, sarg i with
  | some x, some i => match P.underlying t with
   | some (.array n e) => match sizeOf? P e with
    | some s => if Gb P e ∨ s = 1 then some (.indexA n s (Gb P e) x i) else none
    | none => none
   | _ => none
  | _, _ => none
 | .extract x i => (sarg x).map (.extract · i)
 | .makeMap _ none => some (.mkmap h.site)
 | .lookup t x i ok => match P.underlying t with
  | some (.map k e) => match Fv P e with
   | some (1, z) => if cR P k then (match sarg x, sarg i with
    | some x, some i => some (.lookup z x i ok)
    | _, _ => none) else none
   | _ => none
  | _ => none
 | .mapUpdate t x i y => match P.underlying t with
  | some (.map k _) => if cR P k then (match sarg x, sarg i, sarg y with
   | some x, some i, some y => some (.mapset x i y)
   | _, _, _ => none) else none
  | _ => none
 | .call c => match c.callee with
  | .builtin b => Lq P h b c.argTypes.toList c.args.toList
  | .value (.func f) => match P.funcs[f]? with
   | some fn => if fn.body.isSome ∧ fn.name ≠ "runtime.NumGoroutine" then (Wc c.args.toList).map (.call h.mode f) else none
   | none => none
  | .value (.tmp t) => (Wc c.args.toList).map (.callv h.mode (.t t))
  | _ => none
 | _ => none
def cls : SOp → Nat
 | .box .. | .boxF .. | .nilrow .. | .buildS .. | .buildSN .. | .mksN .. | .store .. | .s2b .. | .ss .. | .mks .. | .app .. | .appZ .. | .copy .. | .clear .. | .mkmap .. | .mapset .. | .mapdel .. | .bad => 2
 | .call .pure .. | .call .ext .. | .callv .pure .. | .callv .ext .. => 1
 | .call .. | .callv .. => 2
 | .load .. | .slice .. | .iaddr .. | .b2s .. | .lookup .. | .maplen .. => 1
 | _ => 0
def Yk (a b : SOp) : Bool := cls a ≠ 0 && cls b ≠ 0 && (cls a == 2 || cls b == 2)
def Za (ops : Array Oper) : Option (Nat × Bool) → Option (Option (Nat × Bool))
 | none => some none
 | some (j, b) => match (ops[j]?).bind (·.dst) with
  | some d => some (some (d, b))
  | none => none
def Qu (P : Program) (n : Nat) (hs : Nat → Hint) (ops : Array Oper) : Nat → List Oper → Option (List SOper)
 | _, [] => some []
 | i, o :: r =>
  match (Pq P (hs i) o).or (some .bad), Za ops o.guard, Qu P n hs ops (i + 1) r with
  | some op, some g, some l => if (o.dst.all (· < n)) then some (⟨o.dst, op, g, []⟩ :: l) else none
  | _, _, _ => none
def Rg (o : Oper) : List Nat := o.after.toList.filterMap fun e => if Region.binds .any e then some e.on else none
def uniq : List Nat → List Nat
 | [] => []
 | a :: r => cond ((uniq r).contains a) (uniq r) (a :: uniq r)
theorem mem_uniq {x : Nat} : ∀ {l : List Nat}, x ∈ uniq l ↔ x ∈ l
 | [] => Iff.rfl
 | a :: r => by
  have ih := mem_uniq (x := x) (l := r)
  unfold uniq
  cases h : (uniq r).contains a with
  | true =>
   simp only [cond_true, Au, ih]
   have h2 : a ∈ r := mem_uniq.1 (by simpa using h)
   exact ⟨.inr, fun h3 => h3.elim (fun e => e ▸ h2) id⟩
  | false => simp only [cond_false, Au, ih]
def befs : List Oper → List (List Nat) → List (List Nat)
 | [], acc => acc
 | o :: r, acc => befs r (acc ++ [uniq (((Rg o).filter (· < acc.length)).flatMap fun k => k :: acc.getD k [])])
def Xv : List Oper → Nat → Bool
 | [], _ => true
 | o :: r, i => (Rg o).all (· < i) && Xv r (i + 1)
def unOf (bef : List (List Nat)) (l : List SOper) (i : Nat) (op : SOp) : List Nat :=
 (List.range i).filter fun k => !(bef.getD i []).contains k && match l[k]? with | some x => Yk x.op op | none => true
def Mw (bef : List (List Nat)) (all : List SOper) : Nat → List SOper → List SOper
 | _, [] => []
 | i, o :: r => { o with un := unOf bef all i o.op } :: Mw bef all (i + 1) r
def optA : Option SArg → List SArg
 | none => []
 | some x => [x]
def Ko : SOp → List SArg
 | .mv x | .box _ x | .boxF _ x | .load _ _ x | .nilc x | .eqnil _ x | .un _ x | .cvi _ x | .s2b _ x | .b2s x | .ss x | .faddr _ x | .field _ _ _ x | .slcArr _ x | .extract x _ | .len x | .lenS x | .cap x | .maplen x => [x]
 | .pick a b c | .mapset a b c => [a, b, c]
 | .nilrow .. | .empty _ | .mkmap _ | .bad => []
 | .build _ ps => ps.map fun x => x.2.2
 | .buildS _ _ _ _ ps | .buildSN _ _ _ _ ps => ps.map fun x => x.2
 | .store _ a b | .bin _ a b | .eqagg _ _ a b | .eqb _ a b | .mks _ _ _ a b | .mksN _ _ _ a b | .iaddr _ a b | .iaddrA _ _ a b | .indexS a b | .indexA _ _ _ a b | .mnmx _ a b | .app _ _ a b | .appZ _ _ _ a b | .copy _ a b
 | .lookup _ a b _ | .mapdel a b => [a, b]
 | .clear _ _ x => [x]
 | .mkfn _ cs => cs
 | .slice _ x lo hi mx => x :: (optA lo ++ optA hi ++ optA mx)
 | .slcStr x lo hi => x :: (optA lo ++ optA hi)
 | .call _ _ args => args
 | .callv _ x args => x :: args
def Aie : SArg → Option Nat
 | .t n => some n
 | .c _ => none
def eE (o : SOper) : List Nat := (Ko o.op).filterMap Aie ++ (match o.guard with | some (t, _) => [t] | none => [])
def Kw (x y : SOper) : Bool :=
 (match x.dst with | some d => !(eE y).contains d && y.dst != some d | none => true) && (match y.dst with | some d => !(eE x).contains d | none => true)
def wW (bef : List (List Nat)) (l : List SOper) : Bool :=
 (List.range l.length).all fun i => (List.range i).all fun k => (bef.getD i []).contains k || match l[k]?, l[i]? with | some x, some y => Kw x y | _, _ => false
def Abo (l : List SOper) : Bool := l.all fun o => match o.op with
 | .clear .. => false
 | _ => true
def Ui (P : Program) (n : Nat) (hs : Nat → Hint) (ops : Array Oper) (draw : Bool) : Option (List SOper) :=
 match Qu P n hs ops 0 ops.toList with
 | some l =>
  if draw then
   let bef := befs ops.toList []
   let l' := Mw bef l 0 l
   if wW bef l' && Abo l' && Xv ops.toList 0 then some l' else none
  else some l
 | none => none
abbrev Aam := Nat → Nat → Hint
def En (P : Program) (n : Nat) (hs : Aam) : Code → Option SCode
 | .skip => some .skip
 | .region id ops draw => (Ui P n (hs id) ops draw).map .region
 | .seq a b => match En P n hs a, En P n hs b with
  | some a, some b => some (.seq a b)
  | _, _ => none
 | .cond c a b => match sarg c, En P n hs a, En P n hs b with
  | some c, some a, some b => some (.cond c a b)
  | _, _, _ => none
 | .block id b => (En P n hs b).map (.block id)
 | .loop b => (En P n hs b).map .loop
 | .exit id => some (.exit id)
 | .ret => some .ret
 | .label _ => some .skip
 | .scope b => En P n hs b
 | _ => none
def Nk (P : Program) : List ResultVar → Option (List SRes)
 | [] => some []
 | .tmp t :: r => (Nk P r).map (.tmp t :: ·)
 | .cell a t :: r => match sizeOf? P t, Nk P r with
  | some k, some l => if Gb P t ∨ k = 1 then some (.cell a k (Gb P t) :: l) else none
  | _, _ => none
def Us (P : Program) (hs : Aam) (f : Func) : Option SFun :=
 match f.body with
 | some c => match En P f.ntmps hs c, Nk P f.results.toList with
  | some code, some rs => if f.params.size + f.nfree ≤ f.ntmps then some ⟨f.params.size + f.nfree, rs, code⟩ else none
  | _, _ => none
 | none => none
end Go.AI
namespace Go.AI
structure TR (C : Ctx) (n : Nat) (T : Tmps) (tmps : Array Value) : Prop where
 size : tmps.size = n
 rel : ∀ t, VR C true true (T t) (tmps.getD t Go.undef)
theorem TR.mono {C C' : Ctx} {n : Nat} {T : Tmps} {tmps : Array Value} (h : Evo C C') (hT : TR C n T tmps) : TR C' n T tmps := ⟨hT.size, fun t => VR.mono h (hT.rel t)⟩
theorem TR.put {C : Ctx} {n : Nat} {T : Tmps} {a : Act} {v : AV} {v' : Value} (hT : TR C n T a.tmps) (dst : Option Nat) (hd : dst.all (· < n) = true) (hv : VR C true true v v') :
  TR C n (T.put dst v) (a.put dst v').tmps := by
 cases dst with
 | none => exact hT
 | some d =>
  simp at hd
  refine ⟨by simp [Act.put, hT.size], fun t => ?_⟩
  simp only [Tmps.put, Tmps.upd_eq, Act.put]
  by_cases h : t = d
  ·subst h
   rw [if_pos rfl]
   have : t < a.tmps.size := by rw [hT.size]; exact hd
   simp [Array.getD, this]
   exact hv
  ·rw [if_neg h]
   have := hT.rel t
   simp only [Cv, Array.getElem?_setIfInBounds_ne (Ne.symm h)] at this ⊢
   exact this
theorem fL {C : Ctx} {r t : Bool} {v : Value} {a : AV} (h : Yq v = some a) : VR C r t a v ∧ v.oneCell' = true := by
 unfold Yq at h
 split at h <;> simp at h <;> subst h <;> simp [VR, Value.oneCell']
theorem Yt {C : Ctx} {r t : Bool} : ∀ {vs : List Value} {as : List AV}, cvtL vs = some as → VRL C r t as vs
 | [], as, h => by simp [cvtL] at h; subst h; simp [VRL]
 | v :: vs, as, h => by
  simp only [cvtL] at h
  split at h
  ·rename_i a l h1 h2
   simp at h; subst h
   simp only [VRL]
   have := fL (C := C) (r := r) (t := t) h1
   exact ⟨v, vs, rfl, this.2, this.1, Yt h2⟩
  ·simp at h
theorem bS {C : Ctx} {r t : Bool} {v : Value} {a : AV} (h : cvt v = some a) : VR C r t a v := by
 unfold cvt at h
 split at h
 ·rename_i cs
  simp only [Al] at h
  obtain ⟨l, h1, rfl⟩ := h
  simp only [VR]
  exact ⟨cs, rfl, Yt h1⟩
 ·rename_i cs
  split at h
  ·rename_i hc
   simp at h; subst h
   have : cs = #[] := Ke hc
   subst this
   simp [VR, Go.undef]
  ·simp at h
 ·exact (fL h).1
theorem Ct {C : Ctx} {n : Nat} {T : Tmps} {a : Act} {x : Operand} {sx : SArg} (hT : TR C n T a.tmps) (h : sarg x = some sx) : VR C true true (sx.ev T) (a.eval x) := by
 cases x with
 | tmp t => simp [sarg] at h; subst h; exact hT.rel t
 | const v =>
  simp only [sarg, Al] at h
  obtain ⟨av, h1, rfl⟩ := h
  exact bS h1
 | func f => simp [sarg] at h; subst h; simp [SArg.ev, Act.eval, VR, VRT]
 | global g => simp [sarg] at h
theorem Yo {C : Ctx} {n : Nat} {T : Tmps} {a : Act} (hT : TR C n T a.tmps) : ∀ {xs : List Operand} {sx : List SArg}, Wc xs = some sx → VRT C true true (sx.map (SArg.ev T)) (xs.map a.eval)
 | [], _, h => by simp [Wc] at h; subst h; simp [VRT]
 | x :: xs, _, h => by
  simp only [Wc] at h
  split at h
  ·rename_i s l h1 h2
   simp at h; subst h
   simp only [Bc, VRT]
   exact ⟨_, _, rfl, Ct hT h1, Yo hT h2⟩
  ·simp at h
def Dd (P : Program) (o : Oper) (a : Act) (C : Ctx) (v : AV) (H' : Heap) : Prop :=
 ∃ v' μ' w', ((execOp a.eval o).run P C.w = .ok (.value v') w' ∨ ((execOp a.eval o).run P C.w = .ok .skip w' ∧ v' = Go.undef)) ∧
  Evo C ⟨C.F, μ', H', w'⟩ ∧ Rel ⟨C.F, μ', H', w'⟩ ∧ VR ⟨C.F, μ', H', w'⟩ true true v v'
theorem Bk {P : Program} {o : Oper} {a : Act} {C : Ctx} {v : AV} {v' : Value} (hR : Rel C) (h : (execOp a.eval o).run P C.w = .ok (.value v') C.w) (hv : VR C true true v v') : Dd P o a C v C.H :=
 ⟨v', C.μ, C.w, .inl h, Evo.refl C, hR, hv⟩
section ops
variable {P : Program} {o : Oper} {a : Act} {C : Ctx} {n : Nat} {T : Tmps} {cf : Cx} {xf : ExtF} {base : Nat} {v : AV} {H' : Heap} {fp : FP}
theorem Dx {v v' : AV} {H H' : Heap} {fp : FP} (h : rv v H = some (v', H', fp)) : v' = v ∧ H' = H := by
 simp [rv] at h; exact ⟨h.1.symm, h.2.1.symm⟩
theorem Aft {x : Operand} {sx : SArg} (ho : o.op = .move x ∨ o.op = .assign x) (hR : Rel C) (hT : TR C n T a.tmps) (hx : sarg x = some sx)
  (h : aop cf xf base T C.H (.mv sx) = some (v, H', fp)) : Dd P o a C v H' := by
 obtain ⟨rfl, rfl⟩ := Dx h
 refine Bk (v' := a.eval x) hR ?_ (Ct hT hx)
 rcases ho with ho | ho <;> simp [execOp, ho]
theorem Aed {c x y : Operand} {sc sx sy : SArg} (ho : o.op = .pick c x y) (hR : Rel C) (hT : TR C n T a.tmps) (hc : sarg c = some sc) (hx : sarg x = some sx) (hy : sarg y = some sy)
  (h : aop cf xf base T C.H (.pick sc sx sy) = some (v, H', fp)) : Dd P o a C v H' := by
 simp only [aop] at h
 have h1 := Ct hT hc
 split at h
 ·rename_i b hb
  obtain ⟨rfl, rfl⟩ := Dx h
  rw [hb] at h1
  simp only [VR] at h1
  refine Bk (v' := if b then a.eval x else a.eval y) hR ?_ ?_
  ·simp [execOp, ho, h1, asBool]
  ·split
   ·exact Ct hT hx
   ·exact Ct hT hy
 ·simp at h
theorem Gq {t : TypeId} {k : Nat} (h : sizeOf? P t = some k) (w : World) : (sizeOf t).run P w = .ok k w := by
 simp only [sizeOf?] at h
 split at h
 ·simp only [Al] at h
  obtain ⟨i, h1, rfl⟩ := h
  simp [Go.sizeOf, typeInfo, h1]
 ·simp at h
theorem Kj {t : TypeId} {k : Nat} (h : sizeOf? P t = some k) : (P.underlying t).isSome = true := by
 simp only [sizeOf?] at h
 split at h
 ·rename_i d hd; simp [hd]
 ·simp at h
theorem mM {t : TypeId} (w : World) (hu : (P.underlying t).isSome = true) : (isAgg t).run P w = .ok (Gb P t) w := by
 obtain ⟨d, hd⟩ := Ol.1 hu
 simp only [isAgg, Ku, Am hd, Gs, Gb, hd]
 cases d <;> rfl
theorem Kx {b off : Nat} {vs : List Value} (w : World) (h : rowAt w b off vs) : (loadCells ⟨b, off, none⟩ vs.length).run P w = .ok vs.toArray w := by
 refine run_loadCells_list w _ vs fun j u hj => ?_
 have := h j u hj
 unfold Addr.add
 split
 ·rename_i h0; subst h0; simpa using this
 ·exact this
theorem Ml {t : TypeId} {k b off : Nat} {vs : List Value} (w : World) (hk : sizeOf? P t = some k) (hu : (P.underlying t).isSome = true) (h : rowAt w b off vs) (hl : vs.length = k)
  (h1 : Gb P t = true ∨ k = 1) : (loadVar t ⟨b, off, none⟩).run P w = .ok (if Gb P t then .agg vs.toArray else vs.headD Go.undef) w := by
 simp only [loadVar, Ku, mM w hu, Gs]
 cases hb : Gb P t with
 | true =>
  subst hl
  simp [Gq hk, Kx w h]
 | false =>
  have hk1 : k = 1 := by simpa [hb] using h1
  subst hk1
  obtain ⟨u, rfl⟩ := Qi.1 hl
  have := h 0 u rfl
  simp at this
  simp [this]
theorem wK {j g ver s i off : Nat} {es : List AV} {e : AV} {v' : Value} (hR : Rel C) (hes : C.H.row j g ver s = some es) (he : es[i]? = some e)
  (hv : VR C true true (.ptr j g ver s i off) v') : ∃ vs, v' = .pointer (some ⟨C.μ j, i * s + off, none⟩) ∧ rowAt C.w (C.μ j) (i * s + off) vs ∧ VRL C true true (e.cells.drop off) vs := by
 simp only [VR] at hv
 obtain ⟨_, _, ad, rfl, hk⟩ := hv
 have hes' := row_some.1 hes
 have hi : i < es.length := (Dg.1 he).1
 have hne : es ≠ [] := by intro h; subst h; simp at hi
 obtain ⟨_, c, el, fzz, hobj, hok⟩ := hR.mem hes'.2.1 hne
 rw [hk es hes (by omega)]
 have hel := CRL.get i hok.cells he
 refine ⟨_, rfl, ?_, VRL.drop off hel.2⟩
 have hr := ((Hv (w := C.w) hobj (es.length * s)).drop (i * s)).take s |>.drop off
 simpa using hr
theorem rS {C : Ctx} {r t : Bool} : ∀ {es : List AV} {vs : List Value}, CRL C r t 1 es vs → VRL C r t (es.flatMap AV.cells) vs
 | [], vs, h => by simpa [CRL, VRL] using h
 | e :: es, vs, h => by
  have h0 := CRL.get 0 h rfl
  have h1 := rS (CRL.drop 1 h)
  simp only [iZ, Cc] at h0
  have := h0.2.append h1
  rw [Ady, Iy] at this
  simpa using this
theorem Aay {j g ver i off : Nat} {es : List AV} {e : AV} {v' : Value} (hR : Rel C) (hes : C.H.row j g ver 1 = some es) (he : es[i]? = some e)
  (hv : VR C true true (.ptr j g ver 1 i off) v') : ∃ vs, v' = .pointer (some ⟨C.μ j, i * 1 + off, none⟩) ∧ rowAt C.w (C.μ j) (i * 1 + off) vs ∧ VRL C true true ((es.drop (i + off)).flatMap AV.cells) vs ∧ vs.length = es.length - (i + off) := by
 simp only [VR] at hv
 obtain ⟨_, _, ad, rfl, hk⟩ := hv
 have hes' := row_some.1 hes
 have hi : i < es.length := (Dg.1 he).1
 have hne : es ≠ [] := by intro h; subst h; simp at hi
 obtain ⟨_, c, el, fzz, hobj, hok⟩ := hR.mem hes'.2.1 hne
 rw [hk es hes (by omega)]
 have hd := hok.cells.drop (i + off)
 have hl := CRL.length hd
 refine ⟨_, rfl, ?_, rS hd, by simpa using hl⟩
 have hr := (Hv (w := C.w) hobj (es.length * 1)).drop ((i + off) * 1)
 simpa using hr
theorem Ql {k : Nat} {agg : Bool} {cs : List AV} {vs : List Value} {r t : Bool} (h : VRL C r t cs vs) (hk : k ≤ cs.length) (h1 : agg = true ∨ k = 1) :
  VR C r t (if agg then .agg (cs.take k) else cs.headD .undef) (if agg then .agg (vs.take k).toArray else (vs.take k).headD Go.undef) := by
 cases agg with
 | true =>
  simp only [if_true, VR]
  exact ⟨_, rfl, by simpa using h.take k⟩
 | false =>
  have hk1 : k = 1 := by simpa using h1
  subst hk1
  cases cs with
  | nil => simp at hk
  | cons c cs =>
   simp only [VRL] at h
   obtain ⟨v, vs', rfl, _, h2, _⟩ := h
   simpa using h2
theorem Afo {t : TypeId} {x : Operand} {sx : SArg} {k : Nat} (ho : o.op = .load t x) (hR : Rel C) (hT : TR C n T a.tmps) (hx : sarg x = some sx) (hk : sizeOf? P t = some k)
  (h1 : Gb P t = true ∨ k = 1)
  (h : aop cf xf base T C.H (.load k (Gb P t) sx) = some (v, H', fp)) : Dd P o a C v H' := by
 have hv := Ct hT hx
 simp only [aop] at h
 split at h
 ·rename_i j g ver s i off hq
  rw [hq] at hv
  split at h
  ·rename_i es hes
   split at h
   ·rename_i e he
    split at h
    ·rename_i hle
     simp only [Ae, Ah] at h
     obtain ⟨rfl, rfl, _⟩ := h
     obtain ⟨vs, hv', hrow, hvs⟩ := wK hR hes he hv
     have hl := VRL.length hvs
     simp at hl
     refine Bk hR (v' := if Gb P t then .agg (vs.take k).toArray else (vs.take k).headD Go.undef) ?_ (Ql hvs (by simp; omega) h1)
     have := Ml (P := P) C.w hk (Kj hk) (hrow.take k) (by simp; omega) h1
     simp [execOp, ho, hv', Instr.loadAt, Instr.sureAddr, this]
    ·split at h
     ·rename_i hc
      obtain ⟨rfl, hle⟩ := hc
      simp only [Ae, Ah] at h
      obtain ⟨rfl, rfl, _⟩ := h
      obtain ⟨vs, hv', hrow, hvs, hvl⟩ := Aay hR hes he hv
      have hl := VRL.length hvs
      refine Bk hR (v' := if Gb P t then .agg (vs.take k).toArray else (vs.take k).headD Go.undef) ?_ (Ql hvs (by omega) h1)
      have := Ml (P := P) C.w hk (Kj hk) (hrow.take k) (by simp; omega) h1
      simp [execOp, ho, hv', Instr.loadAt, Instr.sureAddr] at this ⊢
      simp [this]
     ·simp at h
   ·simp at h
  ·simp at h
 ·rename_i tt cs hq
  rw [hq] at hv
  split at h
  ·rename_i hle
   obtain ⟨rfl, rfl⟩ := Dx h
   simp only [VR] at hv
   obtain ⟨htt, b, off, vs, hv', hib, hrow, hvs⟩ := hv
   have hl := VRL.length hvs
   refine Bk hR (v' := if Gb P t then .agg (vs.take k).toArray else (vs.take k).headD Go.undef) ?_ (VR.weak (by simp) (by simp) (Ql hvs hle h1))
   have := Ml (P := P) C.w hk (Kj hk) (hrow.take k) (by simp; omega) h1
   simp [execOp, ho, hv', Instr.loadAt, Instr.sureAddr, this]
  ·simp at h
 ·simp at h
theorem Afe {x : Operand} {sx : SArg} (ho : o.op = .nilCheck x) (hR : Rel C) (hT : TR C n T a.tmps) (hx : sarg x = some sx)
  (h : aop cf xf base T C.H (.nilc sx) = some (v, H', fp)) : Dd P o a C v H' := by
 have hv := Ct hT hx
 simp only [aop] at h
 split at h
 ·rename_i j g ver s i off hq
  rw [hq] at hv
  obtain ⟨rfl, rfl⟩ := Dx h
  have hv2 := hv
  simp only [VR] at hv
  obtain ⟨_, _, ad, hv', _⟩ := hv
  exact Bk hR (v' := a.eval x) (by simp [execOp, ho, hv']) hv2
 ·rename_i tt cs hq
  rw [hq] at hv
  obtain ⟨rfl, rfl⟩ := Dx h
  have hv2 := hv
  simp only [VR] at hv
  obtain ⟨_, b, off, vs, hv', _⟩ := hv
  exact Bk hR (v' := a.eval x) (by simp [execOp, ho, hv']) hv2
 ·rename_i f cs hq
  rw [hq] at hv
  obtain ⟨rfl, rfl⟩ := Dx h
  have hv2 := hv
  simp only [VR] at hv
  obtain ⟨vs, hv', _⟩ := hv
  exact Bk hR (v' := a.eval x) (by simp [execOp, ho, hv']) hv2
 ·simp at h
end ops
end Go.AI
namespace Go.AI
def AV.val : AV → Value
 | .int k n => .int k n
 | .bool b => .bool b
 | .str s => .string s
 | _ => Go.undef
section ops
variable {P : Program} {o : Oper} {a : Act} {C : Ctx} {n : Nat} {T : Tmps} {cf : Cx} {xf : ExtF} {base : Nat} {v : AV} {H' : Heap} {fp : FP}
theorem vW {x : Option AV} {H H' : Heap} {v : AV} {fp : FP} (h : x.bind (rv · H) = some (v, H', fp)) : x = some v ∧ H' = H := by
 cases x with
 | none => simp at h
 | some u =>
  obtain ⟨rfl, rfl⟩ := Dx h
  exact ⟨rfl, rfl⟩
theorem Afd {op : BinOp} {t : TypeId} {x y v : AV} {x' y' : Value} (hx : VR C true true x x') (hy : VR C true true y y') (h : abin op x y = some v) (w : World) :
    (binOp op t x' y').run P w = .ok v.val w ∧ VR C true true v v.val := by
  unfold abin at h
  split at h
  · rename_i k p k' q
    simp only [VR] at hx hy
    subst hx hy
    cases op <;> simp only at h
    case shl =>
      split at h
      · simp at h
      · simp at h; subst h
        rename_i hq
        exact ⟨by simp [binOp, Op.shift, hq, AV.val], by simp [VR, AV.val]⟩
    case shr =>
      split at h
      · simp at h
      · simp at h; subst h
        rename_i hq
        exact ⟨by simp [binOp, Op.shift, hq, AV.val], by simp [VR, AV.val]⟩
    all_goals
      split at h
      · simp at h
      · rename_i hk
        simp at hk
        subst hk
        first
          | (simp at h; done)
          | (simp at h; subst h; exact ⟨by simp [binOp, Op.intArith, Op.intCmp, Op.intBits, AV.val]; done, by simp [VR, AV.val]⟩)
          | (simp at h
             obtain ⟨hq, rfl⟩ := h
             exact ⟨by simp [binOp, Op.intDiv, hq, AV.val], by simp [VR, AV.val]⟩)
  · rename_i p q
    simp only [VR] at hx hy
    subst hx hy
    cases op <;> simp only at h
    case add =>
      split at h
      · rename_i hle
        simp at h; subst h
        refine ⟨?_, by simp [VR, AV.val]⟩
        have : ¬ (((p.size + q.size : Nat) : Int) > IntKind.i64.max) := by
          simp [Gz] at hle ⊢
          omega
        simp only [binOp, Op.stringOp, if_neg this]; rfl
      · simp at h
    all_goals first
      | (simp at h; done)
      | (simp at h; subst h; exact ⟨by simp [binOp, Op.stringOp, AV.val], by simp [VR, AV.val]⟩)
  · simp at h
theorem uT {op : BinOp} {t yt : TypeId} {x y : Operand} {sx sy : SArg} (ho : o.op = .binOp op t x y yt) (hR : Rel C) (hT : TR C n T a.tmps) (hx : sarg x = some sx) (hy : sarg y = some sy)
  (h : aop cf xf base T C.H (.bin op sx sy) = some (v, H', fp)) : Dd P o a C v H' := by
 simp only [aop] at h
 obtain ⟨h1, rfl⟩ := vW h
 obtain ⟨h2, h3⟩ := Afd (P := P) (t := t) (Ct hT hx) (Ct hT hy) h1 C.w
 refine Bk (v' := v.val) hR ?_ h3
 have hx' := Ct hT hx
 have hg : (eqGuard op t x y (a.eval x) (a.eval y)).run P C.w = .ok () C.w := by
  unfold eqGuard
  unfold abin at h1
  split at h1
  ·rename_i k p k' q hq1 hq2
   rw [hq1] at hx'
   simp only [VR] at hx'
   cases op <;> simp [hx']
  ·rename_i p q hq1 hq2
   rw [hq1] at hx'
   simp only [VR] at hx'
   cases op <;> simp [hx']
  ·simp at h1
 simp [execOp, ho, hg, h2]
theorem xH (d : Nat) {t e : TypeId} (hu : P.underlying t = some (.slice e)) (ad : Addr) (l c : Nat) (w : World) : (Op.equalIn (d + 1) t (.slice (some ad) l c) (.slice none 0 0)).run P w = .ok false w := by
 simp [Op.equalIn, Am hu]
theorem Abm {neg : Bool} {op : BinOp} {t yt : TypeId} {x y : Operand} {sx : SArg} {e : TypeId} (ho : o.op = .binOp op t x y yt) (hop : op = if neg then .neq else .eql)
  (h1 : Mr y = true) (hu : P.underlying t = some (.slice e))
  (hR : Rel C) (hT : TR C n T a.tmps) (hx : sarg x = some sx)
  (h : aop cf xf base T C.H (.eqnil neg sx) = some (v, H', fp)) : Dd P o a C v H' := by
 have hx' := Ct hT hx
 simp only [aop] at h
 cases hnil : rH (sx.ev T) with
 | none => simp [hnil] at h
 | some b =>
  simp only [hnil, Aa] at h
  obtain ⟨rfl, rfl⟩ := Dx h
  refine Bk (v' := .bool (b != neg)) hR ?_ (by simp [VR])
  subst hop
  have hy' : a.eval y = .slice none 0 0 := by
   unfold Mr at h1
   split at h1
   ·rfl
   ·simp at h1
  unfold rH at hnil
  split at hnil
  ·rename_i t' f s e' es hq
   simp at hnil
   subst hnil
   rw [hq] at hx'
   simp only [VR] at hx'
   obtain ⟨_, ad, cap', hv, _, _, hk⟩ := hx'
   obtain ⟨b0, off0, vs, rfl, _⟩ := hk (by simp)
   have hq := xH (P := P) 9999 hu ⟨b0, off0, none⟩ (e' :: es).length cap' C.w
   cases neg
   ·simp only [execOp, ho, hv, hy', eqGuard, binOp, Op.equal, Op.maxDepth, Ap, Bx]
    simp at hq
    simp [hq]
   ·simp only [execOp, ho, hv, hy', eqGuard, binOp, Op.equal, Op.maxDepth, if_true]
    simp at hq
    simp [hq]
  ·simp at hnil
theorem Aht {op : UnOp} {t : TypeId} {x : Operand} {sx : SArg} (ho : o.op = .unOp op t x) (hR : Rel C) (hT : TR C n T a.tmps) (hx : sarg x = some sx)
  (h : aop cf xf base T C.H (.un op sx) = some (v, H', fp)) : Dd P o a C v H' := by
 have hx' := Ct hT hx
 simp only [aop] at h
 obtain ⟨h1, rfl⟩ := vW h
 unfold aun at h1
 split at h1
 ·rename_i k q hq
  rw [hq] at hx'
  simp only [VR] at hx'
  split at h1
  ·simp at h1; subst h1
   exact Bk (v' := .int k (k.wrap (0 - q))) hR (by simp [execOp, ho, hx', Op.unary, Op.intArith]) (by simp [VR])
  ·simp at h1; subst h1
   exact Bk (v' := .int k (k.wrap (BitVec.ofInt k.bits (if k.signed then -1 else k.max) ^^^ BitVec.ofInt k.bits q).toNat)) hR
    (by simp [execOp, ho, hx', Op.unary, Op.intBits]) (by simp [VR])
  ·simp at h1
 ·rename_i b hq
  rw [hq] at hx'
  simp only [VR] at hx'
  split at h1
  ·simp at h1; subst h1
   exact Bk (v' := .bool !b) hR (by simp [execOp, ho, hx', Op.unary]) (by simp [VR])
  ·simp at h1
 ·simp at h1
theorem Ahf {s d : TypeId} {k0 k : IntKind} {x : Operand} {sx : SArg} (ho : o.op = .convert s d x) (hs : P.underlying s = some (.int k0)) (hd : P.underlying d = some (.int k)) (hR : Rel C) (hT : TR C n T a.tmps) (hx : sarg x = some sx)
  (h : aop cf xf base T C.H (.cvi k sx) = some (v, H', fp)) : Dd P o a C v H' := by
 have hx' := Ct hT hx
 simp only [aop] at h
 split at h
 ·rename_i k1 q hq
  rw [hq] at hx'
  simp only [VR] at hx'
  obtain ⟨rfl, rfl⟩ := Dx h
  exact Bk (v' := .int k (k.wrap q)) hR (by simp [execOp, ho, hx', convert, Am hs, Am hd, Conv.intToInt]) (by simp [VR])
 ·simp at h
theorem Aej {f : Nat} {first caps : Array Operand} {sc : List SArg} (ho : o.op = .makeFunc (.func f) first caps) (hf : first.size = 0) (hR : Rel C) (hT : TR C n T a.tmps) (hc : Wc caps.toList = some sc)
  (h : aop cf xf base T C.H (.mkfn f sc) = some (v, H', fp)) : Dd P o a C v H' := by
 have hx' := Yo hT hc
 simp only [aop] at h
 obtain ⟨rfl, rfl⟩ := Dx h
 have : first = #[] := Ke hf
 subst this
 exact Bk (v' := .func (.func f) #[] (caps.map a.eval)) hR (by simp [execOp, ho, Instr.makeFunc]) (by simp only [VR]; exact ⟨_, rfl, by simpa using hx'⟩)
theorem Adc {t : TypeId} {x : Operand} {f : Nat} {sx : SArg} {off k : Nat} {b : Bool} (ho : o.op = .fieldAddr t x f) (hf : Vj P t f = some (off, k, b)) (hR : Rel C) (hT : TR C n T a.tmps) (hx : sarg x = some sx)
  (h : aop cf xf base T C.H (.faddr off sx) = some (v, H', fp)) : Dd P o a C v H' := by
 have hx' := Ct hT hx
 have hrun : ∀ ad w, (Instr.fieldAt t (.pointer (some ad)) f).run P w = .ok (.pointer (some (ad.add off))) w := by
  intro ad w
  unfold Vj at hf
  split at hf
  ·rename_i fs hfs
   split at hf
   ·rename_i fd hfd
    split at hf
    ·rename_i s hs
     split at hf
     ·simp at hf
     ·rename_i hs0
      simp at hf
      obtain ⟨rfl, rfl, _⟩ := hf
      simp [Instr.fieldAt, Am hfs, hfd, Instr.sureAddr, fieldPlace, Gq hs, hs0]
    ·simp at hf
   ·simp at hf
  ·simp at hf
 simp only [aop] at h
 split at h
 ·rename_i j g ver s i q hq
  rw [hq] at hx'
  obtain ⟨rfl, rfl⟩ := Dx h
  simp only [VR] at hx'
  obtain ⟨h1, h2, ad, h3, h4⟩ := hx'
  refine Bk (v' := .pointer (some (ad.add off))) hR (by simp [execOp, ho, h3, hrun]) ?_
  simp only [VR]
  refine ⟨trivial, h2, _, rfl, fun es hes hi => ?_⟩
  rw [h4 es hes hi]
  unfold Addr.add
  split
  ·rename_i h0; subst h0; rfl
  ·simp [bY]
 ·rename_i tt cs hq
  rw [hq] at hx'
  split at h
  ·rename_i hle
   obtain ⟨rfl, rfl⟩ := Dx h
   simp only [VR] at hx'
   obtain ⟨h1, b0, off0, vs, h3, h4, h5, h6⟩ := hx'
   refine Bk (v' := .pointer (some ((⟨b0, off0, none⟩ : Addr).add off))) hR (by simp [execOp, ho, h3, hrun]) ?_
   simp only [VR]
   refine ⟨fun _ => trivial, b0, off0 + off, vs.drop off, ?_, h4, h5.drop off, h6.drop off⟩
   unfold Addr.add
   split
   ·rename_i h0; subst h0; rfl
   ·rfl
  ·simp at h
 ·simp at h
theorem rX {t : TypeId} {k off : Nat} {vs : Array Value} (w : World) (hk : sizeOf? P t = some k) (hl : off + k ≤ vs.size) (h1 : Gb P t = true ∨ k = 1) :
  (part t vs off).run P w = .ok (if Gb P t then .agg ((vs.toList.drop off).take k).toArray else ((vs.toList.drop off).take k).headD Go.undef) w := by
 simp only [part, Ku, mM w (Kj hk), Gs]
 cases hb : Gb P t with
 | true =>
  simp only [if_true, Ku, Gq hk, Gs, zX]
  congr 2
  apply Jp
  simp [Array.toList_extract]
 | false =>
  have hk1 : k = 1 := by simpa [hb] using h1
  subst hk1
  have hlt : off < vs.size := by omega
  simp [hlt, List.take_one, List.head?_drop]
theorem Ade {t : TypeId} {x : Operand} {f : Nat} {sx : SArg} {off k : Nat} {b : Bool} (ho : o.op = .field t x f) (hf : Vj P t f = some (off, k, b)) (h1 : b = true ∨ k = 1) (hR : Rel C) (hT : TR C n T a.tmps) (hx : sarg x = some sx)
  (h : aop cf xf base T C.H (.field off k b sx) = some (v, H', fp)) : Dd P o a C v H' := by
 have hx' := Ct hT hx
 simp only [aop] at h
 split at h
 ·rename_i cs hq
  rw [hq] at hx'
  split at h
  ·rename_i hle
   obtain ⟨rfl, rfl⟩ := Dx h
   simp only [VR] at hx'
   obtain ⟨vs, h3, h4⟩ := hx'
   have hl := VRL.length h4
   simp only [Jz] at hl
   unfold Vj at hf
   split at hf
   ·rename_i fs hfs
    split at hf
    ·rename_i fd hfd
     split at hf
     ·rename_i s hs
      split at hf
      ·simp at hf
      ·rename_i hs0
       simp at hf
       obtain ⟨rfl, rfl, rfl⟩ := hf
       have := rX (P := P) (vs := vs) (off := fd.offset) C.w hs (by omega) h1
       refine Bk hR (v' := if Gb P fd.type then .agg ((vs.toList.drop fd.offset).take s).toArray else ((vs.toList.drop fd.offset).take s).headD Go.undef) ?_ ?_
       ·simp [execOp, ho, h3, Instr.field, Am hfs, hfd, asAgg, this]
       ·exact Ql (h4.drop fd.offset) (by simp; omega) h1
     ·simp at hf
    ·simp at hf
   ·simp at hf
  ·simp at h
 ·simp at h
theorem vI {x : Operand} {i : Nat} {sx : SArg} (ho : o.op = .extract x i) (hR : Rel C) (hT : TR C n T a.tmps) (hx : sarg x = some sx)
  (h : aop cf xf base T C.H (.extract sx i) = some (v, H', fp)) : Dd P o a C v H' := by
 have hx' := Ct hT hx
 simp only [aop] at h
 split at h
 ·rename_i vs hq
  rw [hq] at hx'
  split at h
  ·rename_i u hu
   obtain ⟨rfl, rfl⟩ := Dx h
   simp only [VR] at hx'
   obtain ⟨us, h1, h2⟩ := hx'
   obtain ⟨v', h3, h4⟩ := VRT.get i h2 hu
   simp only [Array.getElem?_toList] at h3
   exact Bk (v' := v') hR (by simp [execOp, ho, h1, Instr.extract, h3]) h4
  ·simp at h
 ·simp at h
theorem Ot {x : AV} {x' : Value} {i : Nat} (hx : VR C true true x x') (h : Fb x = some i) : ∃ k, x' = .int k i := by
 unfold Fb at h
 split at h
 ·rename_i k q
  split at h
  ·simp at h
   simp only [VR] at hx
   subst h
   exact ⟨k, by rw [hx]; congr 1; omega⟩
  ·simp at h
 ·simp at h
theorem yQ {t e : TypeId} {x i : Operand} {sx si : SArg} {m s : Nat} (ho : o.op = .index t x i) (hu : P.underlying t = some (.array m e)) (hs : sizeOf? P e = some s) (h1 : Gb P e = true ∨ s = 1) (hR : Rel C) (hT : TR C n T a.tmps) (hx : sarg x = some sx) (hi : sarg i = some si)
  (h : aop cf xf base T C.H (.indexA m s (Gb P e) sx si) = some (v, H', fp)) : Dd P o a C v H' := by
 have hx' := Ct hT hx
 have hi' := Ct hT hi
 simp only [aop] at h
 cases hn : Fb (si.ev T) with
 | none => simp [hn] at h
 | some i0 =>
  obtain ⟨k, hi'⟩ := Ot hi' hn
  simp only [hn, Ac, Aa] at h
  split at h
  ·simp at h
  ·rename_i hlt
   split at h
   ·rename_i cs hq
    rw [hq] at hx'
    split at h
    ·rename_i hle
     obtain ⟨rfl, rfl⟩ := Dx h
     simp only [VR] at hx'
     obtain ⟨vs, h3, h4⟩ := hx'
     have hl := VRL.length h4
     simp only [Jz] at hl
     have := rX (P := P) (vs := vs) C.w hs (off := i0 * s) (by omega) h1
     refine Bk hR (v' := if Gb P e then .agg ((vs.toList.drop (i0 * s)).take s).toArray else ((vs.toList.drop (i0 * s)).take s).headD Go.undef) ?_ ?_
     ·have hb : (0 : Int) ≤ (i0 : Int) ∧ (i0 : Int) < (m : Int) := by omega
      simp [execOp, ho, h3, hi', Instr.index, asIntOf, Am hu, Gq hs, this, show i0 < m by omega]
     ·exact Ql (h4.drop (i0 * s)) (by simp; omega) h1
    ·simp at h
   ·simp at h
theorem Vl {c : Call} {b : Builtin} (hc : c.callee = .builtin b) (ty : TypeId) (w : World) :
  ((do let d ← resolve a.eval c ty; invoke d.target d.args) : Sem Next).run P w = (builtin b c.argTypes ty (c.args.map fun | .const _ => true | _ => false) (c.args.map a.eval)).run P w := by
 simp [resolve, hc, invoke]
 rfl
theorem Ee {c : Call} {b : Builtin} (ho : o.op = .call c) (hc : c.callee = .builtin b) (w : World) :
  (execOp a.eval o).run P w = (builtin b c.argTypes o.type (c.args.map fun | .const _ => true | _ => false) (c.args.map a.eval)).run P w := by
 rw [← Vl hc]
 simp [execOp, ho]
theorem Ahc {t e : TypeId} {x : Operand} {sx : SArg} {c : Call} (ho : o.op = .call c) (hc : c.callee = .builtin .len) (hts : c.argTypes = #[t]) (hxs : c.args = #[x])
  (hR : Rel C) (hT : TR C n T a.tmps) (hx : sarg x = some sx) (hu : P.underlying t = some (.slice e))
  (h : aop cf xf base T C.H (.len sx) = some (v, H', fp)) : Dd P o a C v H' := by
 have hx' := Ct hT hx
 simp only [aop] at h
 split at h
 ·rename_i j g ver s off len cap hq
  rw [hq] at hx'
  obtain ⟨rfl, rfl⟩ := Dx h
  simp only [VR] at hx'
  obtain ⟨_, _, ad, cap', hv, _⟩ := hx'
  exact Bk (v' := .int .i64 len) hR (by simp [Ee ho hc, hts, hxs, builtin, Builtin.len_, Am hu, hv, goInt]) (by simp [VR])
 ·rename_i tt f s es hq
  rw [hq] at hx'
  obtain ⟨rfl, rfl⟩ := Dx h
  simp only [VR] at hx'
  obtain ⟨_, ad, cap', hv, _⟩ := hx'
  exact Bk (v' := .int .i64 es.length) hR (by simp [Ee ho hc, hts, hxs, builtin, Builtin.len_, Am hu, hv, goInt]) (by simp [VR])
 ·simp at h
theorem Aer {t e : TypeId} {m : Nat} {x : Operand} {c : Call} (ho : o.op = .call c) (hc : c.callee = .builtin .len) (hts : c.argTypes = #[t]) (hxs : c.args = #[x])
  (hR : Rel C) (hu : P.underlying t = some (.array m e))
  (h : aop cf xf base T C.H (.mv (.c (.int .i64 m))) = some (v, H', fp)) : Dd P o a C v H' := by
 simp only [aop, SArg.ev] at h
 obtain ⟨rfl, rfl⟩ := Dx h
 exact Bk (v' := .int .i64 m) hR (by simp [Ee ho hc, hts, hxs, builtin, Builtin.len_, Am hu, goInt]) (by simp [VR])
theorem Ahm {t e : TypeId} {x : Operand} {sx : SArg} {c : Call} (ho : o.op = .call c) (hc : c.callee = .builtin .cap) (hts : c.argTypes = #[t]) (hxs : c.args = #[x])
  (hR : Rel C) (hT : TR C n T a.tmps) (hx : sarg x = some sx) (hu : P.underlying t = some (.slice e))
  (h : aop cf xf base T C.H (.cap sx) = some (v, H', fp)) : Dd P o a C v H' := by
 have hx' := Ct hT hx
 simp only [aop] at h
 split at h
 ·rename_i tt s es hq
  rw [hq] at hx'
  obtain ⟨rfl, rfl⟩ := Dx h
  simp only [VR] at hx'
  obtain ⟨_, ad, cap', hv, _, hf, _⟩ := hx'
  have := hf trivial
  subst this
  exact Bk (v' := .int .i64 es.length) hR (by simp [Ee ho hc, hts, hxs, builtin, Builtin.cap_, Am hu, hv, goInt]) (by simp [VR])
 ·simp at h
theorem xC {mx : Bool} {x y : Operand} {sx sy : SArg} {c : Call} (ho : o.op = .call c) (hc : c.callee = .builtin (if mx then .max else .min)) (hxs : c.args = #[x, y])
  (hR : Rel C) (hT : TR C n T a.tmps) (hx : sarg x = some sx) (hy : sarg y = some sy)
  (h : aop cf xf base T C.H (.mnmx mx sx sy) = some (v, H', fp)) : Dd P o a C v H' := by
 have hx' := Ct hT hx
 have hy' := Ct hT hy
 simp only [aop] at h
 split at h
 ·rename_i k p k' q hq1 hq2
  rw [hq1] at hx'; rw [hq2] at hy'
  split at h
  ·rename_i hk
   subst hk
   obtain ⟨rfl, rfl⟩ := Dx h
   simp only [VR] at hx' hy'
   refine Bk (v' := .int k (if mx then (if p < q then q else p) else (if q < p then q else p))) hR ?_ (by simp [VR])
   cases mx with
   | true => simp only [if_true] at hc; simp [Ee ho hc, hxs, builtin, Builtin.max_, Builtin.max2, hx', hy']
   | false => simp only [Ap, Bx] at hc; simp [Ee ho hc, hxs, builtin, Builtin.min_, Builtin.min2, hx', hy']
  ·simp at h
 ·simp at h
theorem Ls (b o k : Nat) : (⟨b, o, none⟩ : Addr).add k = ⟨b, o + k, none⟩ := by
 unfold Addr.add; split
 ·rename_i h; subst h; rfl
 ·rfl
theorem Acr {t e : TypeId} {x i : Operand} {sx si : SArg} {s : Nat} (ho : o.op = .indexAddr t x i) (hu : P.underlying t = some (.slice e)) (hs : sizeOf? P e = some s) (hR : Rel C) (hT : TR C n T a.tmps) (hx : sarg x = some sx) (hi : sarg i = some si)
  (h : aop cf xf base T C.H (.iaddr s sx si) = some (v, H', fp)) : Dd P o a C v H' := by
 have hx' := Ct hT hx
 have hi' := Ct hT hi
 simp only [aop] at h
 cases hn : Fb (si.ev T) with
 | none => simp [hn] at h
 | some i0 =>
  obtain ⟨k, hi'⟩ := Ot hi' hn
  simp only [hn, Ac, Aa] at h
  split at h
  ·rename_i j g ver s' off len cap hq
   rw [hq] at hx'
   cases hes : C.H.row j g ver s' with
   | none => simp [hes] at h
   | some es =>
    simp only [hes, Aa] at h
    split at h
    ·rename_i hc
     obtain ⟨rfl, hlt, hle⟩ := hc
     simp only [Ae, Ah] at h
     obtain ⟨rfl, rfl, _⟩ := h
     simp only [VR] at hx'
     obtain ⟨_, h2, ad, cap', hv, hcap, hk⟩ := hx'
     obtain ⟨_, _, h5⟩ := hk es hes
     obtain ⟨h6, _⟩ := h5 (by omega) (by omega)
     subst h6
     refine Bk (v' := .pointer (some ⟨C.μ j, off * s' + i0 * s', none⟩)) hR ?_ ?_
     ·simp [execOp, ho, hv, hi', Instr.indexAt, asIntOf, Am hu, Gq hs, hlt, Ls]
     ·simp only [VR]
      refine ⟨trivial, h2, _, rfl, fun _ _ _ => ?_⟩
      simp [Cp]
    ·simp at h
  ·rename_i tt f s' es hq
   rw [hq] at hx'
   split at h
   ·simp at h
   ·rename_i hs'
    simp at hs'
    subst hs'
    split at h
    ·rename_i el hel
     obtain ⟨rfl, rfl⟩ := Dx h
     have hlt : i0 < es.length := (Dg.1 hel).1
     simp only [VR] at hx'
     obtain ⟨h1, ad, cap', hv, hcap, _, hk⟩ := hx'
     obtain ⟨b, off, vs, rfl, h3, h4, h5⟩ := hk (by intro h0; subst h0; simp at hlt)
     refine Bk (v' := .pointer (some ⟨b, off + i0 * s', none⟩)) hR ?_ ?_
     ·simp [execOp, ho, hv, hi', Instr.indexAt, asIntOf, Am hu, Gq hs, hlt, Ls]
     ·simp only [VR]
      exact ⟨fun _ => trivial, b, off + i0 * s', _, rfl, h3, (h4.drop (i0 * s')).take s', (CRL.get i0 h5 hel).2⟩
    ·simp at h
  ·simp at h
theorem xJ {t e : TypeId} {x i : Operand} {sx si : SArg} {m s : Nat} (ho : o.op = .indexAddr t x i) (hu : P.underlying t = some (.array m e)) (hs : sizeOf? P e = some s) (hR : Rel C) (hT : TR C n T a.tmps) (hx : sarg x = some sx) (hi : sarg i = some si)
  (h : aop cf xf base T C.H (.iaddrA m s sx si) = some (v, H', fp)) : Dd P o a C v H' := by
 have hx' := Ct hT hx
 have hi' := Ct hT hi
 simp only [aop] at h
 cases hn : Fb (si.ev T) with
 | none => simp [hn] at h
 | some i0 =>
  obtain ⟨k, hi'⟩ := Ot hi' hn
  simp only [hn, Ac, Aa] at h
  split at h
  ·simp at h
  ·rename_i hlt
   have hrun : ∀ ad w, (Instr.indexAt t (.pointer (some ad)) (.int k i0)).run P w = .ok (.pointer (some (ad.add (i0 * s)))) w := by
    intro ad w
    simp [Instr.indexAt, asIntOf, Am hu, Gq hs, Instr.sureAddr, show i0 < m by omega]
   split at h
   ·rename_i j g ver s' q off hq
    rw [hq] at hx'
    obtain ⟨rfl, rfl⟩ := Dx h
    simp only [VR] at hx'
    obtain ⟨_, h2, ad, hv, hk⟩ := hx'
    refine Bk (v' := .pointer (some (ad.add (i0 * s)))) hR (by simp [execOp, ho, hv, hi', hrun]) ?_
    simp only [VR]
    refine ⟨trivial, h2, _, rfl, fun es hes hi => ?_⟩
    rw [hk es hes hi, Ls, bY]
   ·rename_i tt cs hq
    rw [hq] at hx'
    split at h
    ·rename_i hle
     obtain ⟨rfl, rfl⟩ := Dx h
     simp only [VR] at hx'
     obtain ⟨h1, b, off, vs, hv, h3, h4, h5⟩ := hx'
     refine Bk (v' := .pointer (some ⟨b, off + i0 * s, none⟩)) hR (by simp [execOp, ho, hv, hi', hrun, Ls]) ?_
     simp only [VR]
     exact ⟨fun _ => trivial, b, off + i0 * s, _, rfl, h3, h4.drop (i0 * s), h5.drop (i0 * s)⟩
    ·simp at h
   ·simp at h
end ops
end Go.AI
namespace Go.AI
def OV : Option Nat → Option Value → Prop
 | none, none => True
 | some i, some v => ∃ k, v = .int k i
 | _, _ => False
section ops
variable {P : Program} {o : Oper} {a : Act} {C : Ctx} {n : Nat} {T : Tmps} {cf : Cx} {xf : ExtF} {base : Nat} {v : AV} {H' : Heap} {fp : FP}
theorem tA (hT : TR C n T a.tmps) {x : Option Operand} {sx : Option SArg} (hx : sopt x = some sx) {i : Option Nat} (h : Ei T sx = some i) : OV i (x.map a.eval) := by
 cases x with
 | none =>
  simp [sopt] at hx; subst hx
  simp [Ei] at h; subst h
  trivial
 | some x =>
  simp only [sopt, Al] at hx
  obtain ⟨sy, h1, rfl⟩ := hx
  simp only [Ei, Al] at h
  obtain ⟨m, h2, rfl⟩ := h
  exact Ot (Ct hT h1) h2
theorem Fk {i y : Nat} {v : Value} {k : IntKind} (hv : v = .int k i) (h : i ≤ y) (code : BoundsCode) (w : World) : (Instr.sliceBound v y code).run P w = .ok i w := by
 subst hv
 simp [Instr.sliceBound, asIntOf, h]
theorem Nz {b : Bool} {len cap : Nat} {lo hi mx : Option Nat} {lo' hi' mx' : Option Value} (h1 : OV lo lo') (h2 : OV hi hi') (h3 : OV mx mx') (w : World)
  (a1 : lo.getD 0 ≤ hi.getD len) (a2 : hi.isSome = true → hi.getD len ≤ mx.getD cap) (a3 : mx.getD cap ≤ cap) (a4 : hi = none → mx = none) :
  (Instr.sliceBounds b len cap lo' hi' mx').run P w = .ok (lo.getD 0, hi.getD len, mx.getD cap) w := by
 unfold Instr.sliceBounds
 cases mx with
 | none =>
  cases mx' with
  | some _ => simp [OV] at h3
  | none =>
   cases hi with
   | none =>
    cases hi' with
    | some _ => simp [OV] at h2
    | none =>
     cases lo with
     | none => cases lo' with
      | some _ => simp [OV] at h1
      | none => simp
     | some l => cases lo' with
      | none => simp [OV] at h1
      | some vl =>
       obtain ⟨k, hk⟩ := h1
       simp at a1
       simp [Fk hk a1]
   | some h =>
    cases hi' with
    | none => simp [OV] at h2
    | some vh =>
     obtain ⟨kh, hkh⟩ := h2
     simp at a2
     cases lo with
     | none => cases lo' with
      | some _ => simp [OV] at h1
      | none => simp [Fk hkh a2]
     | some l => cases lo' with
      | none => simp [OV] at h1
      | some vl =>
       obtain ⟨k, hk⟩ := h1
       simp at a1
       simp [Fk hk a1, Fk hkh a2]
 | some m =>
  cases mx' with
  | none => simp [OV] at h3
  | some vm =>
   obtain ⟨km, hkm⟩ := h3
   simp at a3
   cases hi with
   | none => simp at a4
   | some h =>
    cases hi' with
    | none => simp [OV] at h2
    | some vh =>
     obtain ⟨kh, hkh⟩ := h2
     simp at a2
     cases lo with
     | none => cases lo' with
      | some _ => simp [OV] at h1
      | none => simp [Fk hkh a2, Fk hkm a3]
     | some l => cases lo' with
      | none => simp [OV] at h1
      | some vl =>
       obtain ⟨k, hk⟩ := h1
       simp at a1
       simp [Fk hk a1, Fk hkh a2, Fk hkm a3]
theorem isNil_iff {l : List AV} : Fz l = true ↔ l = [] := by cases l <;> simp [Fz]
theorem Abp {t e : TypeId} {x : Operand} {lo hi mx : Option Operand} {sx : SArg} {slo shi smx : Option SArg} {s : Nat} (ho : o.op = .slice t x lo hi mx) (hu : P.underlying t = some (.slice e)) (hs : sizeOf? P e = some s)
  (hR : Rel C) (hT : TR C n T a.tmps) (hx : sarg x = some sx) (hlo : sopt lo = some slo) (hhi : sopt hi = some shi) (hmx : sopt mx = some smx)
  (h : aop cf xf base T C.H (.slice s sx slo shi smx) = some (v, H', fp)) : Dd P o a C v H' := by
 have hx' := Ct hT hx
 simp only [aop] at h
 cases e1 : Ei T slo with
 | none => simp [e1] at h
 | some l =>
 cases e2 : Ei T shi with
 | none => simp [e1, e2] at h
 | some hh =>
 cases e3 : Ei T smx with
 | none => simp [e1, e2, e3] at h
 | some m =>
 have o1 := tA hT hlo e1
 have o2 := tA hT hhi e2
 have o3 := tA hT hmx e3
 simp only [e1, e2, e3, Ac, Aa, Xo] at h
 have hrun : ∀ (ad : Option Addr) (len cap : Nat), l.getD 0 ≤ hh.getD len → (hh.isSome = true → hh.getD len ≤ m.getD cap) → m.getD cap ≤ cap → (hh = none → m = none) → a.eval x = .slice ad len cap →
   (execOp a.eval o).run P C.w = .ok (.value (.slice (if m.getD cap = l.getD 0 then ad else ad.map (·.add (l.getD 0 * s))) (hh.getD len - l.getD 0) (m.getD cap - l.getD 0))) C.w := by
  intro ad len cap a1 a2 a3 a4 hv
  have := Nz (P := P) (b := true) o1 o2 o3 C.w a1 a2 a3 a4
  simp [execOp, ho, hv, Instr.sliceAt, Instr.slice, Am hu, this, Gq hs]
 split at h
 ·rename_i tt full s' es hq
  rw [hq] at hx'
  split at h
  ·simp at h
  ·rename_i hst
   split at h
   ·rename_i hc
    obtain ⟨c1, c2, c3, c4⟩ := hc
    simp only [Ae, Ah] at h
    obtain ⟨rfl, rfl, _⟩ := h
    simp only [VR] at hx'
    obtain ⟨h1, ad, cap', hv, hcap, hfull, hk⟩ := hx'
    have b3 : m.getD cap' ≤ cap' := by cases m <;> simp_all; omega
    have b2 : hh.getD es.length ≤ m.getD cap' := by cases m <;> simp_all; omega
    refine Bk hR (hrun ad es.length cap' c1 (fun _ => b2) b3 c4 hv) ?_
    have hlen : ((es.drop (l.getD 0)).take (hh.getD es.length - l.getD 0)).length = hh.getD es.length - l.getD 0 := by
     simp only [Cf, Ea]
     omega
    simp only [VR]
    refine ⟨fun _ => trivial, _, _, by rw [hlen], by rw [hlen]; omega, fun hf => ?_, fun hne => ?_⟩
    ·rw [hlen]
     simp only [Bu, Lc, Dj] at hf
     obtain ⟨f1, f2⟩ := hf
     cases m with
     | none => simp at f1 f2 ⊢; have := hfull f1; omega
     | some m => simp at f2 ⊢; omega
    ·have hpos : 0 < hh.getD es.length - l.getD 0 := by rw [← hlen]; exact Fp.2 hne
     have hes : es ≠ [] := by intro h0; subst h0; simp at hne
     have hs' : s' = s := by
      have h0 : ¬ Fz es = true := fun h0 => hes (isNil_iff.1 h0)
      by_cases h9 : s' = s
      ·exact h9
      ·exact absurd (fun hor => hor.elim h0 h9) hst
     subst hs'
     obtain ⟨b, off, vs, rfl, k1, k2, k3⟩ := hk hes
     refine ⟨b, off + l.getD 0 * s', _, ?_, k1, (k2.drop (l.getD 0 * s')).take ((hh.getD es.length - l.getD 0) * s'), (k3.drop (l.getD 0)).take _⟩
     rw [if_neg (by omega)]
     simp [Ls]
   ·simp at h
 ·rename_i j g ver s' off len cap hq
  rw [hq] at hx'
  split at h
  ·simp at h
  ·rename_i hs'
   simp at hs'
   subst hs'
   split at h
   ·simp at h
   ·rename_i es hes
    split at h
    ·rename_i hc
     obtain ⟨c1, c2, c3, c5, c4⟩ := hc
     simp only [Ae, Ah] at h
     obtain ⟨rfl, rfl, _⟩ := h
     simp only [VR] at hx'
     obtain ⟨_, hp, ad, cap', hv, hcap, hk⟩ := hx'
     obtain ⟨k1, k2, k3⟩ := hk es hes
     have hcc : cap.getD (ver - off) ≤ cap' := by cases cap <;> simp_all
     have b3 : m.getD cap' ≤ cap' := by cases m <;> simp_all; omega
     have b2 : hh.getD len ≤ m.getD cap' := by cases m <;> simp_all; omega
     refine Bk hR (hrun ad len cap' c1 (fun _ => b2) b3 c4 hv) ?_
     simp only [VR]
     refine ⟨trivial, hp, _, _, rfl, by omega, fun es' hes' => ?_⟩
     refine ⟨fun hv0 => ?_, ?_, fun ho' hc0 => ?_⟩
     ·have := k1 hv0
      omega
     ·cases m with
      | none => cases cap with
       | none => simp at k2 ⊢; omega
       | some c => simp at k2 ⊢; omega
      | some m => simp
     ·obtain ⟨rfl, e', nn, k4, k5⟩ := k3 (by omega) (by omega)
      refine ⟨?_, e', nn, k4, ?_⟩
      ·rw [if_neg (by omega)]; simp [Ls, Cp]
      ·refine Ga (Ef _ ?_) k5
       omega
    ·simp at h
 ·simp at h
theorem Zv {r t : Bool} : ∀ {cs : List AV} {vs : List Value}, VRL C r t cs vs → (∀ c ∈ cs, c.cells.length = 1) → CRL C r t 1 cs vs
 | [], _, h, _ => by simp only [VRL] at h; subst h; rfl
 | c :: cs, _, h, hc => by
  simp only [VRL] at h
  obtain ⟨v, vs', rfl, h1, h2, h3⟩ := h
  simp only [CRL]
  refine ⟨⟨hc c (by simp), by simp, v, h2, ?_, by simpa using h1⟩, by simpa using Zv h3 (fun c' h' => hc c' (by simp [h']))⟩
  cases v <;> simp_all [Value.cells, Value.oneCell']
theorem Aax {r t : Bool} {c : AV} {v : Value} (h : VR C r t c v) (h1 : v.oneCell' = true) : c.cells.length = 1 := by
 cases c with
 | agg cs => simp only [VR] at h; obtain ⟨vs, rfl, _⟩ := h; simp [Value.oneCell'] at h1
 | _ => rfl
theorem Yl {r t : Bool} : ∀ {cs : List AV} {vs : List Value}, VRL C r t cs vs → ∀ c ∈ cs, c.cells.length = 1
 | [], _, _, c, hc => by simp at hc
 | c :: cs, _, h, c', hc => by
  simp only [VRL] at h
  obtain ⟨v, vs', rfl, h1, h2, h3⟩ := h
  rcases Au.1 hc with rfl | hc
  ·exact Aax h2 h1
  ·exact Yl h3 c' hc
theorem zK {t e : TypeId} {m : Nat} {x : Operand} {lo hi mx : Option Operand} {sx : SArg} (ho : o.op = .slice t x lo hi mx) (hu : P.underlying t = some (.array m e)) (hlo : lo = none) (hhi : hi = none) (hmx : mx = none) (hs : sizeOf? P e = some 1)
  (hR : Rel C) (hT : TR C n T a.tmps) (hx : sarg x = some sx)
  (h : aop cf xf base T C.H (.slcArr m sx) = some (v, H', fp)) : Dd P o a C v H' := by
 have hx' := Ct hT hx
 simp only [aop] at h
 split at h
 ·rename_i tt cs hq
  rw [hq] at hx'
  split at h
  ·rename_i hle
   obtain ⟨rfl, rfl⟩ := Dx h
   simp only [VR] at hx'
   obtain ⟨h1, b, off, vs, hv, h3, h4, h5⟩ := hx'
   have := Nz (P := P) (b := false) (len := m) (cap := m) (lo := none) (hi := none) (mx := none) (lo' := none) (hi' := none) (mx' := none) trivial trivial trivial C.w (Eg _) (fun h => by simp at h) (Ao _) (fun _ => rfl)
   subst hlo hhi hmx
   refine Bk hR (v' := .slice (some ⟨b, off, none⟩) m m) ?_ ?_
   ·simp at this
    simp [execOp, ho, hv, Instr.sliceAt, Am hu, Instr.sureAddr, this, Gq hs, Addr.add]
   ·have hl : (cs.take m).length = m := by simp; omega
    simp only [VR]
    refine ⟨fun _ => trivial, _, m, by rw [hl], by rw [hl]; exact Ao _, fun h => by simp at h, fun _ => ⟨b, off, _, rfl, h3, h4.take m, Zv (h5.take m) (Yl (h5.take m))⟩⟩
  ·simp at h
 ·rename_i j g ver s i off hq
  rw [hq] at hx'
  split at h
  ·rename_i hc
   obtain ⟨rfl, h0, hle⟩ := hc
   obtain ⟨rfl, rfl⟩ := Dx h
   simp only [VR] at hx'
   obtain ⟨_, hp, ad, hv, hk⟩ := hx'
   have := Nz (P := P) (b := false) (len := m) (cap := m) (lo := none) (hi := none) (mx := none) (lo' := none) (hi' := none) (mx' := none) trivial trivial trivial C.w (Eg _) (fun h => by simp at h) (Ao _) (fun _ => rfl)
   subst hlo hhi hmx
   refine Bk hR (v' := .slice (some ad) m m) ?_ ?_
   ·simp at this
    obtain ⟨b0, o0, p0⟩ := ad
    simp [execOp, ho, hv, Instr.sliceAt, Am hu, Instr.sureAddr, this, Gq hs, Addr.add]
   ·simp only [VR]
    refine ⟨trivial, hp, _, m, rfl, Ao _, fun es hes => ?_⟩
    have hes' := row_some.1 hes
    have hne : es ≠ [] := by intro h; subst h; simp at hes'; omega
    obtain ⟨_, c, el, fzz, hobj, hok⟩ := hR.mem hes'.2.1 hne
    have had := hk es hes (by omega)
    refine ⟨fun h => by omega, rfl, fun _ _ => ⟨by rw [had]; simp, el, c.size, by simp [World.shape?, hobj], ?_⟩⟩
    have := hok.le
    omega
  ·simp at h
 ·simp at h
end ops
end Go.AI
