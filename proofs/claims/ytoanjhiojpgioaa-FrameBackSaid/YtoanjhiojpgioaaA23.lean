/- Steps that show what they yield; bytes. -/
import Derived.Test.YtoanjhiojpgioaaA22
import Derived.IntWalk
set_option linter.unusedSimpArgs false
set_option linter.unusedVariables false
namespace Go.AI

section
variable {cf : CallF} {xf : ExtF} {base fuel : Nat} {T : Tmps} {H : Heap} {Q : Ex → Tmps → Heap → Prop} {QO : Tmps → Heap → Prop} {log : List FP}
  {op : SOp} {g : Option (Nat × Bool)} {un : List Nat} {r : List SOper} {d : Nat} {H' : Heap} {fp : FP}

theorem ev_c {T : Tmps} (v : AV) : (SArg.c v).ev T = v := rfl
theorem wo_v (v : AV) (hw : awanted T g = some true) (ho : aop cf xf base T H op = some (v, H', fp)) (hl : logOk log fp un = true)
    (h : WO (aops cf xf base r (log ++ [fp]) (T.upd d v) H') QO) : WO (aops cf xf base (⟨some d, op, g, un⟩ :: r) log T H) QO := wo_step hw ho hl h
theorem wo_u {v : AV} (hw : awanted T g = some true) (ho : aop cf xf base T H op = some (v, H', fp)) (hl : logOk log fp un = true)
    (h : WO (aops cf xf base r (log ++ [fp]) T H') QO) : WO (aops cf xf base (⟨none, op, g, un⟩ :: r) log T H) QO := wo_step hw ho hl h
theorem wo_n (hw : awanted T g = some false)
    (h : WO (aops cf xf base r (log ++ [.z]) (T.upd d .undef) H) QO) : WO (aops cf xf base (⟨some d, op, g, un⟩ :: r) log T H) QO := wo_not hw h
theorem wo_nn (hw : awanted T g = some false)
    (h : WO (aops cf xf base r (log ++ [.z]) T H) QO) : WO (aops cf xf base (⟨none, op, g, un⟩ :: r) log T H) QO := wo_not hw h

theorem wo_dec {p : Prop} [Decidable p] (hw : awanted T g = some true) (ho : aop cf xf base T H op = some (.bool (decide p), H', fp)) (hl : logOk log fp un = true)
    (h1 : p → WO (aops cf xf base r (log ++ [fp]) (T.upd d (.bool true)) H') QO) (h2 : ¬ p → WO (aops cf xf base r (log ++ [fp]) (T.upd d (.bool false)) H') QO) :
    WO (aops cf xf base (⟨some d, op, g, un⟩ :: r) log T H) QO := by
  by_cases h : p
  · exact wo_step hw (by rw [ho]; simp [h]) hl (h1 h)
  · exact wo_step hw (by rw [ho]; simp [h]) hl (h2 h)
theorem wo_eq {k : IntKind} {x y : SArg} {a b : Int} (hw : awanted T g = some true) (hx : x.ev T = .int k a) (hy : y.ev T = .int k b) (hl : logOk log .z un = true)
    (h1 : a = b → WO (aops cf xf base r (log ++ [.z]) (T.upd d (.bool true)) H) QO) (h2 : a ≠ b → WO (aops cf xf base r (log ++ [.z]) (T.upd d (.bool false)) H) QO) :
    WO (aops cf xf base (⟨some d, .bin .eql x y, g, un⟩ :: r) log T H) QO := by
  by_cases h : a = b
  · exact wo_step hw (v := .bool true) (by simp [aop, hx, hy, abin, h, rv]) hl (h1 h)
  · exact wo_step hw (v := .bool false) (by simp [aop, hx, hy, abin, h, rv]) hl (h2 h)
theorem wo_ne {k : IntKind} {x y : SArg} {a b : Int} (hw : awanted T g = some true) (hx : x.ev T = .int k a) (hy : y.ev T = .int k b) (hl : logOk log .z un = true)
    (h1 : a ≠ b → WO (aops cf xf base r (log ++ [.z]) (T.upd d (.bool true)) H) QO) (h2 : a = b → WO (aops cf xf base r (log ++ [.z]) (T.upd d (.bool false)) H) QO) :
    WO (aops cf xf base (⟨some d, .bin .neq x y, g, un⟩ :: r) log T H) QO := by
  by_cases h : a = b
  · exact wo_step hw (v := .bool false) (by simp [aop, hx, hy, abin, h, rv]) hl (h2 h)
  · exact wo_step hw (v := .bool true) (by simp [aop, hx, hy, abin, h, rv]) hl (h1 h)
theorem wo_b {b : Bool} (hw : awanted T g = some true) (ho : aop cf xf base T H op = some (.bool b, H', fp)) (hl : logOk log fp un = true)
    (h1 : b = true → WO (aops cf xf base r (log ++ [fp]) (T.upd d (.bool true)) H') QO) (h2 : b = false → WO (aops cf xf base r (log ++ [fp]) (T.upd d (.bool false)) H') QO) :
    WO (aops cf xf base (⟨some d, op, g, un⟩ :: r) log T H) QO := wo_bool hw ho hl h1 h2

/-- A call by value. -/
theorem wo_call {f : Nat} {as : List SArg} {args : List AV} {v : AV} (hF : FnV cf f args v) (hw : awanted T g = some true) (ha : (as.map (SArg.ev T)).map (fz false deep H) = args)
    (hl : logOk log ⟨(as.map (SArg.ev T)).flatMap (vis deep H), [], false⟩ un = true)
    (h : WO (aops cf xf base r (log ++ [⟨(as.map (SArg.ev T)).flatMap (vis deep H), [], false⟩]) (T.upd d v) H) QO) :
    WO (aops cf xf base (⟨some d, .call .pure f as, g, un⟩ :: r) log T H) QO := wo_step hw (aop_pure hF ha) hl h
theorem wo_callB {f : Nat} {as : List SArg} {args : List AV} {b : Bool} (hF : FnV cf f args (.bool b)) (hw : awanted T g = some true) (ha : (as.map (SArg.ev T)).map (fz false deep H) = args)
    (hl : logOk log ⟨(as.map (SArg.ev T)).flatMap (vis deep H), [], false⟩ un = true)
    (h1 : b = true → WO (aops cf xf base r (log ++ [⟨(as.map (SArg.ev T)).flatMap (vis deep H), [], false⟩]) (T.upd d (.bool true)) H) QO)
    (h2 : b = false → WO (aops cf xf base r (log ++ [⟨(as.map (SArg.ev T)).flatMap (vis deep H), [], false⟩]) (T.upd d (.bool false)) H) QO) :
    WO (aops cf xf base (⟨some d, .call .pure f as, g, un⟩ :: r) log T H) QO := wo_bool hw (aop_pure hF ha) hl h1 h2
end

/-- Bytes. -/
def u8 (c : UInt8) : AV := .int .u8 (c.toNat : Int)
def BL (l : List UInt8) : List AV := l.map u8
@[simp] theorem BL_length (l : List UInt8) : (BL l).length = l.length := by simp [BL]
@[simp] theorem BL_nil : BL [] = [] := rfl
theorem BL_cons (c : UInt8) (l : List UInt8) : BL (c :: l) = u8 c :: BL l := rfl
theorem BL_append (a b : List UInt8) : BL (a ++ b) = BL a ++ BL b := by simp [BL]
theorem BL_drop (a : List UInt8) (n : Nat) : (BL a).drop n = BL (a.drop n) := by simp [BL]
theorem BL_take (a : List UInt8) (n : Nat) : (BL a).take n = BL (a.take n) := by simp [BL]
theorem BL_get (a : List UInt8) (n : Nat) : (BL a)[n]? = (a[n]?).map u8 := by simp [BL]
theorem BL_set (a : List UInt8) (n : Nat) (c : UInt8) : (BL a).set n (u8 c) = BL (a.set n c) := by simp [BL]
theorem BL_inj {a b : List UInt8} (h : BL a = BL b) : a = b := by
  have hu : ∀ x y, u8 x = u8 y → x = y := fun x y h => by
    simp [u8] at h
    exact UInt8.toNat_inj.1 (by omega)
  induction a generalizing b with
  | nil => cases b with
    | nil => rfl
    | cons y b => simp [BL] at h
  | cons x a ih => cases b with
    | nil => simp [BL] at h
    | cons y b =>
      simp only [BL_cons, List.cons.injEq] at h
      rw [hu _ _ h.1, ih h.2]
theorem BL_norefs : ∀ l : List UInt8, norefsL (BL l) = true
  | [] => rfl
  | c :: l => by simp [BL_cons, norefsL, u8, AV.norefs, BL_norefs l]
theorem BL_replicate (n : Nat) : List.replicate n (AV.int .u8 0) = BL (List.replicate n 0) := by simp [BL, u8]
theorem fz_int (out : Bool) (n : Nat) (H : Heap) (k : IntKind) (a : Int) : fz out n H (.int k a) = .int k a ∨ (out = true ∧ n = 0) := by
  cases n with
  | zero => cases out <;> simp [fz, AV.norefs]
  | succ n => left; rfl
theorem BL_fz (out : Bool) (n : Nat) (H : Heap) (l : List UInt8) : (BL l).map (fz out (n + 1) H) = BL l := by
  induction l with
  | nil => rfl
  | cons c l ih => rw [BL_cons, List.map_cons, ih]; rfl

theorem fz_slc {out : Bool} {n : Nat} {H : Heap} {j g ver s off len : Nat} {cap : Option Nat} {es : List AV} (hr : H.row j g ver s = some es) (hle : off + len ≤ ver) :
    fz out (n + 1) H (.slc j g ver s off len cap) = .islc (!out) false s (((es.drop off).take len).map (fz out n H)) := by
  simp only [fz, hr, if_pos hle]
theorem fz_slcB {out : Bool} {n : Nat} {H : Heap} {j g ver s off len : Nat} {cap : Option Nat} {l : List UInt8} (hr : H.row j g ver s = some (BL l)) (hle : off + len ≤ ver) :
    fz out (n + 2) H (.slc j g ver s off len cap) = .islc (!out) false s (BL ((l.drop off).take len)) := by
  rw [fz_slc hr hle, BL_drop, BL_take, BL_fz]
theorem row_of {H : Heap} {j g ver s : Nat} {ro : Bool} {es : List AV} (h : H j = ⟨g, ro, .row s es⟩) (hl : es.length = ver) : H.row j g ver s = some es := by
  unfold Heap.row
  rw [h]
  simp [hl]
theorem fz_true {n : Nat} {H : Heap} {u : AV} (h : fz true (n + 1) H u = .bool true) : u = .bool true := by
  unfold fz at h
  split at h
  all_goals try (split at h)
  all_goals try (split at h)
  all_goals try (split at h)
  all_goals try (simp at h; done)
  all_goals exact h

/-- A byte of many. -/
def bAt (l : List UInt8) (i : Int) : UInt8 := l.getD i.toNat 0

section
variable {cf : CallF} {xf : ExtF} {base fuel : Nat} {T : Tmps} {H : Heap} {Q : Ex → Tmps → Heap → Prop} {QO : Tmps → Heap → Prop} {log : List FP}
  {op : SOp} {g : Option (Nat × Bool)} {un : List Nat} {r : List SOper} {d : Nat} {H' : Heap} {fp : FP} {t f : Bool} {l : List UInt8}

theorem wo_len {s : Nat} {x : SArg} (hx : x.ev T = .islc t f s (BL l)) (hw : awanted T g = some true) (hl : logOk log .z un = true)
    (h : WO (aops cf xf base r (log ++ [.z]) (T.upd d (.int .i64 l.length)) H) QO) : WO (aops cf xf base (⟨some d, .len x, g, un⟩ :: r) log T H) QO :=
  wo_step (v := .int .i64 l.length) hw (by simp [aop, hx, rv]) hl h

theorem wo_len0 {s : Nat} {x : SArg} (hx : x.ev T = .islc t f s []) (hw : awanted T g = some true) (hl : logOk log .z un = true)
    (h : WO (aops cf xf base r (log ++ [.z]) (T.upd d (.int .i64 0)) H) QO) : WO (aops cf xf base (⟨some d, .len x, g, un⟩ :: r) log T H) QO :=
  wo_step (v := .int .i64 0) hw (by simp [aop, hx, rv]) hl h

theorem wo_at {x i : SArg} {k : IntKind} {n : Int} (hx : x.ev T = .islc t f 1 (BL l)) (hi : i.ev T = .int k n) (h0 : 0 ≤ n) (h1 : n < l.length) (hw : awanted T g = some true) (hl : logOk log .z un = true)
    (h : WO (aops cf xf base r (log ++ [.z]) (T.upd d (.iptr t [.int .u8 (bAt l n).toNat])) H) QO) : WO (aops cf xf base (⟨some d, .iaddr 1 x i, g, un⟩ :: r) log T H) QO :=
  wo_step (v := .iptr t [.int .u8 (bAt l n).toNat]) hw (by
    have : n.toNat < l.length := by omega
    simp [aop, hx, hi, rv, natOf, h0, BL_get, this, u8, AV.cells, bAt]) hl h


/-- Steps by the kind of operation. -/
theorem wo_mv (v : AV) {x : SArg} (hx : x.ev T = v) (hw : awanted T g = some true) (hl : logOk log .z un = true)
    (h : WO (aops cf xf base r (log ++ [.z]) (T.upd d v) H) QO) : WO (aops cf xf base (⟨some d, .mv x, g, un⟩ :: r) log T H) QO :=
  wo_step (v := v) hw (by simp [aop, hx, rv]) hl h
theorem wo_pickT (v : AV) {c a b : SArg} (hc : c.ev T = .bool true) (hx : a.ev T = v) (hw : awanted T g = some true) (hl : logOk log .z un = true)
    (h : WO (aops cf xf base r (log ++ [.z]) (T.upd d v) H) QO) : WO (aops cf xf base (⟨some d, .pick c a b, g, un⟩ :: r) log T H) QO :=
  wo_step (v := v) hw (by simp [aop, hc, hx, rv]) hl h
theorem wo_pickF (v : AV) {c a b : SArg} (hc : c.ev T = .bool false) (hx : b.ev T = v) (hw : awanted T g = some true) (hl : logOk log .z un = true)
    (h : WO (aops cf xf base r (log ++ [.z]) (T.upd d v) H) QO) : WO (aops cf xf base (⟨some d, .pick c a b, g, un⟩ :: r) log T H) QO :=
  wo_step (v := v) hw (by simp [aop, hc, hx, rv]) hl h
theorem wo_notB (b : Bool) {x : SArg} (hx : x.ev T = .bool b) (hw : awanted T g = some true) (hl : logOk log .z un = true)
    (h : WO (aops cf xf base r (log ++ [.z]) (T.upd d (.bool !b)) H) QO) : WO (aops cf xf base (⟨some d, .un .not x, g, un⟩ :: r) log T H) QO :=
  wo_step (v := .bool !b) hw (by simp [aop, aun, hx, rv]) hl h
theorem wo_notT {x : SArg} (hx : x.ev T = .bool true) (hw : awanted T g = some true) (hl : logOk log .z un = true)
    (h : WO (aops cf xf base r (log ++ [.z]) (T.upd d (.bool false)) H) QO) : WO (aops cf xf base (⟨some d, .un .not x, g, un⟩ :: r) log T H) QO := wo_notB true hx hw hl h
theorem wo_notF {x : SArg} (hx : x.ev T = .bool false) (hw : awanted T g = some true) (hl : logOk log .z un = true)
    (h : WO (aops cf xf base r (log ++ [.z]) (T.upd d (.bool true)) H) QO) : WO (aops cf xf base (⟨some d, .un .not x, g, un⟩ :: r) log T H) QO := wo_notB false hx hw hl h
theorem wo_eqb (v : Bool) {neg : Bool} {x y : SArg} {a b : Bool} (hx : x.ev T = .bool a) (hy : y.ev T = .bool b) (hv : ((a == b) != neg) = v) (hw : awanted T g = some true) (hl : logOk log .z un = true)
    (h : WO (aops cf xf base r (log ++ [.z]) (T.upd d (.bool v)) H) QO) : WO (aops cf xf base (⟨some d, .eqb neg x y, g, un⟩ :: r) log T H) QO :=
  wo_step (v := .bool v) hw (by simp [aop, hx, hy, rv, ← hv]) hl h
/-- Comparisons: known, or two ways on. -/
@[reducible] def cmpP : BinOp → Int → Int → Prop
  | .eql, a, b => a = b
  | .neq, a, b => a ≠ b
  | .lss, a, b => a < b
  | .leq, a, b => a ≤ b
  | .gtr, a, b => b < a
  | .geq, a, b => b ≤ a
  | _, _, _ => False
def isCmp : BinOp → Bool
  | .eql | .neq | .lss | .leq | .gtr | .geq => true
  | _ => false
theorem abin_cmp {op : BinOp} (ho : isCmp op = true) {k : IntKind} {a b : Int} : (cmpP op a b → abin op (.int k a) (.int k b) = some (.bool true)) ∧ (¬ cmpP op a b → abin op (.int k a) (.int k b) = some (.bool false)) := by
  cases op <;> simp [isCmp] at ho <;> constructor <;> intro h <;> simp [cmpP] at h <;> simp [abin, h] <;> omega
theorem wo_cmpT {op : BinOp} {x y : SArg} {k : IntKind} {a b : Int} (hc : isCmp op = true) (hx : x.ev T = .int k a) (hy : y.ev T = .int k b) (hp : cmpP op a b) (hw : awanted T g = some true) (hl : logOk log .z un = true)
    (h : WO (aops cf xf base r (log ++ [.z]) (T.upd d (.bool true)) H) QO) : WO (aops cf xf base (⟨some d, .bin op x y, g, un⟩ :: r) log T H) QO :=
  wo_step (v := .bool true) hw (by simp only [aop, hx, hy, (abin_cmp hc).1 hp, Option.bind_some, rv]) hl h
theorem wo_cmpF {op : BinOp} {x y : SArg} {k : IntKind} {a b : Int} (hc : isCmp op = true) (hx : x.ev T = .int k a) (hy : y.ev T = .int k b) (hp : ¬ cmpP op a b) (hw : awanted T g = some true) (hl : logOk log .z un = true)
    (h : WO (aops cf xf base r (log ++ [.z]) (T.upd d (.bool false)) H) QO) : WO (aops cf xf base (⟨some d, .bin op x y, g, un⟩ :: r) log T H) QO :=
  wo_step (v := .bool false) hw (by simp only [aop, hx, hy, (abin_cmp hc).2 hp, Option.bind_some, rv]) hl h
theorem wo_cmp {op : BinOp} {x y : SArg} {k : IntKind} {a b : Int} (hc : isCmp op = true) (hx : x.ev T = .int k a) (hy : y.ev T = .int k b) (hw : awanted T g = some true) (hl : logOk log .z un = true)
    (h1 : cmpP op a b → WO (aops cf xf base r (log ++ [.z]) (T.upd d (.bool true)) H) QO) (h2 : ¬ cmpP op a b → WO (aops cf xf base r (log ++ [.z]) (T.upd d (.bool false)) H) QO) : WO (aops cf xf base (⟨some d, .bin op x y, g, un⟩ :: r) log T H) QO := by
  by_cases hp : cmpP op a b
  · exact wo_cmpT hc hx hy hp hw hl (h1 hp)
  · exact wo_cmpF hc hx hy hp hw hl (h2 hp)
theorem wo_bin (v : AV) {op : BinOp} {x y : SArg} (hv : abin op (x.ev T) (y.ev T) = some v) (hw : awanted T g = some true) (hl : logOk log .z un = true)
    (h : WO (aops cf xf base r (log ++ [.z]) (T.upd d v) H) QO) : WO (aops cf xf base (⟨some d, .bin op x y, g, un⟩ :: r) log T H) QO :=
  wo_step (v := v) hw (by simp [aop, hv, rv]) hl h
theorem wo_cvi {x : SArg} {k k' : IntKind} {a : Int} (hx : x.ev T = .int k a) (hw : awanted T g = some true) (hl : logOk log .z un = true)
    (h : WO (aops cf xf base r (log ++ [.z]) (T.upd d (.int k' (k'.wrap a))) H) QO) : WO (aops cf xf base (⟨some d, .cvi k' x, g, un⟩ :: r) log T H) QO :=
  wo_step (v := .int k' (k'.wrap a)) hw (by simp [aop, hx, rv]) hl h
theorem wo_box {site : Nat} (v : AV) {x : SArg} (hx : x.ev T = v) (hs : storable v = true) (hw : awanted T g = some true) (hl : logOk log ⟨[], [base + site], false⟩ un = true)
    (h : WO (aops cf xf base r (log ++ [⟨[], [base + site], false⟩]) (T.upd d (.ptr (base + site) ((H (base + site)).gen + 1) 1 v.cells.length 0 0)) (H.newRow (base + site) v.cells.length [v])) QO) :
    WO (aops cf xf base (⟨some d, .box site x, g, un⟩ :: r) log T H) QO :=
  wo_step (v := .ptr (base + site) ((H (base + site)).gen + 1) 1 v.cells.length 0 0) hw (by simp [aop, hx, hs]) hl h
theorem wo_nilrow {site s : Nat} (hw : awanted T g = some true) (hl : logOk log ⟨[], [base + site], false⟩ un = true)
    (h : WO (aops cf xf base r (log ++ [⟨[], [base + site], false⟩]) (T.upd d (.slc (base + site) ((H (base + site)).gen + 1) 0 s 0 0 .none)) (H.newRow (base + site) s [])) QO) :
    WO (aops cf xf base (⟨some d, .nilrow site s, g, un⟩ :: r) log T H) QO :=
  wo_step (v := .slc (base + site) ((H (base + site)).gen + 1) 0 s 0 0 .none) hw (by simp [aop]) hl h
theorem wo_load (v : AV) {k : Nat} {agg : Bool} {x : SArg} {j g0 ver s i off : Nat} {es : List AV} {e : AV} (hx : x.ev T = .ptr j g0 ver s i off) (hr : H.row j g0 ver s = some es) (he : es[i]? = some e) (hk : off + k ≤ e.cells.length)
    (hv : (if agg then AV.agg ((e.cells.drop off).take k) else ((e.cells.drop off).headD .undef)) = v) (hw : awanted T g = some true) (hl : logOk log ⟨[j], [], false⟩ un = true)
    (h : WO (aops cf xf base r (log ++ [⟨[j], [], false⟩]) (T.upd d v) H) QO) : WO (aops cf xf base (⟨some d, .load k agg x, g, un⟩ :: r) log T H) QO :=
  wo_step (v := v) hw (by simp only [aop, hx, hr, he, if_pos hk, hv]) hl h
theorem wo_loadI (v : AV) {k : Nat} {agg tt : Bool} {x : SArg} {cs : List AV} (hx : x.ev T = .iptr tt cs) (hk : k ≤ cs.length)
    (hv : (if agg then AV.agg (cs.take k) else cs.headD .undef) = v) (hw : awanted T g = some true) (hl : logOk log .z un = true)
    (h : WO (aops cf xf base r (log ++ [.z]) (T.upd d v) H) QO) : WO (aops cf xf base (⟨some d, .load k agg x, g, un⟩ :: r) log T H) QO :=
  wo_step (v := v) hw (by simp only [aop, hx, if_pos hk, hv, rv]) hl h
theorem wo_store {k : Nat} {x y : SArg} {j g0 ver s i off : Nat} {es cs : List AV} {e v : AV} (hx : x.ev T = .ptr j g0 ver s i off) (hr : H.rowW j g0 ver s = some es) (he : es[i]? = some e) (hy : y.ev T = v) (hs : storable v = true)
    (hcs : v.cells = cs) (hk : cs.length = k) (hle : off + k ≤ e.cells.length) (hw : awanted T g = some true) (hl : logOk log ⟨[j], [j], false⟩ un = true)
    (h : WO (aops cf xf base r (log ++ [⟨[j], [j], false⟩]) T (H.setRow j s (es.set i (e.rewrap (e.cells.take off ++ cs ++ e.cells.drop (off + k)))))) QO) :
    WO (aops cf xf base (⟨none, .store k x y, g, un⟩ :: r) log T H) QO :=
  wo_step (v := .undef) hw (by subst hcs; simp only [aop, hx, hr, he, hy]; rw [if_pos ⟨hs, hk, hle⟩]) hl h
theorem wo_faddr {o : Nat} {x : SArg} {j g0 ver s i off : Nat} (hx : x.ev T = .ptr j g0 ver s i off) (hw : awanted T g = some true) (hl : logOk log .z un = true)
    (h : WO (aops cf xf base r (log ++ [.z]) (T.upd d (.ptr j g0 ver s i (off + o))) H) QO) : WO (aops cf xf base (⟨some d, .faddr o x, g, un⟩ :: r) log T H) QO :=
  wo_step (v := .ptr j g0 ver s i (off + o)) hw (by simp [aop, hx, rv]) hl h
theorem wo_extract (v : AV) {i : Nat} {x : SArg} {vs : List AV} (hx : x.ev T = .tup vs) (hv : vs[i]? = some v) (hw : awanted T g = some true) (hl : logOk log .z un = true)
    (h : WO (aops cf xf base r (log ++ [.z]) (T.upd d v) H) QO) : WO (aops cf xf base (⟨some d, .extract x i, g, un⟩ :: r) log T H) QO :=
  wo_step (v := v) hw (by simp [aop, hx, hv, rv]) hl h
theorem wo_extractW {v u : AV} {i : Nat} {x : SArg} {vs : List AV} (hx : x.ev T = .tup vs) (hv : vs[i]? = some u) (hu : u = v) (hw : awanted T g = some true) (hl : logOk log .z un = true)
    (h : WO (aops cf xf base r (log ++ [.z]) (T.upd d v) H) QO) : WO (aops cf xf base (⟨some d, .extract x i, g, un⟩ :: r) log T H) QO :=
  wo_extract v hx (by rw [hv, hu]) hw hl h
theorem wo_field (v : AV) {off k : Nat} {agg : Bool} {x : SArg} {cs : List AV} (hx : x.ev T = .agg cs) (hk : off + k ≤ cs.length) (hv : (if agg then AV.agg ((cs.drop off).take k) else ((cs.drop off).headD .undef)) = v)
    (hw : awanted T g = some true) (hl : logOk log .z un = true)
    (h : WO (aops cf xf base r (log ++ [.z]) (T.upd d v) H) QO) : WO (aops cf xf base (⟨some d, .field off k agg x, g, un⟩ :: r) log T H) QO :=
  wo_step (v := v) hw (by simp only [aop, hx, if_pos hk, hv, rv]) hl h
theorem wo_lenS {x : SArg} {j g0 ver s off len : Nat} {cap : Option Nat} (hx : x.ev T = .slc j g0 ver s off len cap) (hw : awanted T g = some true) (hl : logOk log .z un = true)
    (h : WO (aops cf xf base r (log ++ [.z]) (T.upd d (.int .i64 len)) H) QO) : WO (aops cf xf base (⟨some d, .len x, g, un⟩ :: r) log T H) QO :=
  wo_step (v := .int .i64 len) hw (by simp [aop, hx, rv]) hl h
theorem wo_build (v : AV) {z : List AV} {ps : List (Nat × Nat × SArg)} {cs : List AV} (hc : fillCells z (ps.map fun (o, k, x) => (o, k, x.ev T)) = some cs) (hv : AV.agg cs = v) (hw : awanted T g = some true) (hl : logOk log .z un = true)
    (h : WO (aops cf xf base r (log ++ [.z]) (T.upd d v) H) QO) : WO (aops cf xf base (⟨some d, .build z ps, g, un⟩ :: r) log T H) QO :=
  wo_step (v := v) hw (by simp only [aop, hc, Option.bind_eq_bind, Option.bind_some, rv, hv]) hl h
theorem wo_buildS {site s n : Nat} {z : AV} {ps : List (Nat × SArg)} {es : List AV} (hz : z.cells.length = s) (hc : fillElems s (List.replicate n z) (ps.map fun (i, x) => (i, x.ev T)) = some es) (hw : awanted T g = some true) (hl : logOk log ⟨[], [base + site], false⟩ un = true)
    (h : WO (aops cf xf base r (log ++ [⟨[], [base + site], false⟩]) (T.upd d (.slc (base + site) ((H (base + site)).gen + 1) n s 0 n .none)) (H.newRow (base + site) s es)) QO) : WO (aops cf xf base (⟨some d, .buildS site s n z ps, g, un⟩ :: r) log T H) QO :=
  wo_step (v := .slc (base + site) ((H (base + site)).gen + 1) n s 0 n .none) hw (by simp only [aop, hz, ne_eq, not_true_eq_false, if_false, hc]) hl h

theorem wo_add {x y : SArg} {a b : Int} (hx : x.ev T = .int .i64 a) (hy : y.ev T = .int .i64 b) (hf : -9223372036854775808 ≤ a + b ∧ a + b ≤ 9223372036854775807) (hw : awanted T g = some true) (hl : logOk log .z un = true)
    (h : WO (aops cf xf base r (log ++ [.z]) (T.upd d (.int .i64 (a + b))) H) QO) : WO (aops cf xf base (⟨some d, .bin .add x y, g, un⟩ :: r) log T H) QO :=
  wo_step (v := .int .i64 (a + b)) hw (by simp [aop, hx, hy, rv, abin, IntWalk.i64_in _ hf]) hl h
theorem wo_sub {x y : SArg} {a b : Int} (hx : x.ev T = .int .i64 a) (hy : y.ev T = .int .i64 b) (hf : -9223372036854775808 ≤ a - b ∧ a - b ≤ 9223372036854775807) (hw : awanted T g = some true) (hl : logOk log .z un = true)
    (h : WO (aops cf xf base r (log ++ [.z]) (T.upd d (.int .i64 (a - b))) H) QO) : WO (aops cf xf base (⟨some d, .bin .sub x y, g, un⟩ :: r) log T H) QO :=
  wo_step (v := .int .i64 (a - b)) hw (by simp [aop, hx, hy, rv, abin, IntWalk.i64_in _ hf]) hl h
theorem wo_mul {x y : SArg} {a b : Int} (hx : x.ev T = .int .i64 a) (hy : y.ev T = .int .i64 b) (hf : -9223372036854775808 ≤ a * b ∧ a * b ≤ 9223372036854775807) (hw : awanted T g = some true) (hl : logOk log .z un = true)
    (h : WO (aops cf xf base r (log ++ [.z]) (T.upd d (.int .i64 (a * b))) H) QO) : WO (aops cf xf base (⟨some d, .bin .mul x y, g, un⟩ :: r) log T H) QO :=
  wo_step (v := .int .i64 (a * b)) hw (by simp [aop, hx, hy, rv, abin, IntWalk.i64_in _ hf]) hl h
theorem wo_to64 {x : SArg} {k : IntKind} {a : Int} (hx : x.ev T = .int k a) (hf : -9223372036854775808 ≤ a ∧ a ≤ 9223372036854775807) (hw : awanted T g = some true) (hl : logOk log .z un = true)
    (h : WO (aops cf xf base r (log ++ [.z]) (T.upd d (.int .i64 a)) H) QO) : WO (aops cf xf base (⟨some d, .cvi .i64 x, g, un⟩ :: r) log T H) QO :=
  wo_step (v := .int .i64 a) hw (by simp [aop, hx, rv, IntWalk.i64_in _ hf]) hl h
theorem wo_tou64 {x : SArg} {k : IntKind} {a : Int} (hx : x.ev T = .int k a) (hf : 0 ≤ a ∧ a ≤ 18446744073709551615) (hw : awanted T g = some true) (hl : logOk log .z un = true)
    (h : WO (aops cf xf base r (log ++ [.z]) (T.upd d (.int .u64 a)) H) QO) : WO (aops cf xf base (⟨some d, .cvi .u64 x, g, un⟩ :: r) log T H) QO :=
  wo_step (v := .int .u64 a) hw (by simp [aop, hx, rv, IntWalk.u64_in _ hf]) hl h

theorem wo_cvu {x : SArg} {k : IntKind} {a : Int} (hx : x.ev T = .int k a) (hw : awanted T g = some true) (hl : logOk log .z un = true)
    (h : WO (aops cf xf base r (log ++ [.z]) (T.upd d (.int .u64 (a % 18446744073709551616))) H) QO) : WO (aops cf xf base (⟨some d, .cvi .u64 x, g, un⟩ :: r) log T H) QO :=
  wo_step (v := .int .u64 (a % 18446744073709551616)) hw (by simp [aop, hx, rv, IntKind.wrap, IntKind.bits, IntKind.signed]) hl h
theorem wo_rem {x y : SArg} {k : IntKind} {a b : Int} (hx : x.ev T = .int k a) (hy : y.ev T = .int k b) (ha : 0 ≤ a) (hb : 0 < b) (hw : awanted T g = some true) (hl : logOk log .z un = true)
    (h : WO (aops cf xf base r (log ++ [.z]) (T.upd d (.int k (a % b))) H) QO) : WO (aops cf xf base (⟨some d, .bin .rem x y, g, un⟩ :: r) log T H) QO :=
  wo_step (v := .int k (a % b)) hw (by
    have : b ≠ 0 := by omega
    simp [aop, hx, hy, rv, abin, this, Int.tmod_eq_emod_of_nonneg ha]) hl h
/-- Many zero bytes. -/
theorem wo_mks {site : Nat} {x y : SArg} {k k' : IntKind} {n : Int} (hx : x.ev T = .int k n) (hy : y.ev T = .int k' n) (h0 : 0 ≤ n) (h1 : n ≤ 68719476736) (hw : awanted T g = some true) (hl : logOk log ⟨[], [base + site], false⟩ un = true)
    (h : WO (aops cf xf base r (log ++ [⟨[], [base + site], false⟩]) (T.upd d (.slc (base + site) ((H (base + site)).gen + 1) n.toNat 1 0 n.toNat .none)) (H.newRow (base + site) 1 (BL (List.replicate n.toNat 0)))) QO) :
    WO (aops cf xf base (⟨some d, .mks site 1 (.int .u8 0) x y, g, un⟩ :: r) log T H) QO :=
  wo_step (v := .slc (base + site) ((H (base + site)).gen + 1) n.toNat 1 0 n.toNat .none) (H' := H.newRow (base + site) 1 (BL (List.replicate n.toNat 0))) hw (by
    simp only [aop, hx, hy, natOf, if_pos h0, Option.bind_eq_bind, Option.bind_some]
    rw [if_pos ⟨Nat.le_refl _, by simp [roomy]; omega, rfl⟩, BL_replicate]) hl h

theorem wo_xor32 {x y : SArg} {a b : Nat} (hx : x.ev T = .int .u32 a) (hy : y.ev T = .int .u32 b) (ha : a < 4294967296) (hb : b < 4294967296) (hw : awanted T g = some true) (hl : logOk log .z un = true)
    (h : WO (aops cf xf base r (log ++ [.z]) (T.upd d (.int .u32 (a ^^^ b : Nat))) H) QO) : WO (aops cf xf base (⟨some d, .bin .xor x y, g, un⟩ :: r) log T H) QO :=
  wo_step (v := .int .u32 (a ^^^ b : Nat)) hw (by
    have h1 : (BitVec.ofInt 32 (a : Int)).toNat = a := by simp; omega
    have h2 : (BitVec.ofInt 32 (b : Int)).toNat = b := by simp; omega
    have h3 : a ^^^ b < 2 ^ 32 := Nat.xor_lt_two_pow (by omega) (by omega)
    have h4 : (BitVec.ofInt IntKind.u32.bits (a : Int) ^^^ BitVec.ofInt IntKind.u32.bits (b : Int)).toNat = a ^^^ b := by
      show (BitVec.ofInt 32 (a : Int) ^^^ BitVec.ofInt 32 (b : Int)).toNat = a ^^^ b
      rw [BitVec.toNat_xor, h1, h2]
    simp only [aop, hx, hy, rv, abin, ne_eq, not_true_eq_false, if_false, h4, Option.bind_some]
    rw [IntWalk.u32_in _ (by constructor <;> omega)]) hl h
theorem wo_xorC {x : SArg} {a : Nat} {c : Int} (hx : x.ev T = .int .u32 a) (ha : a < 4294967296) (hc : 0 ≤ c ∧ c < 4294967296) (hw : awanted T g = some true) (hl : logOk log .z un = true)
    (h : WO (aops cf xf base r (log ++ [.z]) (T.upd d (.int .u32 (a ^^^ c.toNat : Nat))) H) QO) : WO (aops cf xf base (⟨some d, .bin .xor x (.c (.int .u32 c)), g, un⟩ :: r) log T H) QO :=
  wo_xor32 (b := c.toNat) hx (by rw [ev_c]; congr 1; omega) ha (by omega) hw hl h
theorem wo_not32 {x : SArg} {a : Nat} (hx : x.ev T = .int .u32 a) (ha : a < 4294967296) (hw : awanted T g = some true) (hl : logOk log .z un = true)
    (h : WO (aops cf xf base r (log ++ [.z]) (T.upd d (.int .u32 (4294967295 - a : Nat))) H) QO) : WO (aops cf xf base (⟨some d, .un .xor x, g, un⟩ :: r) log T H) QO :=
  wo_step (v := .int .u32 (4294967295 - a : Nat)) hw (by
    have h4 : (BitVec.ofInt IntKind.u32.bits (if IntKind.u32.signed then -1 else IntKind.u32.max) ^^^ BitVec.ofInt IntKind.u32.bits (a : Int)).toNat = 4294967295 - a := by
      show (BitVec.allOnes 32 ^^^ BitVec.ofInt 32 (a : Int)).toNat = 4294967295 - a
      rw [BitVec.allOnes_xor, BitVec.toNat_not]
      have h1 : (BitVec.ofInt 32 (a : Int)).toNat = a := by simp; omega
      rw [h1]
    simp only [aop, hx, rv, aun, h4, Option.bind_some]
    rw [IntWalk.u32_in _ (by constructor <;> omega)]) hl h
theorem wo_and1 {x : SArg} {a : Nat} (hx : x.ev T = .int .u32 a) (ha : a < 4294967296) (hw : awanted T g = some true) (hl : logOk log .z un = true)
    (h : WO (aops cf xf base r (log ++ [.z]) (T.upd d (.int .u32 (a % 2 : Nat))) H) QO) : WO (aops cf xf base (⟨some d, .bin .and x (.c (.int .u32 1)), g, un⟩ :: r) log T H) QO :=
  wo_step (v := .int .u32 (a % 2 : Nat)) hw (by
    have h4 : (BitVec.ofInt IntKind.u32.bits (a : Int) &&& BitVec.ofInt IntKind.u32.bits 1).toNat = a % 2 := by
      show (BitVec.ofInt 32 (a : Int) &&& BitVec.ofInt 32 1).toNat = a % 2
      have h1 : (BitVec.ofInt 32 (a : Int)).toNat = a := by simp; omega
      rw [BitVec.toNat_and, h1]
      exact Nat.and_one_is_mod a
    simp only [aop, hx, rv, abin, ev_c, ne_eq, not_true_eq_false, if_false, h4, Option.bind_some]
    rw [IntWalk.u32_in _ (by constructor <;> omega)]) hl h
theorem wo_shr1 {x : SArg} {k : IntKind} {a : Nat} (hx : x.ev T = .int .u32 a) (ha : a < 4294967296) (hw : awanted T g = some true) (hl : logOk log .z un = true)
    (h : WO (aops cf xf base r (log ++ [.z]) (T.upd d (.int .u32 (a / 2 : Nat))) H) QO) : WO (aops cf xf base (⟨some d, .bin .shr x (.c (.int k 1)), g, un⟩ :: r) log T H) QO :=
  wo_step (v := .int .u32 (a / 2 : Nat)) hw (by
    have h4 : (a : Int).fdiv (2 ^ min (Int.toNat 1) IntKind.u32.bits) = ((a / 2 : Nat) : Int) := by
      show (a : Int).fdiv 2 = _
      rw [Int.fdiv_eq_ediv_of_nonneg _ (by omega)]; omega
    simp only [aop, hx, rv, abin, ev_c, Option.bind_some]
    rw [if_neg (by omega)]
    rw [h4]; rfl) hl h
theorem wo_cv32 {x : SArg} {k : IntKind} {a : Nat} (hx : x.ev T = .int k a) (ha : a < 4294967296) (hw : awanted T g = some true) (hl : logOk log .z un = true)
    (h : WO (aops cf xf base r (log ++ [.z]) (T.upd d (.int .u32 a)) H) QO) : WO (aops cf xf base (⟨some d, .cvi .u32 x, g, un⟩ :: r) log T H) QO :=
  wo_step (v := .int .u32 a) hw (by simp [aop, hx, rv, IntWalk.u32_in (a : Int) (by constructor <;> omega)]) hl h
end


-- Which kind of operation it is.
section
variable {cf : CallF} {xf : ExtF} {base : Nat} {T : Tmps} {H : Heap} {QO : Tmps → Heap → Prop} {log : List FP} {g : Option (Nat × Bool)} {un : List Nat} {r : List SOper} {d : Option Nat}
theorem is_mv {x : SArg} (h : WO (aops cf xf base (⟨d, .mv x, g, un⟩ :: r) log T H) QO) : WO (aops cf xf base (⟨d, .mv x, g, un⟩ :: r) log T H) QO := h
theorem is_bin {o : BinOp} {x y : SArg} (h : WO (aops cf xf base (⟨d, .bin o x y, g, un⟩ :: r) log T H) QO) : WO (aops cf xf base (⟨d, .bin o x y, g, un⟩ :: r) log T H) QO := h
theorem is_pick {x y z : SArg} (h : WO (aops cf xf base (⟨d, .pick x y z, g, un⟩ :: r) log T H) QO) : WO (aops cf xf base (⟨d, .pick x y z, g, un⟩ :: r) log T H) QO := h
theorem is_un {o : UnOp} {x : SArg} (h : WO (aops cf xf base (⟨d, .un o x, g, un⟩ :: r) log T H) QO) : WO (aops cf xf base (⟨d, .un o x, g, un⟩ :: r) log T H) QO := h
theorem is_eqb {n : Bool} {x y : SArg} (h : WO (aops cf xf base (⟨d, .eqb n x y, g, un⟩ :: r) log T H) QO) : WO (aops cf xf base (⟨d, .eqb n x y, g, un⟩ :: r) log T H) QO := h
theorem is_len {x : SArg} (h : WO (aops cf xf base (⟨d, .len x, g, un⟩ :: r) log T H) QO) : WO (aops cf xf base (⟨d, .len x, g, un⟩ :: r) log T H) QO := h
theorem is_cvi {k : IntKind} {x : SArg} (h : WO (aops cf xf base (⟨d, .cvi k x, g, un⟩ :: r) log T H) QO) : WO (aops cf xf base (⟨d, .cvi k x, g, un⟩ :: r) log T H) QO := h
theorem is_iaddr {s : Nat} {x y : SArg} (h : WO (aops cf xf base (⟨d, .iaddr s x y, g, un⟩ :: r) log T H) QO) : WO (aops cf xf base (⟨d, .iaddr s x y, g, un⟩ :: r) log T H) QO := h
theorem is_faddr {o : Nat} {x : SArg} (h : WO (aops cf xf base (⟨d, .faddr o x, g, un⟩ :: r) log T H) QO) : WO (aops cf xf base (⟨d, .faddr o x, g, un⟩ :: r) log T H) QO := h
theorem is_load {k : Nat} {a : Bool} {x : SArg} (h : WO (aops cf xf base (⟨d, .load k a x, g, un⟩ :: r) log T H) QO) : WO (aops cf xf base (⟨d, .load k a x, g, un⟩ :: r) log T H) QO := h
theorem is_store {k : Nat} {x y : SArg} (h : WO (aops cf xf base (⟨d, .store k x y, g, un⟩ :: r) log T H) QO) : WO (aops cf xf base (⟨d, .store k x y, g, un⟩ :: r) log T H) QO := h
theorem is_box {k : Nat} {x : SArg} (h : WO (aops cf xf base (⟨d, .box k x, g, un⟩ :: r) log T H) QO) : WO (aops cf xf base (⟨d, .box k x, g, un⟩ :: r) log T H) QO := h
theorem is_extract {x : SArg} {i : Nat} (h : WO (aops cf xf base (⟨d, .extract x i, g, un⟩ :: r) log T H) QO) : WO (aops cf xf base (⟨d, .extract x i, g, un⟩ :: r) log T H) QO := h
theorem is_field {o k : Nat} {a : Bool} {x : SArg} (h : WO (aops cf xf base (⟨d, .field o k a x, g, un⟩ :: r) log T H) QO) : WO (aops cf xf base (⟨d, .field o k a x, g, un⟩ :: r) log T H) QO := h
theorem is_build {z : List AV} {ps : List (Nat × Nat × SArg)} (h : WO (aops cf xf base (⟨d, .build z ps, g, un⟩ :: r) log T H) QO) : WO (aops cf xf base (⟨d, .build z ps, g, un⟩ :: r) log T H) QO := h
theorem is_buildS {site s n : Nat} {z : AV} {ps : List (Nat × SArg)} (h : WO (aops cf xf base (⟨d, .buildS site s n z ps, g, un⟩ :: r) log T H) QO) : WO (aops cf xf base (⟨d, .buildS site s n z ps, g, un⟩ :: r) log T H) QO := h
theorem is_nilrow {site s : Nat} (h : WO (aops cf xf base (⟨d, .nilrow site s, g, un⟩ :: r) log T H) QO) : WO (aops cf xf base (⟨d, .nilrow site s, g, un⟩ :: r) log T H) QO := h
theorem is_call {m : Mode} {f : Nat} {as : List SArg} (h : WO (aops cf xf base (⟨d, .call m f as, g, un⟩ :: r) log T H) QO) : WO (aops cf xf base (⟨d, .call m f as, g, un⟩ :: r) log T H) QO := h
end

/-- What a state holds. -/
def Has (T : Tmps) : List (Nat × AV) → Prop
  | [] => True
  | (a, v) :: r => T a = v ∧ Has T r
def over (T : Tmps) : List (Nat × AV) → Tmps
  | [] => T
  | (a, v) :: r => (over T r).upd a v
theorem Has.eq {T : Tmps} : ∀ {ps : List (Nat × AV)}, Has T ps → T = over T ps
  | [], _ => rfl
  | (a, v) :: r, ⟨h1, h2⟩ => by
    have h3 := h2.eq
    funext i
    simp only [over, Tmps.upd_eq]
    by_cases h : i = a
    · rw [if_pos h, h]; exact h1
    · rw [if_neg h, ← h3]
end Go.AI
