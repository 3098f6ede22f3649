/- Steps on rows of bytes that are the call's own. -/
import Derived.Test.YtoanjhiojpgioaaMC
import Derived.Laws.Strings
set_option linter.unusedSimpArgs false
set_option linter.unusedVariables false
namespace Go.AI

theorem W.out {r : XR} {Q : Ex → Tmps → Heap → Prop} (h : W r Q) : ∃ ex T H, r = some (ex, T, H) ∧ Q ex T H := h

theorem Heap.upd_same (H : Heap) (j : Nat) (b : Blk) : (H.upd j b) j = b := by simp [Heap.upd_eq]
theorem Heap.upd_upd (H : Heap) (j : Nat) (a b : Blk) : (H.upd j a).upd j b = H.upd j b := by
  funext i; simp only [Heap.upd_eq]; by_cases h : i = j <;> simp [h]
theorem Heap.upd_self {H : Heap} {j : Nat} {b : Blk} (h : H j = b) : H.upd j b = H := by
  funext i; simp only [Heap.upd_eq]; by_cases hi : i = j <;> simp [hi, h]
theorem Heap.upd_other {H : Heap} {i j : Nat} {b : Blk} (h : i ≠ j) : (H.upd j b) i = H i := by simp [Heap.upd_eq, h]
theorem Heap.newRow_other {H : Heap} {i j s : Nat} {es : List AV} (h : i ≠ j) : (H.newRow j s es) i = H i := Heap.upd_other h

section
variable {cf : CallF} {xf : ExtF} {base fuel : Nat} {T : Tmps} {H : Heap} {Q : Ex → Tmps → Heap → Prop} {QO : Tmps → Heap → Prop} {log : List FP}
  {op : SOp} {g : Option (Nat × Bool)} {un : List Nat} {r : List SOper} {d : Nat} {H' : Heap} {fp : FP} {t f : Bool} {l : List UInt8}

theorem isNil_BL {l : List UInt8} (h : l ≠ []) : isNil (BL l) = false := by
  cases l with
  | nil => exact absurd rfl h
  | cons c l => rfl
theorem isNil_rep {n : Nat} {v : AV} (h : 0 < n) : isNil (List.replicate n v) = false := by
  cases n with
  | zero => omega
  | succ n => rfl

theorem rowW_of {H : Heap} {j g ver s : Nat} {es : List AV} (h : H j = ⟨g, false, .row s es⟩) (hl : es.length = ver) : H.rowW j g ver s = some es := by
  unfold Heap.rowW
  rw [h]
  simp [hl]

theorem setRow_of {H : Heap} {j g s s' : Nat} {ro : Bool} {es es' : List AV} (h : H j = ⟨g, ro, .row s es⟩) : H.setRow j s' es' = H.upd j ⟨g, false, .row s' es'⟩ := by
  unfold Heap.setRow
  rw [h]

/-- Bytes put behind a row that is wholly the call's. -/
theorem appendTo_grow {H : Heap} {site j gn v : Nat} {ys : List UInt8} (hr : H j = ⟨gn, false, .row 1 (BL l)⟩) (hv : l.length = v) (hy : ys ≠ []) (hm : v + ys.length ≤ 68719476736) :
    appendTo H site 1 (.slc j gn v 1 0 v .none) (BL ys) = some (.slc j gn (v + ys.length) 1 0 (v + ys.length) .none, H.upd j ⟨gn, false, .row 1 (BL (l ++ ys))⟩, ⟨[j], [j], false⟩) := by
  have hlen : 0 < ys.length := List.length_pos_iff.2 hy
  simp only [appendTo, isNil_BL hy, Bool.false_eq_true, if_false, rowW_of hr (by simpa using hv)]
  rw [if_pos ⟨trivial, by omega, by simpa [roomy] using hm⟩]
  rw [if_neg (by simp; omega)]
  simp only [BL_length]
  rw [if_pos ⟨trivial, trivial⟩, setRow_of hr, BL_append]

theorem wo_appZ {site gn j v : Nat} {x y : SArg} {n : Int} (hx : x.ev T = .slc j gn v 1 0 v .none) (hy : y.ev T = .int .i64 n) (hr : H j = ⟨gn, false, .row 1 (BL l)⟩) (hv : l.length = v) (h0 : 0 < n) (hm : (v : Int) + n ≤ 68719476736)
    (hw : awanted T g = some true) (hl : logOk log ⟨[j], [j], false⟩ un = true)
    (h : WO (aops cf xf base r (log ++ [⟨[j], [j], false⟩]) (T.upd d (.slc j gn (v + n.toNat) 1 0 (v + n.toNat) .none)) (H.upd j ⟨gn, false, .row 1 (BL (l ++ List.replicate n.toNat 0))⟩)) QO) :
    WO (aops cf xf base (⟨some d, .appZ site 1 (.int .u8 0) x y, g, un⟩ :: r) log T H) QO :=
  wo_step (v := .slc j gn (v + n.toNat) 1 0 (v + n.toNat) .none) (H' := H.upd j ⟨gn, false, .row 1 (BL (l ++ List.replicate n.toNat 0))⟩) (fp := ⟨[j], [j], false⟩) hw (by
    have h00 : 0 ≤ n := by omega
    simp only [aop, hx, hy, natOf, if_pos h00, Option.bind_eq_bind, Option.bind_some]
    rw [if_pos ⟨by simp [roomy]; omega, rfl, rfl⟩, BL_replicate, appendTo_grow hr hv (by intro hh; have := congrArg List.length hh; simp at this; omega) (by simp; omega)]
    simp) hl h

theorem wo_appZ0 {site s : Nat} {x y : SArg} {n : Int} (hx : x.ev T = .islc t true s []) (hy : y.ev T = .int .i64 n) (h0 : 0 < n) (hm : n ≤ 68719476736)
    (hw : awanted T g = some true) (hl : logOk log ⟨[], [base + site], false⟩ un = true)
    (h : WO (aops cf xf base r (log ++ [⟨[], [base + site], false⟩]) (T.upd d (.slc (base + site) ((H (base + site)).gen + 1) n.toNat 1 0 n.toNat .none)) (H.newRow (base + site) 1 (BL (List.replicate n.toNat 0)))) QO) :
    WO (aops cf xf base (⟨some d, .appZ site 1 (.int .u8 0) x y, g, un⟩ :: r) log T H) QO :=
  wo_step (v := .slc (base + site) ((H (base + site)).gen + 1) n.toNat 1 0 n.toNat .none) (H' := H.newRow (base + site) 1 (BL (List.replicate n.toNat 0))) (fp := ⟨[], [base + site], false⟩) hw (by
    have h00 : 0 ≤ n := by omega
    simp only [aop, hx, hy, natOf, if_pos h00, Option.bind_eq_bind, Option.bind_some]
    rw [if_pos ⟨by simp [roomy]; omega, rfl, rfl⟩, BL_replicate]
    simp only [appendTo, isNil_BL (l := List.replicate n.toNat 0) (by intro hh; have := congrArg List.length hh; simp at this; omega), Bool.false_eq_true, if_false]
    rw [if_pos ⟨trivial, rfl, by simp [roomy]; omega⟩]
    simp) hl h

/-- Bytes put behind a row; of none nothing is turned. -/
theorem wo_app {site gn j v s : Nat} {x y : SArg} {m : List UInt8} (hx : x.ev T = .slc j gn v 1 0 v .none) (hy : y.ev T = .islc t f s (BL m)) (hs : s = 1 ∨ m = []) (hr : H j = ⟨gn, false, .row 1 (BL l)⟩) (hv : l.length = v) (hm : v + m.length ≤ 68719476736)
    (hw : awanted T g = some true) (hl : un = [])
    (h : ∀ fp, WO (aops cf xf base r (log ++ [fp]) (T.upd d (.slc j gn (v + m.length) 1 0 (v + m.length) .none)) (H.upd j ⟨gn, false, .row 1 (BL (l ++ m))⟩)) QO) :
    WO (aops cf xf base (⟨some d, .app site 1 x y, g, un⟩ :: r) log T H) QO := by
  subst hl
  by_cases hn : m = []
  · subst hn
    have h2 := h .z
    simp only [List.length_nil, Nat.add_zero, List.append_nil] at h2
    rw [Heap.upd_self hr] at h2
    exact wo_step (v := .slc j gn v 1 0 v .none) (H' := H) (fp := .z) hw (by simp [aop, hx, hy, aappend, elemsOf, isNil, absorb, norefsL, appendTo, FP.z]) rfl h2
  · have hs1 : s = 1 := by rcases hs with h | h; exact h; exact absurd h hn
    subst hs1
    refine wo_step (v := .slc j gn (v + m.length) 1 0 (v + m.length) .none) (H' := H.upd j ⟨gn, false, .row 1 (BL (l ++ m))⟩) (fp := ⟨[j], [j], false⟩) hw ?_ rfl (h _)
    simp only [aop, hx, hy, aappend, elemsOf, absorb, BL_norefs, if_true, or_true, Option.bind_eq_bind, Option.bind_some]
    rw [appendTo_grow hr hv hn hm]
    rfl

/-- Bytes put behind none. -/
theorem wo_app0 {site s : Nat} {t' : Bool} {x y : SArg} (hx : x.ev T = .islc t true s []) (hy : y.ev T = .islc t' f 1 (BL l)) (hn : l ≠ []) (hm : l.length ≤ 68719476736)
    (hw : awanted T g = some true) (hl : logOk log ⟨[], [base + site], false⟩ un = true)
    (h : WO (aops cf xf base r (log ++ [⟨[], [base + site], false⟩]) (T.upd d (.slc (base + site) ((H (base + site)).gen + 1) l.length 1 0 l.length .none)) (H.newRow (base + site) 1 (BL l))) QO) :
    WO (aops cf xf base (⟨some d, .app site 1 x y, g, un⟩ :: r) log T H) QO :=
  wo_step (v := .slc (base + site) ((H (base + site)).gen + 1) l.length 1 0 l.length .none) (H' := H.newRow (base + site) 1 (BL l)) (fp := ⟨[], [base + site], false⟩) hw (by
    simp only [aop, hx, hy, aappend, elemsOf, absorb, BL_norefs, if_true, or_true, Option.bind_eq_bind, Option.bind_some]
    simp only [appendTo, isNil_BL hn, Bool.false_eq_true, if_false]
    rw [if_pos ⟨trivial, rfl, by simpa [roomy] using hm⟩]
    simp) hl h

theorem wo_eqnilC {s : Nat} {e : AV} {es : List AV} {x : SArg} (hx : x.ev T = .islc t f s (e :: es)) (hw : awanted T g = some true) (hl : logOk log .z un = true)
    (h : WO (aops cf xf base r (log ++ [.z]) (T.upd d (.bool false)) H) QO) : WO (aops cf xf base (⟨some d, .eqnil false x, g, un⟩ :: r) log T H) QO :=
  wo_step (v := .bool false) (fp := .z) (H' := H) hw (by simp [aop, hx, nilOf, rv]) hl h
theorem wo_empty {s : Nat} (hw : awanted T g = some true) (hl : logOk log .z un = true)
    (h : WO (aops cf xf base r (log ++ [.z]) (T.upd d (.islc false true s [])) H) QO) : WO (aops cf xf base (⟨some d, .empty s, g, un⟩ :: r) log T H) QO :=
  wo_step (v := .islc false true s []) (fp := .z) (H' := H) hw rfl hl h
theorem acall_of {B : Prog} {gf : CallF} {k f : Nat} {fn : SFun} {args : List AV} {ex : Ex} {T' : Tmps} (hB : B f = some fn) (hl : args.length = fn.nparams) (h1 : aexec (acall B xf gf k) xf base k fn.code (tmps0 args) H = some (ex, T', H')) (hex : ex = .normal ∨ ex = .ret) :
    acall B xf gf (k + 1) f base args H = (aresults T' H' fn.results).map fun v => (v, H') := by
  rcases hex with rfl | rfl <;> simp only [acall, hB, hl, if_true, h1]

/-- One cell put behind a row of cells. -/
theorem wo_appI {site gn j v j2 g2 : Nat} {ro : Bool} {x y : SArg} {es : List AV} {e : AV} {cap2 : Option Nat} (hx : x.ev T = .slc j gn v 1 0 v .none) (hy : y.ev T = .slc j2 g2 1 1 0 1 cap2) (h2 : H j2 = ⟨g2, ro, .row 1 [e]⟩) (hr : H j = ⟨gn, false, .row 1 es⟩) (hv : es.length = v) (he : e.norefs = true) (hm : v + 1 ≤ 68719476736)
    (hw : awanted T g = some true) (hl : un = [])
    (h : ∀ fp, WO (aops cf xf base r (log ++ [fp]) (T.upd d (.slc j gn (v + 1) 1 0 (v + 1) .none)) (H.upd j ⟨gn, false, .row 1 (es ++ [e])⟩)) QO) :
    WO (aops cf xf base (⟨some d, .app site 1 x y, g, un⟩ :: r) log T H) QO := by
  subst hl
  refine wo_step (v := .slc j gn (v + 1) 1 0 (v + 1) .none) (H' := H.upd j ⟨gn, false, .row 1 (es ++ [e])⟩) (fp := ⟨[j2] ++ [] ++ [j], [] ++ [j], false⟩) hw ?_ rfl (h _)
  have e1 : elemsOf H 1 (.slc j2 g2 1 1 0 1 cap2) = some ([e], [j2]) := by
    simp [elemsOf, row_of (ver := 1) h2 rfl]
  have e2 : absorb H [e] = some ([e], H, []) := by simp [absorb, norefsL, he]
  simp only [aop, hx, hy, aappend, e1, e2, Option.bind_eq_bind, Option.bind_some]
  simp only [appendTo, isNil, Bool.false_eq_true, if_false, rowW_of hr hv]
  rw [if_pos ⟨trivial, by omega, by simpa [roomy] using hm⟩]
  rw [if_neg (by simp)]
  simp only [Option.bind_some, List.length_cons, List.length_nil, Nat.zero_add]
  rw [if_pos ⟨trivial, trivial⟩, setRow_of hr]
  rfl

theorem wo_atR {j gn v s off len : Nat} {ro : Bool} {cap : Option Nat} {x i : SArg} {k : IntKind} {n : Int} {es : List AV} (hx : x.ev T = .slc j gn v s off len cap) (hi : i.ev T = .int k n) (hr : H j = ⟨gn, ro, .row s es⟩) (hv : es.length = v)
    (h0 : 0 ≤ n) (h1 : n < len) (h2 : off + len ≤ v) (hw : awanted T g = some true) (hl : logOk log ⟨[j], [], false⟩ un = true)
    (h : WO (aops cf xf base r (log ++ [⟨[j], [], false⟩]) (T.upd d (.ptr j gn v s (off + n.toNat) 0)) H) QO) : WO (aops cf xf base (⟨some d, .iaddr s x i, g, un⟩ :: r) log T H) QO :=
  wo_step (v := .ptr j gn v s (off + n.toNat) 0) (fp := ⟨[j], [], false⟩) hw (by
    simp only [aop, hx, hi, natOf, if_pos h0, Option.bind_eq_bind, Option.bind_some, row_of hr hv]
    rw [if_pos ⟨trivial, by omega, h2⟩]) hl h

theorem wo_lenG {s : Nat} {x : SArg} {es : List AV} {n : Nat} (hx : x.ev T = .islc t f s es) (hn : es.length = n) (hw : awanted T g = some true) (hl : logOk log .z un = true)
    (h : WO (aops cf xf base r (log ++ [.z]) (T.upd d (.int .i64 n)) H) QO) : WO (aops cf xf base (⟨some d, .len x, g, un⟩ :: r) log T H) QO :=
  wo_step (v := .int .i64 n) hw (by subst hn; simp [aop, hx, rv]) hl h
/-- Of numbers that came in. -/
theorem wo_atG {es : List AV} {e : AV} {s : Nat} {x i : SArg} {k : IntKind} {n : Int} (hx : x.ev T = .islc t f s es) (hi : i.ev T = .int k n) (h0 : 0 ≤ n) (he : es[n.toNat]? = some e) (hw : awanted T g = some true) (hl : logOk log .z un = true)
    (h : WO (aops cf xf base r (log ++ [.z]) (T.upd d (.iptr t e.cells)) H) QO) : WO (aops cf xf base (⟨some d, .iaddr s x i, g, un⟩ :: r) log T H) QO :=
  wo_step (v := .iptr t e.cells) hw (by simp [aop, hx, hi, rv, natOf, h0, he]) hl h

theorem wo_storeB {j gn v i : Nat} {x y : SArg} {w : Int} {c : UInt8} (hx : x.ev T = .ptr j gn v 1 i 0) (hy : y.ev T = .int .u8 w) (hc : w = c.toNat) (hr : H j = ⟨gn, false, .row 1 (BL l)⟩) (hv : l.length = v) (hi : i < v)
    (hw : awanted T g = some true) (hl : logOk log ⟨[j], [j], false⟩ un = true)
    (h : WO (aops cf xf base r (log ++ [⟨[j], [j], false⟩]) T (H.upd j ⟨gn, false, .row 1 (BL (l.set i c))⟩)) QO) :
    WO (aops cf xf base (⟨none, .store 1 x y, g, un⟩ :: r) log T H) QO :=
  wo_step (v := .undef) (H' := H.upd j ⟨gn, false, .row 1 (BL (l.set i c))⟩) (fp := ⟨[j], [j], false⟩) hw (by
    subst hc hv
    have he : (BL l)[i]? = some (u8 l[i]) := by rw [BL_get]; simp [hi]
    simp only [aop, hx, hy, rowW_of hr (BL_length l), he]
    rw [if_pos ⟨rfl, rfl, by simp [u8, AV.cells]⟩, setRow_of hr]
    have : (u8 l[i]).rewrap (List.take 0 (u8 l[i]).cells ++ (AV.int IntKind.u8 c.toNat).cells ++ List.drop (0 + 1) (u8 l[i]).cells) = u8 c := rfl
    rw [this, BL_set]) hl h

/-- A cell of a row. -/
theorem wo_loadE {j gn v i s : Nat} {ro : Bool} {x : SArg} {es : List AV} {e : AV} (hx : x.ev T = .ptr j gn v s i 0) (hr : H j = ⟨gn, ro, .row s es⟩) (hv : es.length = v) (he : es[i]? = some e) (hc : e.cells = [e])
    (hw : awanted T g = some true) (hl : logOk log ⟨[j], [], false⟩ un = true)
    (h : WO (aops cf xf base r (log ++ [⟨[j], [], false⟩]) (T.upd d e) H) QO) : WO (aops cf xf base (⟨some d, .load 1 false x, g, un⟩ :: r) log T H) QO :=
  wo_step (v := e) (fp := ⟨[j], [], false⟩) hw (by simp [aop, hx, row_of hr hv, he, hc]) hl h

theorem wo_shr {x y : SArg} {k k' : IntKind} {a b : Int} (hx : x.ev T = .int k a) (hy : y.ev T = .int k' b) (h0 : 0 ≤ b) (h1 : b.toNat ≤ k.bits) (hw : awanted T g = some true) (hl : logOk log .z un = true)
    (h : WO (aops cf xf base r (log ++ [.z]) (T.upd d (.int k (a / 2 ^ b.toNat))) H) QO) : WO (aops cf xf base (⟨some d, .bin .shr x y, g, un⟩ :: r) log T H) QO :=
  wo_step (v := .int k (a / 2 ^ b.toNat)) hw (by
    have : ¬ b < 0 := by omega
    have h2 : (0 : Int) ≤ 2 ^ b.toNat := Int.pow_nonneg (by decide)
    simp [aop, hx, hy, rv, abin, this, Nat.min_eq_left h1, Int.fdiv_eq_ediv_of_nonneg _ h2]) hl h
theorem wo_cvu8 {x : SArg} {k : IntKind} {a : Int} (hx : x.ev T = .int k a) (hw : awanted T g = some true) (hl : logOk log .z un = true)
    (h : WO (aops cf xf base r (log ++ [.z]) (T.upd d (.int .u8 (a % 256))) H) QO) : WO (aops cf xf base (⟨some d, .cvi .u8 x, g, un⟩ :: r) log T H) QO :=
  wo_step (v := .int .u8 (a % 256)) hw (by simp [aop, hx, rv, IntKind.wrap, IntKind.bits, IntKind.signed]) hl h

theorem wo_shl64 {x y : SArg} {k' : IntKind} {a : Nat} {b : Int} (hx : x.ev T = .int .u64 a) (hy : y.ev T = .int k' b) (h0 : 0 ≤ b ∧ b ≤ 64) (h1 : a * 2 ^ b.toNat < 18446744073709551616) (hw : awanted T g = some true) (hl : logOk log .z un = true)
    (h : WO (aops cf xf base r (log ++ [.z]) (T.upd d (.int .u64 (a * 2 ^ b.toNat : Nat))) H) QO) : WO (aops cf xf base (⟨some d, .bin .shl x y, g, un⟩ :: r) log T H) QO :=
  wo_step (v := .int .u64 (a * 2 ^ b.toNat : Nat)) hw (by
    have h2 : ¬ b < 0 := by omega
    have h3 : min b.toNat 64 = b.toNat := Nat.min_eq_left (by omega)
    have h4 : IntKind.u64.wrap ((a : Int) * 2 ^ b.toNat) = (a * 2 ^ b.toNat : Nat) := by
      have : ((a : Int) * 2 ^ b.toNat) = ((a * 2 ^ b.toNat : Nat) : Int) := by push_cast; rfl
      rw [this]
      exact IntWalk.u64_in _ ⟨by omega, by omega⟩
    simp only [aop, hx, hy, abin, IntKind.bits, if_neg h2, h3, h4, Option.bind_some, rv]) hl h
theorem wo_orAdd {x y : SArg} {a c i : Nat} (hx : x.ev T = .int .u64 a) (hy : y.ev T = .int .u64 (c * 2 ^ i : Nat)) (ha : a < 2 ^ i) (hb : c * 2 ^ i + a < 18446744073709551616) (hw : awanted T g = some true) (hl : logOk log .z un = true)
    (h : WO (aops cf xf base r (log ++ [.z]) (T.upd d (.int .u64 (c * 2 ^ i + a : Nat))) H) QO) : WO (aops cf xf base (⟨some d, .bin .or x y, g, un⟩ :: r) log T H) QO :=
  wo_step (v := .int .u64 (c * 2 ^ i + a : Nat)) hw (by
    have h1 : a ||| (c * 2 ^ i) = c * 2 ^ i + a := by
      rw [Nat.or_comm, Nat.mul_comm]
      exact (Nat.two_pow_add_eq_or_of_lt ha c).symm
    have h2 : (BitVec.ofInt 64 (a : Int) ||| BitVec.ofInt 64 ((c * 2 ^ i : Nat) : Int)).toNat = c * 2 ^ i + a := by
      rw [BitVec.toNat_or, BitVec.toNat_ofInt, BitVec.toNat_ofInt]
      have e1 : ((a : Int) % (2 ^ 64 : Nat)).toNat = a := by omega
      have e2 : (((c * 2 ^ i : Nat) : Int) % (2 ^ 64 : Nat)).toNat = c * 2 ^ i := by omega
      rw [e1, e2, h1]
    simp only [aop, hx, hy, abin, ne_eq, not_true_eq_false, if_false, Option.bind_some, rv]
    rw [show (BitVec.ofInt IntKind.u64.bits (a : Int) ||| BitVec.ofInt IntKind.u64.bits ((c * 2 ^ i : Nat) : Int)).toNat = c * 2 ^ i + a from h2, IntWalk.u64_in _ ⟨by omega, by omega⟩]) hl h

/-- A call upon the caller's own heap. -/
theorem wo_inl {b fn : Nat} {as : List SArg} {args : List AV} {v : AV} (hF : cf fn (base + b) args H = some (v, H')) (ha : as.map (SArg.ev T) = args) (hw : awanted T g = some true) (hl : logOk log ⟨[], [], true⟩ un = true)
    (h : WO (aops cf xf base r (log ++ [⟨[], [], true⟩]) (T.upd d v) H') QO) : WO (aops cf xf base (⟨some d, .call (.inl b) fn as, g, un⟩ :: r) log T H) QO :=
  wo_step (v := v) (fp := ⟨[], [], true⟩) hw (by simp [aop, acallM, ha, hF]) hl h
theorem wo_inlU {b fn : Nat} {as : List SArg} {args : List AV} {v : AV} (hF : cf fn (base + b) args H = some (v, H')) (ha : as.map (SArg.ev T) = args) (hw : awanted T g = some true) (hl : logOk log ⟨[], [], true⟩ un = true)
    (h : WO (aops cf xf base r (log ++ [⟨[], [], true⟩]) T H') QO) : WO (aops cf xf base (⟨none, .call (.inl b) fn as, g, un⟩ :: r) log T H) QO :=
  wo_step (v := v) (fp := ⟨[], [], true⟩) hw (by simp [aop, acallM, ha, hF]) hl h

/-- A call whose bytes are the caller's then. -/
def FnF (cf : CallF) (fn : Nat) (args : List AV) (l : List UInt8) : Prop := ∃ j gn Hc, cf fn 0 args Heap.none = some (.slc j gn l.length 1 0 l.length .none, Hc) ∧ Hc j = ⟨gn, false, .row 1 (BL l)⟩

theorem wo_fresh {site fn : Nat} {as : List SArg} {args : List AV} (hF : FnF cf fn args l) (hw : awanted T g = some true) (ha : (as.map (SArg.ev T)).map (fz false deep H) = args)
    (hl : logOk log ⟨(as.map (SArg.ev T)).flatMap (vis deep H), [base + site], false⟩ un = true)
    (h : WO (aops cf xf base r (log ++ [⟨(as.map (SArg.ev T)).flatMap (vis deep H), [base + site], false⟩]) (T.upd d (.slc (base + site) ((H (base + site)).gen + 1) l.length 1 0 l.length .none)) (H.newRow (base + site) 1 (BL l))) QO) :
    WO (aops cf xf base (⟨some d, .call (.fresh site) fn as, g, un⟩ :: r) log T H) QO := by
  obtain ⟨j, gn, Hc, h1, h2⟩ := hF
  refine wo_step (v := .slc (base + site) ((H (base + site)).gen + 1) l.length 1 0 l.length .none) (H' := H.newRow (base + site) 1 (BL l)) (fp := ⟨(as.map (SArg.ev T)).flatMap (vis deep H), [base + site], false⟩) hw ?_ hl h
  simp only [aop, acallM, ha, h1, Option.bind_eq_bind, Option.bind_some, moveRes, moveOut, rowW_of h2 (BL_length l)]
  rw [if_pos ⟨BL_norefs l, rfl⟩]
  simp only [deep, BL_fz, Option.bind_some]

theorem optN {x : SArg} {k : IntKind} {n : Int} {m : Nat} (hx : x.ev T = .int k n) (h0 : 0 ≤ n) : (optNat T (some x)).map (·.getD m) = some n.toNat := by
  simp [optNat, hx, natOf, h0]
theorem ha_slc {i j gn v : Nat} {ro : Bool} {cap : Option Nat} (hT : T i = .slc j gn v 1 0 v cap) (hr : H j = ⟨gn, ro, .row 1 (BL l)⟩) (hv : l.length = v) :
    ([SArg.t i].map (SArg.ev T)).map (fz false deep H) = [.islc true false 1 (BL l)] := by
  have e : [SArg.t i].map (SArg.ev T) = [T i] := rfl
  rw [e, hT]
  show [fz false (4 + 2) H _] = _
  rw [fz_slcB (row_of hr (by simpa using hv)) (by omega), List.drop_zero, ← hv, List.take_length]
  rfl
theorem wo_ss {x : SArg} {j gn v s off len : Nat} {cap : Option Nat} {es : List AV} (hx : x.ev T = .slc j gn v s off len cap) (hr : H j = ⟨gn, false, .row s es⟩) (hv : es.length = v) (h1 : off < v) (h2 : 0 < len) (hw : awanted T g = some true) (hl : logOk log ⟨[j], [j], false⟩ un = true)
    (h : WO (aops cf xf base r (log ++ [⟨[j], [j], false⟩]) (T.upd d (.slc j gn v s off len cap)) H) QO) : WO (aops cf xf base (⟨some d, .ss x, g, un⟩ :: r) log T H) QO :=
  wo_step (v := .slc j gn v s off len cap) (H' := H) (fp := ⟨[j], [j], false⟩) hw (by
    simp only [aop, hx, rowW_of hr hv]
    rw [if_pos ⟨h1, h2⟩, setRow_of hr, Heap.upd_self hr]) hl h

/-- A call whose bytes are none. -/
theorem wo_freshE {site fn : Nat} {as : List SArg} {args : List AV} {Hc : Heap} (hF : cf fn 0 args Heap.none = some (.islc false false 1 [], Hc)) (hw : awanted T g = some true) (ha : (as.map (SArg.ev T)).map (fz false deep H) = args)
    (hl : logOk log ⟨(as.map (SArg.ev T)).flatMap (vis deep H), [base + site], false⟩ un = true)
    (h : WO (aops cf xf base r (log ++ [⟨(as.map (SArg.ev T)).flatMap (vis deep H), [base + site], false⟩]) (T.upd d (.islc false false 1 [])) H) QO) :
    WO (aops cf xf base (⟨some d, .call (.fresh site) fn as, g, un⟩ :: r) log T H) QO :=
  wo_step (v := .islc false false 1 []) (H' := H) (fp := ⟨(as.map (SArg.ev T)).flatMap (vis deep H), [base + site], false⟩) hw (by
    simp only [aop, acallM, ha, hF, Option.bind_eq_bind, Option.bind_some, moveRes, moveOut]
    rfl) hl h
/-- Slices of bytes that came in. -/
theorem wo_sliceI {x : SArg} {lo hi : Option SArg} {a b : Nat} {s' : Nat} (hx : x.ev T = .islc t f s' (BL l)) (hs : s' = 1 ∨ l = []) (hlo : (optNat T lo).map (·.getD 0) = some a) (hhi : (optNat T hi).map (·.getD l.length) = some b) (hab : a ≤ b) (hb : b ≤ l.length) (hw : awanted T g = some true) (hl : logOk log .z un = true)
    (h : WO (aops cf xf base r (log ++ [.z]) (T.upd d (.islc t (f && decide (b = l.length)) 1 (BL ((l.drop a).take (b - a))))) H) QO) : WO (aops cf xf base (⟨some d, .slice 1 x lo hi none, g, un⟩ :: r) log T H) QO :=
  wo_step (v := .islc t (f && decide (b = l.length)) 1 (BL ((l.drop a).take (b - a)))) hw (by
    have hn : isNil (BL l) = true ∨ s' = 1 := by
      rcases hs with h | h
      · exact .inr h
      · subst h; exact .inl rfl
    simp only [Option.map_eq_some_iff] at hlo hhi
    obtain ⟨lo', e1, rfl⟩ := hlo
    obtain ⟨hi', e2, rfl⟩ := hhi
    have e3 : optNat T none = some none := rfl
    simp only [aop, e1, e2, e3, Option.bind_eq_bind, Option.bind_some, hx, aslice]
    rw [if_neg (fun hh => hh hn)]
    simp only [BL_length, Option.getD_none]
    rw [if_pos ⟨hab, hb, Nat.le_refl _, fun _ => trivial⟩, BL_drop, BL_take]
    simp [FP.z]) hl h

theorem wo_slice0 {x y : SArg} {s' : Nat} {k : IntKind} {n : Int} (hx : x.ev T = .islc t f s' (BL l)) (hs : s' = 1 ∨ l = []) (hy : y.ev T = .int k n) (h0 : 0 ≤ n) (hb : n ≤ l.length) (hw : awanted T g = some true) (hl : logOk log .z un = true)
    (h : WO (aops cf xf base r (log ++ [.z]) (T.upd d (.islc t (f && decide (n.toNat = l.length)) 1 (BL (l.take n.toNat)))) H) QO) : WO (aops cf xf base (⟨some d, .slice 1 x none (some y) none, g, un⟩ :: r) log T H) QO :=
  wo_sliceI (a := 0) (b := n.toNat) hx hs rfl (optN hy h0) (by omega) (by omega) hw hl (by simpa using h)
theorem wo_sliceE {x y : SArg} {s' : Nat} {k : IntKind} {n : Int} (hx : x.ev T = .islc t f s' (BL l)) (hs : s' = 1 ∨ l = []) (hy : y.ev T = .int k n) (h0 : 0 ≤ n) (hb : n ≤ l.length) (hw : awanted T g = some true) (hl : logOk log .z un = true)
    (h : WO (aops cf xf base r (log ++ [.z]) (T.upd d (.islc t f 1 (BL (l.drop n.toNat)))) H) QO) : WO (aops cf xf base (⟨some d, .slice 1 x (some y) none none, g, un⟩ :: r) log T H) QO :=
  wo_sliceI (a := n.toNat) (b := l.length) hx hs (optN hy h0) rfl (by omega) (by omega) hw hl (by
    have e : (l.drop n.toNat).take (l.length - n.toNat) = l.drop n.toNat := List.take_of_length_le (by simp)
    rw [e]; simpa using h)
theorem wo_sliceM {x y z : SArg} {s' : Nat} {k k' : IntKind} {n m : Int} (hx : x.ev T = .islc t f s' (BL l)) (hs : s' = 1 ∨ l = []) (hy : y.ev T = .int k n) (hz : z.ev T = .int k' m) (h0 : 0 ≤ n) (h1 : n ≤ m) (hb : m ≤ l.length) (hw : awanted T g = some true) (hl : logOk log .z un = true)
    (h : WO (aops cf xf base r (log ++ [.z]) (T.upd d (.islc t (f && decide (m.toNat = l.length)) 1 (BL ((l.drop n.toNat).take (m.toNat - n.toNat))))) H) QO) : WO (aops cf xf base (⟨some d, .slice 1 x (some y) (some z) none, g, un⟩ :: r) log T H) QO :=
  wo_sliceI (a := n.toNat) (b := m.toNat) hx hs (optN hy h0) (optN hz (by omega)) (by omega) (by omega) hw hl h

/-- Slices of a row of one's own. -/
theorem wo_sliceR {x : SArg} {lo hi : Option SArg} {a b j gn v off len : Nat} {ro : Bool} {cap : Option Nat} {es : List AV} (hx : x.ev T = .slc j gn v 1 off len cap) (hr : H j = ⟨gn, ro, .row 1 es⟩) (hv : es.length = v)
    (hlo : (optNat T lo).map (·.getD 0) = some a) (hhi : (optNat T hi).map (·.getD len) = some b) (hab : a ≤ b) (hb : b ≤ cap.getD (v - off)) (hle : off + cap.getD (v - off) ≤ v) (hw : awanted T g = some true) (hl : logOk log ⟨[j], [], false⟩ un = true)
    (h : WO (aops cf xf base r (log ++ [⟨[j], [], false⟩]) (T.upd d (.slc j gn v 1 (off + a) (b - a) (cap.map (· - a)))) H) QO) : WO (aops cf xf base (⟨some d, .slice 1 x lo hi none, g, un⟩ :: r) log T H) QO :=
  wo_step (v := .slc j gn v 1 (off + a) (b - a) (cap.map (· - a))) (fp := ⟨[j], [], false⟩) hw (by
    simp only [Option.map_eq_some_iff] at hlo hhi
    obtain ⟨lo', e1, rfl⟩ := hlo
    obtain ⟨hi', e2, rfl⟩ := hhi
    have e3 : optNat T none = some none := rfl
    simp only [aop, e1, e2, e3, Option.bind_eq_bind, Option.bind_some, hx, aslice, ne_eq, not_true_eq_false, if_false, row_of hr hv, Option.getD_none]
    rw [if_pos ⟨hab, hb, Nat.le_refl _, hle, fun _ => trivial⟩]) hl h

theorem wo_sliceR0 {x y : SArg} {k : IntKind} {n : Int} {j gn v off len : Nat} {ro : Bool} {cap : Option Nat} {es : List AV} (hx : x.ev T = .slc j gn v 1 off len cap) (hr : H j = ⟨gn, ro, .row 1 es⟩) (hv : es.length = v) (hy : y.ev T = .int k n) (h0 : 0 ≤ n)
    (hb : n.toNat ≤ cap.getD (v - off)) (hle : off + cap.getD (v - off) ≤ v) (hw : awanted T g = some true) (hl : logOk log ⟨[j], [], false⟩ un = true)
    (h : WO (aops cf xf base r (log ++ [⟨[j], [], false⟩]) (T.upd d (.slc j gn v 1 off n.toNat cap)) H) QO) : WO (aops cf xf base (⟨some d, .slice 1 x none (some y) none, g, un⟩ :: r) log T H) QO :=
  wo_sliceR (a := 0) (b := n.toNat) hx hr hv rfl (optN hy h0) (by omega) hb hle hw hl (by cases cap <;> simpa using h)

theorem wo_mnF {x y : SArg} {k : IntKind} {a b : Int} (hx : x.ev T = .int k a) (hy : y.ev T = .int k b) (hw : awanted T g = some true) (hl : logOk log .z un = true)
    (h : WO (aops cf xf base r (log ++ [.z]) (T.upd d (.int k (min a b))) H) QO) : WO (aops cf xf base (⟨some d, .mnmx false x y, g, un⟩ :: r) log T H) QO :=
  wo_step (v := .int k (min a b)) hw (by
    simp only [aop, hx, hy, if_true, Bool.false_eq_true, if_false, rv]
    congr 3
    by_cases h : b < a
    · rw [if_pos h]; exact (Int.min_eq_right (by omega)).symm
    · rw [if_neg h]; exact (Int.min_eq_left (by omega)).symm) hl h

theorem bytesOf_BL : ∀ l : List UInt8, bytesOf (BL l) = some l
  | [] => rfl
  | c :: l => by
    rw [BL_cons]
    simp only [u8, bytesOf, bytesOf_BL l, Option.map_some]
    simp
/-- Bytes as a text. -/
theorem wo_b2s {s : Nat} {x : SArg} (hx : x.ev T = .islc t f s (BL l)) (hs : s = 1 ∨ l = []) (hw : awanted T g = some true) (hl : logOk log .z un = true)
    (h : WO (aops cf xf base r (log ++ [.z]) (T.upd d (.str ⟨l.toArray⟩)) H) QO) : WO (aops cf xf base (⟨some d, .b2s x, g, un⟩ :: r) log T H) QO :=
  wo_step (v := .str ⟨l.toArray⟩) hw (by
    have hn : isNil (BL l) = true ∨ s = 1 := by
      rcases hs with h | h
      · exact .inr h
      · subst h; exact .inl rfl
    simp only [aop, hx, isStrV, Bool.false_eq_true, if_false, elemsOf, if_pos hn, Option.bind_eq_bind, Option.bind_some, bytesOf_BL]
    rfl) hl h
theorem wo_streq {x y : SArg} {a b : List UInt8} (hx : x.ev T = .str ⟨a.toArray⟩) (hy : y.ev T = .str ⟨b.toArray⟩) (hw : awanted T g = some true) (hl : logOk log .z un = true)
    (h1 : a = b → WO (aops cf xf base r (log ++ [.z]) (T.upd d (.bool true)) H) QO) (h2 : a ≠ b → WO (aops cf xf base r (log ++ [.z]) (T.upd d (.bool false)) H) QO) : WO (aops cf xf base (⟨some d, .bin .eql x y, g, un⟩ :: r) log T H) QO := by
  have e : ∀ x : List UInt8, (⟨x.toArray⟩ : ByteArray).toList = x := fun x => by
    rw [ByteArray.toList_eq]
  by_cases h : a = b
  · exact wo_step (v := .bool true) (fp := .z) (H' := H) hw (by simp [aop, hx, hy, abin, h, rv]) hl (h1 h)
  · exact wo_step (v := .bool false) (fp := .z) (H' := H) hw (by simp [aop, hx, hy, abin, e, h, rv]) hl (h2 h)

/-- A text that is not the other. -/
theorem wo_strneF {x y : SArg} {a b : ByteArray} (hx : x.ev T = .str a) (hy : y.ev T = .str b) (he : a = b) (hw : awanted T g = some true) (hl : logOk log .z un = true)
    (h : WO (aops cf xf base r (log ++ [.z]) (T.upd d (.bool false)) H) QO) : WO (aops cf xf base (⟨some d, .bin .neq x y, g, un⟩ :: r) log T H) QO :=
  wo_step (v := .bool false) (fp := .z) (H' := H) hw (by subst he; simp [aop, hx, hy, abin, rv]) hl h

/-- One round of a loop. -/
theorem w_iter0 {b : SCode} (h : W (aiter (aexec cf xf base fuel b) fuel T H) Q) : W (aexec cf xf base fuel (.loop b) T H) Q := h
theorem w_iter1 {body : Tmps → Heap → XR} {n : Nat} (h : W (body T H) (Then (fun T H => W (aiter body n T H) Q) Q)) : W (aiter body (n + 1) T H) Q := by
  obtain ⟨ex, T1, H1, h1, h2⟩ := h
  cases ex with
  | normal =>
    obtain ⟨ex, T2, H2, h3, h4⟩ := h2
    exact ⟨ex, T2, H2, by simp only [aiter, h1, h3], h4⟩
  | exit id => exact ⟨_, _, _, by simp only [aiter, h1], h2⟩
  | ret => exact ⟨_, _, _, by simp only [aiter, h1], h2⟩

theorem is_cond {c : SArg} (h : WO (aops cf xf base r log T H) QO) : WO (aops cf xf base r log T H) QO := h
theorem is_app {site s : Nat} {x y : SArg} {d : Option Nat} (h : WO (aops cf xf base (⟨d, .app site s x y, g, un⟩ :: r) log T H) QO) : WO (aops cf xf base (⟨d, .app site s x y, g, un⟩ :: r) log T H) QO := h
theorem is_appZ {site s : Nat} {z : AV} {x y : SArg} {d : Option Nat} (h : WO (aops cf xf base (⟨d, .appZ site s z x y, g, un⟩ :: r) log T H) QO) : WO (aops cf xf base (⟨d, .appZ site s z x y, g, un⟩ :: r) log T H) QO := h
theorem is_slice {s : Nat} {x : SArg} {a b c : Option SArg} {d : Option Nat} (h : WO (aops cf xf base (⟨d, .slice s x a b c, g, un⟩ :: r) log T H) QO) : WO (aops cf xf base (⟨d, .slice s x a b c, g, un⟩ :: r) log T H) QO := h
theorem is_mnmx {m : Bool} {x y : SArg} {d : Option Nat} (h : WO (aops cf xf base (⟨d, .mnmx m x y, g, un⟩ :: r) log T H) QO) : WO (aops cf xf base (⟨d, .mnmx m x y, g, un⟩ :: r) log T H) QO := h
theorem is_b2s {x : SArg} {d : Option Nat} (h : WO (aops cf xf base (⟨d, .b2s x, g, un⟩ :: r) log T H) QO) : WO (aops cf xf base (⟨d, .b2s x, g, un⟩ :: r) log T H) QO := h
theorem is_ss {x : SArg} {d : Option Nat} (h : WO (aops cf xf base (⟨d, .ss x, g, un⟩ :: r) log T H) QO) : WO (aops cf xf base (⟨d, .ss x, g, un⟩ :: r) log T H) QO := h
theorem is_mks {site s : Nat} {z : AV} {x y : SArg} {d : Option Nat} (h : WO (aops cf xf base (⟨d, .mks site s z x y, g, un⟩ :: r) log T H) QO) : WO (aops cf xf base (⟨d, .mks site s z x y, g, un⟩ :: r) log T H) QO := h
end
end Go.AI
