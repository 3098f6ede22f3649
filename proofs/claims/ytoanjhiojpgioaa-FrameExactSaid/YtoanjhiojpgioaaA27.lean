/- Steps: calls that hand bytes on beside other results; arrays; bytes' own operations. -/
import Derived.Test.YtoanjhiojpgioaaA25
set_option linter.unusedSimpArgs false
set_option linter.unusedVariables false
namespace Go.AI

section
variable {cf : CallF} {xf : ExtF} {base fuel : Nat} {T : Tmps} {H : Heap} {Q : Ex → Tmps → Heap → Prop} {QO : Tmps → Heap → Prop} {log : List FP}
  {op : SOp} {g : Option (Nat × Bool)} {un : List Nat} {r : List SOper} {d : Nat} {H' : Heap} {fp : FP} {t f : Bool} {l : List UInt8}

/-- The body of a call; what is known of its result and its heap. -/
theorem fn_gen {B : Prog} {gf : CallF} {k fi : Nat} {fn : SFun} {args : List AV} {R : AV → Heap → Prop} (hB : B fi = some fn) (hl : args.length = fn.nparams)
    (h : W (aexec (acall B xf gf k) xf 0 k fn.code (tmps0 args) Heap.none) (fun ex T H => (ex = .normal ∨ ex = .ret) ∧ ∃ u, aresults T H fn.results = some u ∧ R u H)) : ∃ u H, acall B xf gf (k + 1) fi 0 args Heap.none = some (u, H) ∧ R u H := by
  obtain ⟨ex, T, H, h1, h2, u, h3, h4⟩ := h
  exact ⟨u, H, by rw [acall_of hB hl h1 h2, h3]; rfl, h4⟩

/-- A call whose bytes are the caller's then, beside other results. -/
def FnFT (cf : CallF) (fn : Nat) (args : List AV) (l : List UInt8) (rest : List AV) : Prop := ∃ j gn Hc, cf fn 0 args Heap.none = some (.tup (.slc j gn l.length 1 0 l.length .none :: rest), Hc) ∧ Hc j = ⟨gn, false, .row 1 (BL l)⟩

theorem fnFT_of {fn : Nat} {args : List AV} {rest : List AV} (h : ∃ u H, cf fn 0 args Heap.none = some (u, H) ∧ ∃ j gn v, u = .tup (.slc j gn v 1 0 v .none :: rest) ∧ v = l.length ∧ H j = ⟨gn, false, .row 1 (BL l)⟩) : FnFT cf fn args l rest := by
  obtain ⟨u, H, h1, j, gn, v, rfl, rfl, h2⟩ := h
  exact ⟨j, gn, H, h1, h2⟩
theorem fnF_of {fn : Nat} {args : List AV} (h : ∃ u H, cf fn 0 args Heap.none = some (u, H) ∧ ∃ j gn v, u = .slc j gn v 1 0 v .none ∧ v = l.length ∧ H j = ⟨gn, false, .row 1 (BL l)⟩) : FnF cf fn args l := by
  obtain ⟨u, H, h1, j, gn, v, rfl, rfl, h2⟩ := h
  exact ⟨j, gn, H, h1, h2⟩

theorem wo_freshT {site fn : Nat} {as : List SArg} {args rest : List AV} (hF : FnFT cf fn args l rest) (hn : norefsL rest = true) (hz : ∀ Hc, rest.map (fz true deep Hc) = rest) (hw : awanted T g = some true) (ha : (as.map (SArg.ev T)).map (fz false deep H) = args)
    (hl : logOk log ⟨(as.map (SArg.ev T)).flatMap (vis deep H), [base + site], false⟩ un = true)
    (h : WO (aops cf xf base r (log ++ [⟨(as.map (SArg.ev T)).flatMap (vis deep H), [base + site], false⟩]) (T.upd d (.tup (.slc (base + site) ((H (base + site)).gen + 1) l.length 1 0 l.length .none :: rest))) (H.newRow (base + site) 1 (BL l))) QO) :
    WO (aops cf xf base (⟨some d, .call (.fresh site) fn as, g, un⟩ :: r) log T H) QO := by
  obtain ⟨j, gn, Hc, h1, h2⟩ := hF
  refine wo_step (v := .tup (.slc (base + site) ((H (base + site)).gen + 1) l.length 1 0 l.length .none :: rest)) (H' := H.newRow (base + site) 1 (BL l)) (fp := ⟨(as.map (SArg.ev T)).flatMap (vis deep H), [base + site], false⟩) hw ?_ hl h
  simp only [aop, acallM, ha, h1, Option.bind_eq_bind, Option.bind_some, moveRes, moveOut, rowW_of h2 (BL_length l)]
  rw [if_pos ⟨BL_norefs l, hn⟩]
  rw [show (BL l).map (fz true deep Hc) = BL l from BL_fz true 5 Hc l, hz]
  rfl

theorem ha_slc0 {i j gn v m : Nat} {ro : Bool} {cap : Option Nat} (hT : T i = .slc j gn v 1 0 m cap) (hr : H j = ⟨gn, ro, .row 1 (BL l)⟩) (hv : l.length = v) (hm : m ≤ v) :
    ([SArg.t i].map (SArg.ev T)).map (fz false deep H) = [.islc true false 1 (BL (l.take m))] := by
  have e : [SArg.t i].map (SArg.ev T) = [T i] := rfl
  rw [e, hT]
  show [fz false (4 + 2) H _] = _
  rw [fz_slcB (row_of hr (by simpa using hv)) (by omega), List.drop_zero]
  rfl

theorem wo_lenSG {n : Nat} {x : SArg} {j gn v s off len : Nat} {cap : Option Nat} (hx : x.ev T = .slc j gn v s off len cap) (hn : len = n) (hw : awanted T g = some true) (hl : logOk log .z un = true)
    (h : WO (aops cf xf base r (log ++ [.z]) (T.upd d (.int .i64 n)) H) QO) : WO (aops cf xf base (⟨some d, .len x, g, un⟩ :: r) log T H) QO :=
  wo_step (v := .int .i64 n) hw (by subst hn; simp [aop, hx, rv]) hl h
theorem wo_xor8 {x y : SArg} {a b : UInt8} (hx : x.ev T = .int .u8 a.toNat) (hy : y.ev T = .int .u8 b.toNat) (hw : awanted T g = some true) (hl : logOk log .z un = true)
    (h : WO (aops cf xf base r (log ++ [.z]) (T.upd d (.int .u8 (a ^^^ b).toNat)) H) QO) : WO (aops cf xf base (⟨some d, .bin .xor x y, g, un⟩ :: r) log T H) QO :=
  wo_step (v := .int .u8 (a ^^^ b).toNat) hw (by
    have ha := UInt8.toNat_lt a
    have hb := UInt8.toNat_lt b
    have h1 : (BitVec.ofInt 8 (a.toNat : Int)).toNat = a.toNat := by simp
    have h2 : (BitVec.ofInt 8 (b.toNat : Int)).toNat = b.toNat := by simp
    have h4 : (BitVec.ofInt IntKind.u8.bits (a.toNat : Int) ^^^ BitVec.ofInt IntKind.u8.bits (b.toNat : Int)).toNat = (a ^^^ b).toNat := by
      show (BitVec.ofInt 8 (a.toNat : Int) ^^^ BitVec.ofInt 8 (b.toNat : Int)).toNat = _
      rw [BitVec.toNat_xor, h1, h2, UInt8.toNat_xor]
    have h5 := UInt8.toNat_lt (a ^^^ b)
    have h6 : IntKind.u8.wrap ((a ^^^ b).toNat : Int) = ((a ^^^ b).toNat : Int) := by
      have hz : ∀ n : Int, IntKind.u8.wrap n = n % 256 := fun n => by simp [IntKind.wrap, IntKind.bits, IntKind.signed]
      rw [hz]
      omega
    simp only [aop, hx, hy, rv, abin, ne_eq, not_true_eq_false, if_false, h4, Option.bind_some, h6]) hl h

/-- Bytes of one's own put behind a row of one's own. -/
theorem wo_appR {site gn j v j2 g2 v2 : Nat} {ro : Bool} {x y : SArg} {m : List UInt8} {cap2 : Option Nat} (hx : x.ev T = .slc j gn v 1 0 v .none) (hy : y.ev T = .slc j2 g2 v2 1 0 v2 cap2) (h2 : H j2 = ⟨g2, ro, .row 1 (BL m)⟩) (hr : H j = ⟨gn, false, .row 1 (BL l)⟩) (hv : l.length = v) (hv2 : m.length = v2)
    (hm0 : 0 < m.length) (hml : m.length ≤ 1000000) (hm : v ≤ 1000000) (hw : awanted T g = some true) (hl : un = [])
    (h : ∀ fp, WO (aops cf xf base r (log ++ [fp]) (T.upd d (.slc j gn (v + m.length) 1 0 (v + m.length) .none)) (H.upd j ⟨gn, false, .row 1 (BL (l ++ m))⟩)) QO) :
    WO (aops cf xf base (⟨some d, .app site 1 x y, g, un⟩ :: r) log T H) QO := by
  subst hl
  refine wo_step (v := .slc j gn (v + m.length) 1 0 (v + m.length) .none) (H' := H.upd j ⟨gn, false, .row 1 (BL (l ++ m))⟩) (fp := ⟨[j2] ++ [] ++ [j], [] ++ [j], false⟩) hw ?_ rfl (h _)
  have e1 : elemsOf H 1 (.slc j2 g2 v2 1 0 v2 cap2) = some (BL m, [j2]) := by
    have e0 : (BL m).take v2 = BL m := List.take_of_length_le (by simp; omega)
    simp [elemsOf, row_of (ver := v2) h2 (by simpa using hv2), e0]
  have e2 : absorb H (BL m) = some (BL m, H, []) := by simp [absorb, BL_norefs]
  simp only [aop, hx, hy, aappend, e1, e2, Option.bind_eq_bind, Option.bind_some]
  rw [appendTo_grow hr hv (fun hh => by rw [hh] at hm0; simp at hm0) (by omega)]
  rfl

/-- The same steps where a block's age is not a numeral. -/
theorem wo_loadR (v : AV) {k : Nat} {agg ro : Bool} {x : SArg} {j g0 ver s i off : Nat} {es : List AV} {e : AV} (hx : x.ev T = .ptr j g0 ver s i off) (hr : H j = ⟨g0, ro, .row s es⟩) (hv0 : es.length = ver) (he : es[i]? = some e) (hk : off + k ≤ e.cells.length)
    (hv : (if agg then AV.agg ((e.cells.drop off).take k) else ((e.cells.drop off).headD .undef)) = v) (hw : awanted T g = some true) (hl : logOk log ⟨[j], [], false⟩ un = true)
    (h : WO (aops cf xf base r (log ++ [⟨[j], [], false⟩]) (T.upd d v) H) QO) : WO (aops cf xf base (⟨some d, .load k agg x, g, un⟩ :: r) log T H) QO :=
  wo_load v hx (row_of hr hv0) he hk hv hw hl h
theorem wo_storeR {k : Nat} {x y : SArg} {j g0 ver s i off : Nat} {es cs : List AV} {e v : AV} (hx : x.ev T = .ptr j g0 ver s i off) (hr : H j = ⟨g0, false, .row s es⟩) (hv0 : es.length = ver) (he : es[i]? = some e) (hy : y.ev T = v) (hs : storable v = true)
    (hcs : v.cells = cs) (hk : cs.length = k) (hle : off + k ≤ e.cells.length) (hw : awanted T g = some true) (hl : logOk log ⟨[j], [j], false⟩ un = true)
    (h : WO (aops cf xf base r (log ++ [⟨[j], [j], false⟩]) T (H.upd j ⟨g0, false, .row s (es.set i (e.rewrap (e.cells.take off ++ cs ++ e.cells.drop (off + k))))⟩)) QO) :
    WO (aops cf xf base (⟨none, .store k x y, g, un⟩ :: r) log T H) QO :=
  wo_store hx (rowW_of hr hv0) he hy hs hcs hk hle hw hl (by rw [setRow_of hr]; exact h)

/-- A cell of an array of one's own. -/
theorem wo_iaddrA {n s j gn v s' k o : Nat} {x i : SArg} {kk : IntKind} {m : Int} (hx : x.ev T = .ptr j gn v s' k o) (hi : i.ev T = .int kk m) (h0 : 0 ≤ m) (h1 : m < n) (hw : awanted T g = some true) (hl : logOk log .z un = true)
    (h : WO (aops cf xf base r (log ++ [.z]) (T.upd d (.ptr j gn v s' k (o + m.toNat * s))) H) QO) : WO (aops cf xf base (⟨some d, .iaddrA n s x i, g, un⟩ :: r) log T H) QO :=
  wo_step (v := .ptr j gn v s' k (o + m.toNat * s)) hw (by
    have : ¬ n ≤ m.toNat := by omega
    simp only [aop, hi, natOf, if_pos h0, Option.bind_eq_bind, Option.bind_some, if_neg this, hx, rv]) hl h
theorem wo_loadA {j gn s o : Nat} {ro : Bool} {x : SArg} {c : UInt8} (hx : x.ev T = .ptr j gn 1 s 0 o) (hr : H j = ⟨gn, ro, .row s [.agg (BL l)]⟩) (hc : l[o]? = some c)
    (hw : awanted T g = some true) (hl : logOk log ⟨[j], [], false⟩ un = true)
    (h : WO (aops cf xf base r (log ++ [⟨[j], [], false⟩]) (T.upd d (.int .u8 c.toNat)) H) QO) : WO (aops cf xf base (⟨some d, .load 1 false x, g, un⟩ :: r) log T H) QO :=
  wo_step (v := .int .u8 c.toNat) (fp := ⟨[j], [], false⟩) hw (by
    have ho : o < l.length := (List.getElem?_eq_some_iff.1 hc).1
    have hd : (BL l).drop o = u8 c :: (BL l).drop (o + 1) := by
      rw [List.drop_eq_getElem_cons (by simpa using ho)]
      congr 1
      have := BL_get l o
      rw [hc, List.getElem?_eq_getElem (by simpa using ho)] at this
      simpa using this
    simp only [aop, hx, row_of (ver := 1) hr rfl, List.getElem?_cons_zero, AV.cells, hd]
    rw [if_pos (by simp; omega)]
    rfl) hl h
theorem is_iaddrA {n s : Nat} {x i : SArg} {d : Option Nat} (h : WO (aops cf xf base (⟨d, .iaddrA n s x i, g, un⟩ :: r) log T H) QO) : WO (aops cf xf base (⟨d, .iaddrA n s x i, g, un⟩ :: r) log T H) QO := h
end
end Go.AI
