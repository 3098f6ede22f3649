/- Each operation of the interpreter is the model's. Part 2: numbers, texts, structs, places. -/
import Derived.Test.YtoanjhiojpgioaaA5
namespace Go.AI

/-- The value of a number, a truth, a text. -/
def AV.val : AV → Value
  | .int k n => .int k n
  | .bool b => .bool b
  | .str s => .string s
  | _ => Go.undef

section ops
variable {P : Program} {o : Oper} {a : Act} {C : Ctx} {n : Nat} {T : Tmps} {cf : CallF} {xf : ExtF} {base : Nat} {v : AV} {H' : Heap} {fp : FP}

theorem bind_rv {x : Option AV} {H H' : Heap} {v : AV} {fp : FP} (h : x.bind (rv · H) = some (v, H', fp)) : x = some v ∧ H' = H := by
  cases x with
  | none => simp at h
  | some u =>
    obtain ⟨rfl, rfl⟩ := rv_some h
    exact ⟨rfl, rfl⟩

theorem abin_ok {op : BinOp} {t : TypeId} {x y v : AV} {x' y' : Value} (hx : VR C true true x x') (hy : VR C true true y y') (h : abin op x y = some v) (w : World) :
    (binOp op t x' y').run P w = .ok v.val w ∧ VR C true true v v.val := by
  unfold abin at h
  split at h
  · rename_i k p k' q
    simp only [VR] at hx hy
    subst hx hy
    cases op <;> simp only at h
    case shl =>
      split at h
      · simp at h
      · simp at h; subst h
        rename_i hq
        exact ⟨by simp [binOp, Op.shift, hq, AV.val], by simp [VR, AV.val]⟩
    case shr =>
      split at h
      · simp at h
      · simp at h; subst h
        rename_i hq
        exact ⟨by simp [binOp, Op.shift, hq, AV.val], by simp [VR, AV.val]⟩
    all_goals
      split at h
      · simp at h
      · rename_i hk
        simp at hk
        subst hk
        first
          | (simp at h; done)
          | (simp at h; subst h; exact ⟨by simp [binOp, Op.intArith, Op.intCmp, Op.intBits, AV.val]; done, by simp [VR, AV.val]⟩)
          | (simp at h
             obtain ⟨hq, rfl⟩ := h
             exact ⟨by simp [binOp, Op.intDiv, hq, AV.val], by simp [VR, AV.val]⟩)
  · rename_i p q
    simp only [VR] at hx hy
    subst hx hy
    cases op <;> simp only at h
    case add =>
      split at h
      · rename_i hle
        simp at h; subst h
        refine ⟨?_, by simp [VR, AV.val]⟩
        have : ¬ (((p.size + q.size : Nat) : Int) > IntKind.i64.max) := by
          simp [roomy] at hle ⊢
          omega
        simp only [binOp, Op.stringOp, if_neg this]; rfl
      · simp at h
    all_goals first
      | (simp at h; done)
      | (simp at h; subst h; exact ⟨by simp [binOp, Op.stringOp, AV.val], by simp [VR, AV.val]⟩)
  · simp at h

theorem ok_bin {op : BinOp} {t yt : TypeId} {x y : Operand} {sx sy : SArg} (ho : o.op = .binOp op t x y yt) (hR : Rel C) (hT : TR C n T a.tmps) (hx : sarg x = some sx) (hy : sarg y = some sy)
    (h : aop cf xf base T C.H (.bin op sx sy) = some (v, H', fp)) : StepOk P o a C v H' := by
  simp only [aop] at h
  obtain ⟨h1, rfl⟩ := bind_rv h
  obtain ⟨h2, h3⟩ := abin_ok (P := P) (t := t) (VR_arg hT hx) (VR_arg hT hy) h1 C.w
  refine stepOk_val (v' := v.val) hR ?_ h3
  have hx' := VR_arg hT hx
  have hg : (eqGuard op t x y (a.eval x) (a.eval y)).run P C.w = .ok () C.w := by
    unfold eqGuard
    unfold abin at h1
    split at h1
    · rename_i k p k' q hq1 hq2
      rw [hq1] at hx'
      simp only [VR] at hx'
      cases op <;> simp [hx']
    · rename_i p q hq1 hq2
      rw [hq1] at hx'
      simp only [VR] at hx'
      cases op <;> simp [hx']
    · simp at h1
  simp [execOp, ho, hg, h2]

theorem run_eqb (d : Nat) {t : TypeId} (hu : P.underlying t = some .bool) (p q : Bool) (w : World) : (Op.equalIn (d + 1) t (.bool p) (.bool q)).run P w = .ok (p == q) w := by
  simp [Op.equalIn, run_underlying hu]
theorem run_eqnil (d : Nat) {t e : TypeId} (hu : P.underlying t = some (.slice e)) (ad : Addr) (l c : Nat) (w : World) : (Op.equalIn (d + 1) t (.slice (some ad) l c) (.slice none 0 0)).run P w = .ok false w := by
  simp [Op.equalIn, run_underlying hu]

theorem ok_eqb {neg : Bool} {op : BinOp} {t yt : TypeId} {x y : Operand} {sx sy : SArg} (ho : o.op = .binOp op t x y yt) (hop : op = if neg then .neq else .eql) (hu : P.underlying t = some .bool)
    (hR : Rel C) (hT : TR C n T a.tmps) (hx : sarg x = some sx) (hy : sarg y = some sy)
    (h : aop cf xf base T C.H (.eqb neg sx sy) = some (v, H', fp)) : StepOk P o a C v H' := by
  have hx' := VR_arg hT hx
  have hy' := VR_arg hT hy
  simp only [aop] at h
  split at h
  · rename_i p q hq1 hq2
    obtain ⟨rfl, rfl⟩ := rv_some h
    rw [hq1] at hx'; rw [hq2] at hy'
    simp only [VR] at hx' hy'
    subst hop
    refine stepOk_val (v' := .bool ((p == q) != neg)) hR ?_ (by simp [VR])
    have hq := run_eqb (P := P) 9999 hu p q C.w
    cases neg
    · simp only [execOp, ho, hx', hy', eqGuard, binOp, Op.equal, Op.maxDepth, Bool.false_eq_true, if_false]
      simp [hq]
    · simp only [execOp, ho, hx', hy', eqGuard, binOp, Op.equal, Op.maxDepth, if_true]
      simp [hq]
  · simp at h

theorem ok_eqnil {neg : Bool} {op : BinOp} {t yt : TypeId} {x y : Operand} {sx : SArg} {e : TypeId} (ho : o.op = .binOp op t x y yt) (hop : op = if neg then .neq else .eql)
    (h1 : isNilSlice y = true) (hu : P.underlying t = some (.slice e))
    (hR : Rel C) (hT : TR C n T a.tmps) (hx : sarg x = some sx)
    (h : aop cf xf base T C.H (.eqnil neg sx) = some (v, H', fp)) : StepOk P o a C v H' := by
  have hx' := VR_arg hT hx
  simp only [aop] at h
  cases hnil : nilOf (sx.ev T) with
  | none => simp [hnil] at h
  | some b =>
    simp only [hnil, Option.bind_some] at h
    obtain ⟨rfl, rfl⟩ := rv_some h
    refine stepOk_val (v' := .bool (b != neg)) hR ?_ (by simp [VR])
    subst hop
    have hy' : a.eval y = .slice none 0 0 := by
      unfold isNilSlice at h1
      split at h1
      · rfl
      · simp at h1
    unfold nilOf at hnil
    split at hnil
    · rename_i t' f s e' es hq
      simp at hnil
      subst hnil
      rw [hq] at hx'
      simp only [VR] at hx'
      obtain ⟨_, ad, cap', hv, _, _, hk⟩ := hx'
      obtain ⟨b0, off0, vs, rfl, _⟩ := hk (by simp)
      have hq := run_eqnil (P := P) 9999 hu ⟨b0, off0, none⟩ (e' :: es).length cap' C.w
      cases neg
      · simp only [execOp, ho, hv, hy', eqGuard, binOp, Op.equal, Op.maxDepth, Bool.false_eq_true, if_false]
        simp at hq
        simp [hq]
      · simp only [execOp, ho, hv, hy', eqGuard, binOp, Op.equal, Op.maxDepth, if_true]
        simp at hq
        simp [hq]
    · simp at hnil

theorem ok_un {op : UnOp} {t : TypeId} {x : Operand} {sx : SArg} (ho : o.op = .unOp op t x) (hR : Rel C) (hT : TR C n T a.tmps) (hx : sarg x = some sx)
    (h : aop cf xf base T C.H (.un op sx) = some (v, H', fp)) : StepOk P o a C v H' := by
  have hx' := VR_arg hT hx
  simp only [aop] at h
  obtain ⟨h1, rfl⟩ := bind_rv h
  unfold aun at h1
  split at h1
  · rename_i k q hq
    rw [hq] at hx'
    simp only [VR] at hx'
    split at h1
    · simp at h1; subst h1
      exact stepOk_val (v' := .int k (k.wrap (0 - q))) hR (by simp [execOp, ho, hx', Op.unary, Op.intArith]) (by simp [VR])
    · simp at h1; subst h1
      exact stepOk_val (v' := .int k (k.wrap (BitVec.ofInt k.bits (if k.signed then -1 else k.max) ^^^ BitVec.ofInt k.bits q).toNat)) hR
        (by simp [execOp, ho, hx', Op.unary, Op.intBits]) (by simp [VR])
    · simp at h1
  · rename_i b hq
    rw [hq] at hx'
    simp only [VR] at hx'
    split at h1
    · simp at h1; subst h1
      exact stepOk_val (v' := .bool !b) hR (by simp [execOp, ho, hx', Op.unary]) (by simp [VR])
    · simp at h1
  · simp at h1

theorem ok_cvi {s d : TypeId} {k0 k : IntKind} {x : Operand} {sx : SArg} (ho : o.op = .convert s d x) (hs : P.underlying s = some (.int k0)) (hd : P.underlying d = some (.int k)) (hR : Rel C) (hT : TR C n T a.tmps) (hx : sarg x = some sx)
    (h : aop cf xf base T C.H (.cvi k sx) = some (v, H', fp)) : StepOk P o a C v H' := by
  have hx' := VR_arg hT hx
  simp only [aop] at h
  split at h
  · rename_i k1 q hq
    rw [hq] at hx'
    simp only [VR] at hx'
    obtain ⟨rfl, rfl⟩ := rv_some h
    exact stepOk_val (v' := .int k (k.wrap q)) hR (by simp [execOp, ho, hx', convert, run_underlying hs, run_underlying hd, Conv.intToInt]) (by simp [VR])
  · simp at h

theorem ok_mkfn {f : Nat} {first caps : Array Operand} {sc : List SArg} (ho : o.op = .makeFunc (.func f) first caps) (hf : first.size = 0) (hR : Rel C) (hT : TR C n T a.tmps) (hc : sargs caps.toList = some sc)
    (h : aop cf xf base T C.H (.mkfn f sc) = some (v, H', fp)) : StepOk P o a C v H' := by
  have hx' := VRT_args hT hc
  simp only [aop] at h
  obtain ⟨rfl, rfl⟩ := rv_some h
  have : first = #[] := Array.eq_empty_of_size_eq_zero hf
  subst this
  exact stepOk_val (v' := .func (.func f) #[] (caps.map a.eval)) hR (by simp [execOp, ho, Instr.makeFunc]) (by simp only [VR]; exact ⟨_, rfl, by simpa using hx'⟩)

theorem ok_faddr {t : TypeId} {x : Operand} {f : Nat} {sx : SArg} {off k : Nat} {b : Bool} (ho : o.op = .fieldAddr t x f) (hf : fieldOf P t f = some (off, k, b)) (hR : Rel C) (hT : TR C n T a.tmps) (hx : sarg x = some sx)
    (h : aop cf xf base T C.H (.faddr off sx) = some (v, H', fp)) : StepOk P o a C v H' := by
  have hx' := VR_arg hT hx
  have hrun : ∀ ad w, (Instr.fieldAt t (.pointer (some ad)) f).run P w = .ok (.pointer (some (ad.add off))) w := by
    intro ad w
    unfold fieldOf at hf
    split at hf
    · rename_i fs hfs
      split at hf
      · rename_i fd hfd
        split at hf
        · rename_i s hs
          split at hf
          · simp at hf
          · rename_i hs0
            simp at hf
            obtain ⟨rfl, rfl, _⟩ := hf
            simp [Instr.fieldAt, run_underlying hfs, hfd, Instr.sureAddr, fieldPlace, run_sizeOf hs, hs0]
        · simp at hf
      · simp at hf
    · simp at hf
  simp only [aop] at h
  split at h
  · rename_i j g ver s i q hq
    rw [hq] at hx'
    obtain ⟨rfl, rfl⟩ := rv_some h
    simp only [VR] at hx'
    obtain ⟨h1, h2, ad, h3, h4⟩ := hx'
    refine stepOk_val (v' := .pointer (some (ad.add off))) hR (by simp [execOp, ho, h3, hrun]) ?_
    simp only [VR]
    refine ⟨trivial, h2, _, rfl, fun es hes hi => ?_⟩
    rw [h4 es hes hi]
    unfold Addr.add
    split
    · rename_i h0; subst h0; rfl
    · simp [Nat.add_assoc]
  · rename_i tt cs hq
    rw [hq] at hx'
    split at h
    · rename_i hle
      obtain ⟨rfl, rfl⟩ := rv_some h
      simp only [VR] at hx'
      obtain ⟨h1, b0, off0, vs, h3, h4, h5, h6⟩ := hx'
      refine stepOk_val (v' := .pointer (some ((⟨b0, off0, none⟩ : Addr).add off))) hR (by simp [execOp, ho, h3, hrun]) ?_
      simp only [VR]
      refine ⟨fun _ => trivial, b0, off0 + off, vs.drop off, ?_, h4, h5.drop off, h6.drop off⟩
      unfold Addr.add
      split
      · rename_i h0; subst h0; rfl
      · rfl
    · simp at h
  · simp at h

/-- A part of a struct that stands by value. -/
theorem run_part {t : TypeId} {k off : Nat} {vs : Array Value} (w : World) (hk : sizeOf? P t = some k) (hl : off + k ≤ vs.size) (h1 : isAggB P t = true ∨ k = 1) :
    (part t vs off).run P w = .ok (if isAggB P t then .agg ((vs.toList.drop off).take k).toArray else ((vs.toList.drop off).take k).headD Go.undef) w := by
  simp only [part, Sem.run_bind, run_isAgg w (under_of_size hk), Result.andThen_ok]
  cases hb : isAggB P t with
  | true =>
    simp only [if_true, Sem.run_bind, run_sizeOf hk, Result.andThen_ok, Sem.run_pure]
    congr 2
    apply Array.ext'
    simp [Array.toList_extract]
  | false =>
    have hk1 : k = 1 := by simpa [hb] using h1
    subst hk1
    have hlt : off < vs.size := by omega
    simp [hlt, List.take_one, List.head?_drop]

theorem ok_field {t : TypeId} {x : Operand} {f : Nat} {sx : SArg} {off k : Nat} {b : Bool} (ho : o.op = .field t x f) (hf : fieldOf P t f = some (off, k, b)) (h1 : b = true ∨ k = 1) (hR : Rel C) (hT : TR C n T a.tmps) (hx : sarg x = some sx)
    (h : aop cf xf base T C.H (.field off k b sx) = some (v, H', fp)) : StepOk P o a C v H' := by
  have hx' := VR_arg hT hx
  simp only [aop] at h
  split at h
  · rename_i cs hq
    rw [hq] at hx'
    split at h
    · rename_i hle
      obtain ⟨rfl, rfl⟩ := rv_some h
      simp only [VR] at hx'
      obtain ⟨vs, h3, h4⟩ := hx'
      have hl := VRL.length h4
      simp only [Array.length_toList] at hl
      unfold fieldOf at hf
      split at hf
      · rename_i fs hfs
        split at hf
        · rename_i fd hfd
          split at hf
          · rename_i s hs
            split at hf
            · simp at hf
            · rename_i hs0
              simp at hf
              obtain ⟨rfl, rfl, rfl⟩ := hf
              have := run_part (P := P) (vs := vs) (off := fd.offset) C.w hs (by omega) h1
              refine stepOk_val hR (v' := if isAggB P fd.type then .agg ((vs.toList.drop fd.offset).take s).toArray else ((vs.toList.drop fd.offset).take s).headD Go.undef) ?_ ?_
              · simp [execOp, ho, h3, Instr.field, run_underlying hfs, hfd, asAgg, this]
              · exact VRL_load (h4.drop fd.offset) (by simp; omega) h1
          · simp at hf
        · simp at hf
      · simp at hf
    · simp at h
  · simp at h

theorem ok_extract {x : Operand} {i : Nat} {sx : SArg} (ho : o.op = .extract x i) (hR : Rel C) (hT : TR C n T a.tmps) (hx : sarg x = some sx)
    (h : aop cf xf base T C.H (.extract sx i) = some (v, H', fp)) : StepOk P o a C v H' := by
  have hx' := VR_arg hT hx
  simp only [aop] at h
  split at h
  · rename_i vs hq
    rw [hq] at hx'
    split at h
    · rename_i u hu
      obtain ⟨rfl, rfl⟩ := rv_some h
      simp only [VR] at hx'
      obtain ⟨us, h1, h2⟩ := hx'
      obtain ⟨v', h3, h4⟩ := VRT.get i h2 hu
      simp only [Array.getElem?_toList] at h3
      exact stepOk_val (v' := v') hR (by simp [execOp, ho, h1, Instr.extract, h3]) h4
    · simp at h
  · simp at h

theorem natOf_ok {x : AV} {x' : Value} {i : Nat} (hx : VR C true true x x') (h : natOf x = some i) : ∃ k, x' = .int k i := by
  unfold natOf at h
  split at h
  · rename_i k q
    split at h
    · simp at h
      simp only [VR] at hx
      subst h
      exact ⟨k, by rw [hx]; congr 1; omega⟩
    · simp at h
  · simp at h

theorem ok_indexS {t : TypeId} {x i : Operand} {sx si : SArg} (ho : o.op = .index t x i) (hu : P.underlying t = some .string) (hR : Rel C) (hT : TR C n T a.tmps) (hx : sarg x = some sx) (hi : sarg i = some si)
    (h : aop cf xf base T C.H (.indexS sx si) = some (v, H', fp)) : StepOk P o a C v H' := by
  have hx' := VR_arg hT hx
  have hi' := VR_arg hT hi
  simp only [aop] at h
  cases hn : natOf (si.ev T) with
  | none => simp [hn] at h
  | some i0 =>
    obtain ⟨k, hi'⟩ := natOf_ok hi' hn
    simp only [hn, Option.bind_eq_bind, Option.bind_some] at h
    split at h
    · rename_i b hq
      rw [hq] at hx'
      simp only [VR] at hx'
      split at h
      · rename_i c hc
        obtain ⟨rfl, rfl⟩ := rv_some h
        refine stepOk_val (v' := .int .u8 c.toNat) hR ?_ (by simp [VR])
        have hc' : b[i0]? = some c := by
          have h1 : i0 < b.data.size := by simpa using (List.getElem?_eq_some_iff.1 hc).1
          rw [getElem?_pos b i0 h1]
          have h2 := (List.getElem?_eq_some_iff.1 hc).2
          simp only [Array.getElem_toList] at h2
          rw [← h2]; rfl
        simp [execOp, ho, hx', hi', Instr.index, asIntOf, run_underlying hu, hc']
      · simp at h
    · simp at h

theorem ok_indexA {t e : TypeId} {x i : Operand} {sx si : SArg} {m s : Nat} (ho : o.op = .index t x i) (hu : P.underlying t = some (.array m e)) (hs : sizeOf? P e = some s) (h1 : isAggB P e = true ∨ s = 1) (hR : Rel C) (hT : TR C n T a.tmps) (hx : sarg x = some sx) (hi : sarg i = some si)
    (h : aop cf xf base T C.H (.indexA m s (isAggB P e) sx si) = some (v, H', fp)) : StepOk P o a C v H' := by
  have hx' := VR_arg hT hx
  have hi' := VR_arg hT hi
  simp only [aop] at h
  cases hn : natOf (si.ev T) with
  | none => simp [hn] at h
  | some i0 =>
    obtain ⟨k, hi'⟩ := natOf_ok hi' hn
    simp only [hn, Option.bind_eq_bind, Option.bind_some] at h
    split at h
    · simp at h
    · rename_i hlt
      split at h
      · rename_i cs hq
        rw [hq] at hx'
        split at h
        · rename_i hle
          obtain ⟨rfl, rfl⟩ := rv_some h
          simp only [VR] at hx'
          obtain ⟨vs, h3, h4⟩ := hx'
          have hl := VRL.length h4
          simp only [Array.length_toList] at hl
          have := run_part (P := P) (vs := vs) C.w hs (off := i0 * s) (by omega) h1
          refine stepOk_val hR (v' := if isAggB P e then .agg ((vs.toList.drop (i0 * s)).take s).toArray else ((vs.toList.drop (i0 * s)).take s).headD Go.undef) ?_ ?_
          · have hb : (0 : Int) ≤ (i0 : Int) ∧ (i0 : Int) < (m : Int) := by omega
            simp [execOp, ho, h3, hi', Instr.index, asIntOf, run_underlying hu, run_sizeOf hs, this, show i0 < m by omega]
          · exact VRL_load (h4.drop (i0 * s)) (by simp; omega) h1
        · simp at h
      · simp at h

theorem run_resolve_builtin {c : Call} {b : Builtin} (hc : c.callee = .builtin b) (ty : TypeId) (w : World) :
    ((do let d ← resolve a.eval c ty; invoke d.target d.args) : Sem Next).run P w = (builtin b c.argTypes ty (c.args.map fun | .const _ => true | _ => false) (c.args.map a.eval)).run P w := by
  simp [resolve, hc, invoke]
  rfl

theorem exec_builtin {c : Call} {b : Builtin} (ho : o.op = .call c) (hc : c.callee = .builtin b) (w : World) :
    (execOp a.eval o).run P w = (builtin b c.argTypes o.type (c.args.map fun | .const _ => true | _ => false) (c.args.map a.eval)).run P w := by
  rw [← run_resolve_builtin hc]
  simp [execOp, ho]

theorem ok_len {t e : TypeId} {x : Operand} {sx : SArg} {c : Call} (ho : o.op = .call c) (hc : c.callee = .builtin .len) (hts : c.argTypes = #[t]) (hxs : c.args = #[x])
    (hR : Rel C) (hT : TR C n T a.tmps) (hx : sarg x = some sx) (hu : P.underlying t = some (.slice e))
    (h : aop cf xf base T C.H (.len sx) = some (v, H', fp)) : StepOk P o a C v H' := by
  have hx' := VR_arg hT hx
  simp only [aop] at h
  split at h
  · rename_i j g ver s off len cap hq
    rw [hq] at hx'
    obtain ⟨rfl, rfl⟩ := rv_some h
    simp only [VR] at hx'
    obtain ⟨_, _, ad, cap', hv, _⟩ := hx'
    exact stepOk_val (v' := .int .i64 len) hR (by simp [exec_builtin ho hc, hts, hxs, builtin, Builtin.len_, run_underlying hu, hv, goInt]) (by simp [VR])
  · rename_i tt f s es hq
    rw [hq] at hx'
    obtain ⟨rfl, rfl⟩ := rv_some h
    simp only [VR] at hx'
    obtain ⟨_, ad, cap', hv, _⟩ := hx'
    exact stepOk_val (v' := .int .i64 es.length) hR (by simp [exec_builtin ho hc, hts, hxs, builtin, Builtin.len_, run_underlying hu, hv, goInt]) (by simp [VR])
  · simp at h

theorem ok_lenS {t : TypeId} {x : Operand} {sx : SArg} {c : Call} (ho : o.op = .call c) (hc : c.callee = .builtin .len) (hts : c.argTypes = #[t]) (hxs : c.args = #[x])
    (hR : Rel C) (hT : TR C n T a.tmps) (hx : sarg x = some sx) (hu : P.underlying t = some .string)
    (h : aop cf xf base T C.H (.lenS sx) = some (v, H', fp)) : StepOk P o a C v H' := by
  have hx' := VR_arg hT hx
  simp only [aop] at h
  split at h
  · rename_i b hq
    rw [hq] at hx'
    obtain ⟨rfl, rfl⟩ := rv_some h
    simp only [VR] at hx'
    exact stepOk_val (v' := .int .i64 b.size) hR (by simp [exec_builtin ho hc, hts, hxs, builtin, Builtin.len_, run_underlying hu, hx', goInt]) (by simp [VR])
  · simp at h

theorem ok_lenA {t e : TypeId} {m : Nat} {x : Operand} {c : Call} (ho : o.op = .call c) (hc : c.callee = .builtin .len) (hts : c.argTypes = #[t]) (hxs : c.args = #[x])
    (hR : Rel C) (hu : P.underlying t = some (.array m e))
    (h : aop cf xf base T C.H (.mv (.c (.int .i64 m))) = some (v, H', fp)) : StepOk P o a C v H' := by
  simp only [aop, SArg.ev] at h
  obtain ⟨rfl, rfl⟩ := rv_some h
  exact stepOk_val (v' := .int .i64 m) hR (by simp [exec_builtin ho hc, hts, hxs, builtin, Builtin.len_, run_underlying hu, goInt]) (by simp [VR])

theorem ok_cap {t e : TypeId} {x : Operand} {sx : SArg} {c : Call} (ho : o.op = .call c) (hc : c.callee = .builtin .cap) (hts : c.argTypes = #[t]) (hxs : c.args = #[x])
    (hR : Rel C) (hT : TR C n T a.tmps) (hx : sarg x = some sx) (hu : P.underlying t = some (.slice e))
    (h : aop cf xf base T C.H (.cap sx) = some (v, H', fp)) : StepOk P o a C v H' := by
  have hx' := VR_arg hT hx
  simp only [aop] at h
  split at h
  · rename_i tt s es hq
    rw [hq] at hx'
    obtain ⟨rfl, rfl⟩ := rv_some h
    simp only [VR] at hx'
    obtain ⟨_, ad, cap', hv, _, hf, _⟩ := hx'
    have := hf trivial
    subst this
    exact stepOk_val (v' := .int .i64 es.length) hR (by simp [exec_builtin ho hc, hts, hxs, builtin, Builtin.cap_, run_underlying hu, hv, goInt]) (by simp [VR])
  · simp at h

theorem ok_mnmx {mx : Bool} {x y : Operand} {sx sy : SArg} {c : Call} (ho : o.op = .call c) (hc : c.callee = .builtin (if mx then .max else .min)) (hxs : c.args = #[x, y])
    (hR : Rel C) (hT : TR C n T a.tmps) (hx : sarg x = some sx) (hy : sarg y = some sy)
    (h : aop cf xf base T C.H (.mnmx mx sx sy) = some (v, H', fp)) : StepOk P o a C v H' := by
  have hx' := VR_arg hT hx
  have hy' := VR_arg hT hy
  simp only [aop] at h
  split at h
  · rename_i k p k' q hq1 hq2
    rw [hq1] at hx'; rw [hq2] at hy'
    split at h
    · rename_i hk
      subst hk
      obtain ⟨rfl, rfl⟩ := rv_some h
      simp only [VR] at hx' hy'
      refine stepOk_val (v' := .int k (if mx then (if p < q then q else p) else (if q < p then q else p))) hR ?_ (by simp [VR])
      cases mx with
      | true => simp only [if_true] at hc; simp [exec_builtin ho hc, hxs, builtin, Builtin.max_, Builtin.max2, hx', hy']
      | false => simp only [Bool.false_eq_true, if_false] at hc; simp [exec_builtin ho hc, hxs, builtin, Builtin.min_, Builtin.min2, hx', hy']
    · simp at h
  · simp at h

theorem Addr_add (b o k : Nat) : (⟨b, o, none⟩ : Addr).add k = ⟨b, o + k, none⟩ := by
  unfold Addr.add; split
  · rename_i h; subst h; rfl
  · rfl

theorem ok_iaddr {t e : TypeId} {x i : Operand} {sx si : SArg} {s : Nat} (ho : o.op = .indexAddr t x i) (hu : P.underlying t = some (.slice e)) (hs : sizeOf? P e = some s) (hR : Rel C) (hT : TR C n T a.tmps) (hx : sarg x = some sx) (hi : sarg i = some si)
    (h : aop cf xf base T C.H (.iaddr s sx si) = some (v, H', fp)) : StepOk P o a C v H' := by
  have hx' := VR_arg hT hx
  have hi' := VR_arg hT hi
  simp only [aop] at h
  cases hn : natOf (si.ev T) with
  | none => simp [hn] at h
  | some i0 =>
    obtain ⟨k, hi'⟩ := natOf_ok hi' hn
    simp only [hn, Option.bind_eq_bind, Option.bind_some] at h
    split at h
    · rename_i j g ver s' off len cap hq
      rw [hq] at hx'
      cases hes : C.H.row j g ver s' with
      | none => simp [hes] at h
      | some es =>
        simp only [hes, Option.bind_some] at h
        split at h
        · rename_i hc
          obtain ⟨rfl, hlt, hle⟩ := hc
          simp only [Option.some.injEq, Prod.mk.injEq] at h
          obtain ⟨rfl, rfl, _⟩ := h
          simp only [VR] at hx'
          obtain ⟨_, h2, ad, cap', hv, hcap, hk⟩ := hx'
          obtain ⟨_, _, h5⟩ := hk es hes
          obtain ⟨h6, _⟩ := h5 (by omega) (by omega)
          subst h6
          refine stepOk_val (v' := .pointer (some ⟨C.μ j, off * s' + i0 * s', none⟩)) hR ?_ ?_
          · simp [execOp, ho, hv, hi', Instr.indexAt, asIntOf, run_underlying hu, run_sizeOf hs, hlt, Addr_add]
          · simp only [VR]
            refine ⟨trivial, h2, _, rfl, fun _ _ _ => ?_⟩
            simp [Nat.add_mul]
        · simp at h
    · rename_i tt f s' es hq
      rw [hq] at hx'
      split at h
      · simp at h
      · rename_i hs'
        simp at hs'
        subst hs'
        split at h
        · rename_i el hel
          obtain ⟨rfl, rfl⟩ := rv_some h
          have hlt : i0 < es.length := (List.getElem?_eq_some_iff.1 hel).1
          simp only [VR] at hx'
          obtain ⟨h1, ad, cap', hv, hcap, _, hk⟩ := hx'
          obtain ⟨b, off, vs, rfl, h3, h4, h5⟩ := hk (by intro h0; subst h0; simp at hlt)
          refine stepOk_val (v' := .pointer (some ⟨b, off + i0 * s', none⟩)) hR ?_ ?_
          · simp [execOp, ho, hv, hi', Instr.indexAt, asIntOf, run_underlying hu, run_sizeOf hs, hlt, Addr_add]
          · simp only [VR]
            exact ⟨fun _ => trivial, b, off + i0 * s', _, rfl, h3, (h4.drop (i0 * s')).take s', (CRL.get i0 h5 hel).2⟩
        · simp at h
    · simp at h

theorem ok_iaddrA {t e : TypeId} {x i : Operand} {sx si : SArg} {m s : Nat} (ho : o.op = .indexAddr t x i) (hu : P.underlying t = some (.array m e)) (hs : sizeOf? P e = some s) (hR : Rel C) (hT : TR C n T a.tmps) (hx : sarg x = some sx) (hi : sarg i = some si)
    (h : aop cf xf base T C.H (.iaddrA m s sx si) = some (v, H', fp)) : StepOk P o a C v H' := by
  have hx' := VR_arg hT hx
  have hi' := VR_arg hT hi
  simp only [aop] at h
  cases hn : natOf (si.ev T) with
  | none => simp [hn] at h
  | some i0 =>
    obtain ⟨k, hi'⟩ := natOf_ok hi' hn
    simp only [hn, Option.bind_eq_bind, Option.bind_some] at h
    split at h
    · simp at h
    · rename_i hlt
      have hrun : ∀ ad w, (Instr.indexAt t (.pointer (some ad)) (.int k i0)).run P w = .ok (.pointer (some (ad.add (i0 * s)))) w := by
        intro ad w
        simp [Instr.indexAt, asIntOf, run_underlying hu, run_sizeOf hs, Instr.sureAddr, show i0 < m by omega]
      split at h
      · rename_i j g ver s' q off hq
        rw [hq] at hx'
        obtain ⟨rfl, rfl⟩ := rv_some h
        simp only [VR] at hx'
        obtain ⟨_, h2, ad, hv, hk⟩ := hx'
        refine stepOk_val (v' := .pointer (some (ad.add (i0 * s)))) hR (by simp [execOp, ho, hv, hi', hrun]) ?_
        simp only [VR]
        refine ⟨trivial, h2, _, rfl, fun es hes hi => ?_⟩
        rw [hk es hes hi, Addr_add, Nat.add_assoc]
      · rename_i tt cs hq
        rw [hq] at hx'
        split at h
        · rename_i hle
          obtain ⟨rfl, rfl⟩ := rv_some h
          simp only [VR] at hx'
          obtain ⟨h1, b, off, vs, hv, h3, h4, h5⟩ := hx'
          refine stepOk_val (v' := .pointer (some ⟨b, off + i0 * s, none⟩)) hR (by simp [execOp, ho, hv, hi', hrun, Addr_add]) ?_
          simp only [VR]
          exact ⟨fun _ => trivial, b, off + i0 * s, _, rfl, h3, h4.drop (i0 * s), h5.drop (i0 * s)⟩
        · simp at h
      · simp at h

end ops
end Go.AI
