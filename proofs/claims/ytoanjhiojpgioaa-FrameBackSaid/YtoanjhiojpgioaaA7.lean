/- Each operation of the interpreter is the model's. Part 3: cuts, texts out of bytes, structs made. -/
import Derived.Test.YtoanjhiojpgioaaA6
namespace Go.AI

def OV : Option Nat → Option Value → Prop
  | none, none => True
  | some i, some v => ∃ k, v = .int k i
  | _, _ => False

section ops
variable {P : Program} {o : Oper} {a : Act} {C : Ctx} {n : Nat} {T : Tmps} {cf : CallF} {xf : ExtF} {base : Nat} {v : AV} {H' : Heap} {fp : FP}

theorem OV_arg (hT : TR C n T a.tmps) {x : Option Operand} {sx : Option SArg} (hx : sopt x = some sx) {i : Option Nat} (h : optNat T sx = some i) : OV i (x.map a.eval) := by
  cases x with
  | none =>
    simp [sopt] at hx; subst hx
    simp [optNat] at h; subst h
    trivial
  | some x =>
    simp only [sopt, Option.map_eq_some_iff] at hx
    obtain ⟨sy, h1, rfl⟩ := hx
    simp only [optNat, Option.map_eq_some_iff] at h
    obtain ⟨m, h2, rfl⟩ := h
    exact natOf_ok (VR_arg hT h1) h2

theorem run_sliceBound {i y : Nat} {v : Value} {k : IntKind} (hv : v = .int k i) (h : i ≤ y) (code : BoundsCode) (w : World) : (Instr.sliceBound v y code).run P w = .ok i w := by
  subst hv
  simp [Instr.sliceBound, asIntOf, h]

theorem run_sliceBounds {b : Bool} {len cap : Nat} {lo hi mx : Option Nat} {lo' hi' mx' : Option Value} (h1 : OV lo lo') (h2 : OV hi hi') (h3 : OV mx mx') (w : World)
    (a1 : lo.getD 0 ≤ hi.getD len) (a2 : hi.isSome = true → hi.getD len ≤ mx.getD cap) (a3 : mx.getD cap ≤ cap) (a4 : hi = none → mx = none) :
    (Instr.sliceBounds b len cap lo' hi' mx').run P w = .ok (lo.getD 0, hi.getD len, mx.getD cap) w := by
  unfold Instr.sliceBounds
  cases mx with
  | none =>
    cases mx' with
    | some _ => simp [OV] at h3
    | none =>
      cases hi with
      | none =>
        cases hi' with
        | some _ => simp [OV] at h2
        | none =>
          cases lo with
          | none => cases lo' with
            | some _ => simp [OV] at h1
            | none => simp
          | some l => cases lo' with
            | none => simp [OV] at h1
            | some vl =>
              obtain ⟨k, hk⟩ := h1
              simp at a1
              simp [run_sliceBound hk a1]
      | some h =>
        cases hi' with
        | none => simp [OV] at h2
        | some vh =>
          obtain ⟨kh, hkh⟩ := h2
          simp at a2
          cases lo with
          | none => cases lo' with
            | some _ => simp [OV] at h1
            | none => simp [run_sliceBound hkh a2]
          | some l => cases lo' with
            | none => simp [OV] at h1
            | some vl =>
              obtain ⟨k, hk⟩ := h1
              simp at a1
              simp [run_sliceBound hk a1, run_sliceBound hkh a2]
  | some m =>
    cases mx' with
    | none => simp [OV] at h3
    | some vm =>
      obtain ⟨km, hkm⟩ := h3
      simp at a3
      cases hi with
      | none => simp at a4
      | some h =>
        cases hi' with
        | none => simp [OV] at h2
        | some vh =>
          obtain ⟨kh, hkh⟩ := h2
          simp at a2
          cases lo with
          | none => cases lo' with
            | some _ => simp [OV] at h1
            | none => simp [run_sliceBound hkh a2, run_sliceBound hkm a3]
          | some l => cases lo' with
            | none => simp [OV] at h1
            | some vl =>
              obtain ⟨k, hk⟩ := h1
              simp at a1
              simp [run_sliceBound hk a1, run_sliceBound hkh a2, run_sliceBound hkm a3]

theorem isNil_iff {l : List AV} : isNil l = true ↔ l = [] := by cases l <;> simp [isNil]

theorem ok_slice {t e : TypeId} {x : Operand} {lo hi mx : Option Operand} {sx : SArg} {slo shi smx : Option SArg} {s : Nat} (ho : o.op = .slice t x lo hi mx) (hu : P.underlying t = some (.slice e)) (hs : sizeOf? P e = some s)
    (hR : Rel C) (hT : TR C n T a.tmps) (hx : sarg x = some sx) (hlo : sopt lo = some slo) (hhi : sopt hi = some shi) (hmx : sopt mx = some smx)
    (h : aop cf xf base T C.H (.slice s sx slo shi smx) = some (v, H', fp)) : StepOk P o a C v H' := by
  have hx' := VR_arg hT hx
  simp only [aop] at h
  cases e1 : optNat T slo with
  | none => simp [e1] at h
  | some l =>
  cases e2 : optNat T shi with
  | none => simp [e1, e2] at h
  | some hh =>
  cases e3 : optNat T smx with
  | none => simp [e1, e2, e3] at h
  | some m =>
  have o1 := OV_arg hT hlo e1
  have o2 := OV_arg hT hhi e2
  have o3 := OV_arg hT hmx e3
  simp only [e1, e2, e3, Option.bind_eq_bind, Option.bind_some, aslice] at h
  have hrun : ∀ (ad : Option Addr) (len cap : Nat), l.getD 0 ≤ hh.getD len → (hh.isSome = true → hh.getD len ≤ m.getD cap) → m.getD cap ≤ cap → (hh = none → m = none) → a.eval x = .slice ad len cap →
      (execOp a.eval o).run P C.w = .ok (.value (.slice (if m.getD cap = l.getD 0 then ad else ad.map (·.add (l.getD 0 * s))) (hh.getD len - l.getD 0) (m.getD cap - l.getD 0))) C.w := by
    intro ad len cap a1 a2 a3 a4 hv
    have := run_sliceBounds (P := P) (b := true) o1 o2 o3 C.w a1 a2 a3 a4
    simp [execOp, ho, hv, Instr.sliceAt, Instr.slice, run_underlying hu, this, run_sizeOf hs]
  split at h
  · rename_i tt full s' es hq
    rw [hq] at hx'
    split at h
    · simp at h
    · rename_i hst
      split at h
      · rename_i hc
        obtain ⟨c1, c2, c3, c4⟩ := hc
        simp only [Option.some.injEq, Prod.mk.injEq] at h
        obtain ⟨rfl, rfl, _⟩ := h
        simp only [VR] at hx'
        obtain ⟨h1, ad, cap', hv, hcap, hfull, hk⟩ := hx'
        have b3 : m.getD cap' ≤ cap' := by cases m <;> simp_all; omega
        have b2 : hh.getD es.length ≤ m.getD cap' := by cases m <;> simp_all; omega
        refine stepOk_val hR (hrun ad es.length cap' c1 (fun _ => b2) b3 c4 hv) ?_
        have hlen : ((es.drop (l.getD 0)).take (hh.getD es.length - l.getD 0)).length = hh.getD es.length - l.getD 0 := by
          simp only [List.length_take, List.length_drop]
          omega
        simp only [VR]
        refine ⟨fun _ => trivial, _, _, by rw [hlen], by rw [hlen]; omega, fun hf => ?_, fun hne => ?_⟩
        · rw [hlen]
          simp only [Bool.and_eq_true, Bool.or_eq_true, decide_eq_true_eq] at hf
          obtain ⟨f1, f2⟩ := hf
          cases m with
          | none => simp at f1 f2 ⊢; have := hfull f1; omega
          | some m => simp at f2 ⊢; omega
        · have hpos : 0 < hh.getD es.length - l.getD 0 := by rw [← hlen]; exact List.length_pos_iff.2 hne
          have hes : es ≠ [] := by intro h0; subst h0; simp at hne
          have hs' : s' = s := by
            have h0 : ¬ isNil es = true := fun h0 => hes (isNil_iff.1 h0)
            by_cases h9 : s' = s
            · exact h9
            · exact absurd (fun hor => hor.elim h0 h9) hst
          subst hs'
          obtain ⟨b, off, vs, rfl, k1, k2, k3⟩ := hk hes
          refine ⟨b, off + l.getD 0 * s', _, ?_, k1, (k2.drop (l.getD 0 * s')).take ((hh.getD es.length - l.getD 0) * s'), (k3.drop (l.getD 0)).take _⟩
          rw [if_neg (by omega)]
          simp [Addr_add]
      · simp at h
  · rename_i j g ver s' off len cap hq
    rw [hq] at hx'
    split at h
    · simp at h
    · rename_i hs'
      simp at hs'
      subst hs'
      split at h
      · simp at h
      · rename_i es hes
        split at h
        · rename_i hc
          obtain ⟨c1, c2, c3, c5, c4⟩ := hc
          simp only [Option.some.injEq, Prod.mk.injEq] at h
          obtain ⟨rfl, rfl, _⟩ := h
          simp only [VR] at hx'
          obtain ⟨_, hp, ad, cap', hv, hcap, hk⟩ := hx'
          obtain ⟨k1, k2, k3⟩ := hk es hes
          have hcc : cap.getD (ver - off) ≤ cap' := by cases cap <;> simp_all
          have b3 : m.getD cap' ≤ cap' := by cases m <;> simp_all; omega
          have b2 : hh.getD len ≤ m.getD cap' := by cases m <;> simp_all; omega
          refine stepOk_val hR (hrun ad len cap' c1 (fun _ => b2) b3 c4 hv) ?_
          simp only [VR]
          refine ⟨trivial, hp, _, _, rfl, by omega, fun es' hes' => ?_⟩
          refine ⟨fun hv0 => ?_, ?_, fun ho' hc0 => ?_⟩
          · have := k1 hv0
            omega
          · cases m with
            | none => cases cap with
              | none => simp at k2 ⊢; omega
              | some c => simp at k2 ⊢; omega
            | some m => simp
          · obtain ⟨rfl, e', nn, k4, k5⟩ := k3 (by omega) (by omega)
            refine ⟨?_, e', nn, k4, ?_⟩
            · rw [if_neg (by omega)]; simp [Addr_add, Nat.add_mul]
            · refine Nat.le_trans (Nat.mul_le_mul_right _ ?_) k5
              omega
        · simp at h
  · simp at h

theorem ok_slcStr {t : TypeId} {x : Operand} {lo hi mx : Option Operand} {sx : SArg} {slo shi : Option SArg} (ho : o.op = .slice t x lo hi mx) (hu : P.underlying t = some .string) (hmx : mx = none)
    (hR : Rel C) (hT : TR C n T a.tmps) (hx : sarg x = some sx) (hlo : sopt lo = some slo) (hhi : sopt hi = some shi)
    (h : aop cf xf base T C.H (.slcStr sx slo shi) = some (v, H', fp)) : StepOk P o a C v H' := by
  have hx' := VR_arg hT hx
  simp only [aop] at h
  cases e1 : optNat T slo with
  | none => simp [e1] at h
  | some l =>
  cases e2 : optNat T shi with
  | none => simp [e1, e2] at h
  | some hh =>
  have o1 := OV_arg hT hlo e1
  have o2 := OV_arg hT hhi e2
  simp only [e1, e2, Option.bind_eq_bind, Option.bind_some] at h
  split at h
  · rename_i b hq
    rw [hq] at hx'
    split at h
    · rename_i hc
      obtain ⟨rfl, rfl⟩ := rv_some h
      simp only [VR] at hx'
      have := run_sliceBounds (P := P) (b := false) (len := b.size) (cap := b.size) o1 o2 (mx := none) (mx' := none) trivial C.w hc.1 (fun _ => hc.2) (Nat.le_refl _) (fun _ => rfl)
      refine stepOk_val hR (v' := .string (b.extract (l.getD 0) (hh.getD b.size))) ?_ (by simp [VR])
      subst hmx
      simp [execOp, ho, hx', Instr.sliceAt, Instr.slice, run_underlying hu, this]
    · simp at h
  · simp at h

/-- An array's cells as the elements of a slice of ones. -/
theorem CRL_ones {r t : Bool} : ∀ {cs : List AV} {vs : List Value}, VRL C r t cs vs → (∀ c ∈ cs, c.cells.length = 1) → CRL C r t 1 cs vs
  | [], _, h, _ => by simp only [VRL] at h; subst h; rfl
  | c :: cs, _, h, hc => by
    simp only [VRL] at h
    obtain ⟨v, vs', rfl, h1, h2, h3⟩ := h
    simp only [CRL]
    refine ⟨⟨hc c (by simp), by simp, v, h2, ?_, by simpa using h1⟩, by simpa using CRL_ones h3 (fun c' h' => hc c' (by simp [h']))⟩
    cases v <;> simp_all [Value.cells, Value.oneCell']

theorem one_cell {r t : Bool} {c : AV} {v : Value} (h : VR C r t c v) (h1 : v.oneCell' = true) : c.cells.length = 1 := by
  cases c with
  | agg cs => simp only [VR] at h; obtain ⟨vs, rfl, _⟩ := h; simp [Value.oneCell'] at h1
  | _ => rfl

theorem VRL_ones {r t : Bool} : ∀ {cs : List AV} {vs : List Value}, VRL C r t cs vs → ∀ c ∈ cs, c.cells.length = 1
  | [], _, _, c, hc => by simp at hc
  | c :: cs, _, h, c', hc => by
    simp only [VRL] at h
    obtain ⟨v, vs', rfl, h1, h2, h3⟩ := h
    rcases List.mem_cons.1 hc with rfl | hc
    · exact one_cell h2 h1
    · exact VRL_ones h3 c' hc

theorem ok_slcArr {t e : TypeId} {m : Nat} {x : Operand} {lo hi mx : Option Operand} {sx : SArg} (ho : o.op = .slice t x lo hi mx) (hu : P.underlying t = some (.array m e)) (hlo : lo = none) (hhi : hi = none) (hmx : mx = none) (hs : sizeOf? P e = some 1)
    (hR : Rel C) (hT : TR C n T a.tmps) (hx : sarg x = some sx)
    (h : aop cf xf base T C.H (.slcArr m sx) = some (v, H', fp)) : StepOk P o a C v H' := by
  have hx' := VR_arg hT hx
  simp only [aop] at h
  split at h
  · rename_i tt cs hq
    rw [hq] at hx'
    split at h
    · rename_i hle
      obtain ⟨rfl, rfl⟩ := rv_some h
      simp only [VR] at hx'
      obtain ⟨h1, b, off, vs, hv, h3, h4, h5⟩ := hx'
      have := run_sliceBounds (P := P) (b := false) (len := m) (cap := m) (lo := none) (hi := none) (mx := none) (lo' := none) (hi' := none) (mx' := none) trivial trivial trivial C.w (Nat.zero_le _) (fun h => by simp at h) (Nat.le_refl _) (fun _ => rfl)
      subst hlo hhi hmx
      refine stepOk_val hR (v' := .slice (some ⟨b, off, none⟩) m m) ?_ ?_
      · simp at this
        simp [execOp, ho, hv, Instr.sliceAt, run_underlying hu, Instr.sureAddr, this, run_sizeOf hs, Addr.add]
      · have hl : (cs.take m).length = m := by simp; omega
        simp only [VR]
        refine ⟨fun _ => trivial, _, m, by rw [hl], by rw [hl]; exact Nat.le_refl _, fun h => by simp at h, fun _ => ⟨b, off, _, rfl, h3, h4.take m, CRL_ones (h5.take m) (VRL_ones (h5.take m))⟩⟩
    · simp at h
  · simp at h

end ops
end Go.AI
