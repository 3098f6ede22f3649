/- Each operation of the interpreter is the model's. Part 4: what is made. -/
import Derived.Test.YtoanjhiojpgioaaA7
import Derived.Laws.BytesString
namespace Go.AI

def setObjAt (w : World) (b : Nat) (x : Obj) : World := { w with heap := w.heap.modify b (fun _ => x) }

theorem list_set_mid {α : Type} (l vs : List α) (k : Nat) (v : α) (h : k + vs.length < l.length) :
    (l.set k v).take (k + 1) ++ vs ++ (l.set k v).drop (k + 1 + vs.length) = l.take k ++ (v :: vs) ++ l.drop (k + (vs.length + 1)) := by
  rw [List.set_eq_take_append_cons_drop, if_pos (by omega)]
  have e1 : (l.take k ++ v :: l.drop (k + 1)).take (k + 1) = l.take k ++ [v] := by
    rw [List.take_append]
    have : (l.take k).length = k := by simp; omega
    rw [this, List.take_of_length_le (by omega), Nat.add_sub_cancel_left]
    simp
  have e2 : (l.take k ++ v :: l.drop (k + 1)).drop (k + 1 + vs.length) = l.drop (k + (vs.length + 1)) := by
    rw [List.drop_append]
    have : (l.take k).length = k := by simp; omega
    rw [this, List.drop_of_length_le (by omega), show k + 1 + vs.length - k = vs.length + 1 by omega]
    simp [List.drop_drop]
    congr 1; omega
  rw [e1, e2]
  simp

section ops
variable {P : Program} {o : Oper} {a : Act} {C : Ctx} {n : Nat} {T : Tmps} {cf : CallF} {xf : ExtF} {base : Nat} {v : AV} {H' : Heap} {fp : FP}

theorem modify_modify {α : Type} (h : Array α) (b : Nat) (x y : α) : (h.modify b (fun _ => x)).modify b (fun _ => y) = h.modify b (fun _ => y) := by
  apply Array.ext
  · simp
  · intro i h1 h2
    simp only [Array.getElem_modify]
    split <;> simp_all

theorem modify_self {α : Type} (h : Array α) (b : Nat) (x : α) (hx : h[b]? = some x) : h.modify b (fun _ => x) = h := by
  apply Array.ext
  · simp
  · intro i h1 h2
    simp only [Array.getElem_modify]
    split
    · rename_i e; subst e
      obtain ⟨_, h3⟩ := Array.getElem?_eq_some_iff.1 hx
      exact h3.symm
    · rfl

theorem run_storeCells_uf {b off : Nat} {el : TypeId} {fz : Nat × Nat} : ∀ (vs : List Value) (i : Nat) (c : Array Value) (w : World), w.heap[b]? = some (.cells c el fz) → unfrozen fz c.size →
    off + i + vs.length ≤ c.size → (∀ u ∈ vs, u.oneCell' = true) →
    (storeCells ⟨b, off, none⟩ vs i).run P w = .ok () (setObjAt w b (.cells (c.toList.take (off + i) ++ vs ++ c.toList.drop (off + i + vs.length)).toArray el fz))
  | [], i, c, w, hb, hf, hl, _ => by
    have e : (c.toList.take (off + i) ++ [] ++ c.toList.drop (off + i + ([] : List Value).length)).toArray = c := by simp
    rw [e]
    simp only [storeCells, setObjAt, modify_self _ _ _ hb]
    rfl
  | u :: vs, i, c, w, hb, hf, hl, h1 => by
    simp only [List.length_cons] at hl
    have hlt : off + i < c.size := by omega
    have hcell : w.cell? ⟨b, off + i, none⟩ = some c[off + i] := by simp [World.cell?, hb, hlt]
    have hfro : w.frozen? ⟨b, off + i, none⟩ = false := by
      simp only [World.frozen?, hb]
      have := hf.not hlt
      simpa using this
    have hset : w.setCell ⟨b, off + i, none⟩ u = setObjAt w b (.cells (c.setIfInBounds (off + i) u) el fz) := by
      unfold World.setCell setObjAt
      congr 1
      apply Array.ext
      · simp
      · intro k k1 k2
        simp only [Array.getElem_modify]
        split
        · rename_i e
          subst e
          obtain ⟨_, h3⟩ := Array.getElem?_eq_some_iff.1 hb
          rw [h3]; simp
        · rfl
    have hst : (store ((⟨b, off, none⟩ : Addr).add i) u).run P w = .ok () (setObjAt w b (.cells (c.setIfInBounds (off + i) u) el fz)) := by
      rw [Addr_add, run_store P w _ u _ (h1 u (by simp)), hcell]
      simp [hfro, hset]
    have hb' : (setObjAt w b (.cells (c.setIfInBounds (off + i) u) el fz)).heap[b]? = some (.cells (c.setIfInBounds (off + i) u) el fz) := by
      simp [setObjAt, Array.getElem?_modify, hb]
    have ih := run_storeCells_uf (off := off) vs (i + 1) _ _ hb' (by simpa using hf) (by simp; omega) (fun x hx => h1 x (by simp [hx]))
    simp only [storeCells, Sem.run_bind, hst, Result.andThen_ok, ih]
    congr 1
    unfold setObjAt
    simp only [modify_modify]
    congr 4
    have := list_set_mid c.toList vs (off + i) u (by simp; omega)
    simp only [Array.toList_setIfInBounds, List.length_cons]
    rw [show off + (i + 1) = off + i + 1 by omega, this, show off + i + (vs.length + 1) = off + i + (vs.length + 1) from rfl]

theorem storable_cells {r t : Bool} {e : AV} {u : Value} (hs : storable e = true) (h : VR C r t e u) : VRL C r t e.cells u.cells.toList := by
  cases e with
  | agg cs =>
    simp only [VR] at h
    obtain ⟨vs, rfl, h⟩ := h
    exact h
  | junk => simp [storable] at hs
  | undef => simp [storable] at hs
  | tup l => simp [storable] at hs
  | int k m => have hv := h; simp only [VR] at h; subst h; exact ⟨_, [], rfl, rfl, hv, rfl⟩
  | bool b => have hv := h; simp only [VR] at h; subst h; exact ⟨_, [], rfl, rfl, hv, rfl⟩
  | str b => have hv := h; simp only [VR] at h; subst h; exact ⟨_, [], rfl, rfl, hv, rfl⟩
  | nilp => have hv := h; simp only [VR] at h; subst h; exact ⟨_, [], rfl, rfl, hv, rfl⟩
  | nilf => have hv := h; simp only [VR] at h; subst h; exact ⟨_, [], rfl, rfl, hv, rfl⟩
  | ptr j g ver s i off => have hv := h; simp only [VR] at h; obtain ⟨_, _, ad, rfl, _⟩ := h; exact ⟨_, [], rfl, rfl, hv, rfl⟩
  | iptr tt cs => have hv := h; simp only [VR] at h; obtain ⟨_, b, off, vs, rfl, _⟩ := h; exact ⟨_, [], rfl, rfl, hv, rfl⟩
  | slc j g ver s off len cap => have hv := h; simp only [VR] at h; obtain ⟨_, _, ad, cap', rfl, _⟩ := h; exact ⟨_, [], rfl, rfl, hv, rfl⟩
  | islc tt full s es => have hv := h; simp only [VR] at h; obtain ⟨_, ad, cap', rfl, _⟩ := h; exact ⟨_, [], rfl, rfl, hv, rfl⟩
  | fn f cs => have hv := h; simp only [VR] at h; obtain ⟨vs, rfl, _⟩ := h; exact ⟨_, [], rfl, rfl, hv, rfl⟩
  | mp j g => have hv := h; simp only [VR] at h; obtain ⟨_, _, b, rfl, _⟩ := h; exact ⟨_, [], rfl, rfl, hv, rfl⟩

theorem EL_of {r t : Bool} {s : Nat} {e : AV} {u : Value} (hs : storable e = true) (hl : e.cells.length = s) (h : VR C r t e u) : EL C r t s e u.cells.toList := ⟨hl, storable_cells hs h⟩

/-- A new row's name. -/
theorem VR_new {C' : Ctx} {j s g : Nat} {es : List AV} {b : Nat} {c : Array Value} {el : TypeId} {fz : Nat × Nat} {cap' len : Nat} (hH : C'.H j = ⟨g, false, .row s es⟩) (hμ : C'.μ j = b)
    (hb : C'.w.heap[b]? = some (.cells c el fz)) (hc : cap' * s ≤ c.size) (hl : es.length ≤ cap') (hlen : len ≤ cap') (h0 : es.length = 0 → cap' = 0) {r : Bool} (hr : r = true) {t : Bool} :
    VR C' r t (.slc j g es.length s 0 len none) (.slice (some ⟨b, 0, none⟩) len cap') := by
  simp only [VR]
  refine ⟨hr, ⟨by rw [hH]; exact Nat.le_refl _, fun _ s' es' hs => ?_⟩, _, cap', rfl, hlen, fun es' hes => ⟨h0, by simpa using hl, fun ho hc0 => ⟨by simp [hμ], el, c.size, ?_, by simpa using hc⟩⟩⟩
  · rw [hH] at hs; cases hs; exact Nat.le_refl _
  · rw [hμ]; simp [World.shape?, hb]

theorem ok_box {e : TypeId} {sx : SArg} {site : Nat} {x' : Value} (hrun : ∀ w, (execOp a.eval o).run P w = .ok (.value (.pointer (some ⟨w.heap.size, 0, none⟩))) (w.alloc (.cells x'.cells e)))
    (hx : VR C true true (sx.ev T) x') (hR : Rel C)
    (h : aop cf xf base T C.H (.box site sx) = some (v, H', fp)) : StepOk P o a C v H' := by
  simp only [aop] at h
  split at h
  · simp at h
  · rename_i hst
    simp at hst
    simp only [Option.some.injEq, Prod.mk.injEq] at h
    obtain ⟨rfl, rfl, _⟩ := h
    have hcs := storable_cells hst hx
    have hl := VRL.length hcs
    have hlx : x'.cells.size = (SArg.ev T sx).cells.length := by simpa using hl
    obtain ⟨hE, hR'⟩ := alloc_row hR (base + site) (SArg.ev T sx).cells.length [SArg.ev T sx] x'.cells e (0, 0) (.inl rfl) (by simp [hlx])
      (by
        have := crl_single (EL_of (C := C) (s := (SArg.ev T sx).cells.length) hst rfl hx)
        rwa [List.take_of_length_le (by simp [hlx])])
    refine ⟨_, _, _, .inl (hrun C.w), hE, hR', ?_⟩
    simp only [VR]
    refine ⟨trivial, ⟨by simp [Heap.newRow], fun _ s es hs => ?_⟩, _, rfl, fun es _ _ => by simp⟩
    simp [Heap.newRow] at hs
    obtain ⟨_, rfl⟩ := hs
    simp

theorem ok_box_box {e : TypeId} {x : Operand} {sx : SArg} {site : Nat} (ho : o.op = .box e x) (hR : Rel C) (hT : TR C n T a.tmps) (hx : sarg x = some sx)
    (h : aop cf xf base T C.H (.box site sx) = some (v, H', fp)) : StepOk P o a C v H' :=
  ok_box (e := e) (x' := a.eval x) (fun w => by simp [execOp, ho, Instr.box, newVar, newRow]) (VR_arg hT hx) hR h

theorem ok_box_alloc {e : TypeId} {site : Nat} {z : AV} (ho : o.op = .alloc e) (hz : zeroOf? P e = some z) (hR : Rel C)
    (h : aop cf xf base T C.H (.box site (.c z)) = some (v, H', fp)) : StepOk P o a C v H' := by
  unfold zeroOf? at hz
  cases hi : P.info? e with
  | none => simp [hi] at hz
  | some i =>
    cases hzz : i.zero with
    | none => simp [hi, hzz] at hz
    | some z' =>
      simp [hi, hzz] at hz
      refine ok_box (e := e) (x' := z') (sx := .c z) (fun w => ?_) (VR_cvt hz) hR h
      simp [execOp, ho, Instr.alloc, zeroValue, typeInfo, hi, hzz, newVar, newRow]

theorem elemInfo_some {e : TypeId} {s : Nat} {z : AV} (h : elemInfo P e = some (s, z)) :
    ∃ i z', P.info? e = some i ∧ i.zero = some z' ∧ cvt z' = some z ∧ i.size = s ∧ 0 < s ∧ 0 < i.bytes ∧ i.bytes ≤ 1024 ∧ z.cells.length = s ∧ z'.cells.size = s ∧ storable z = true := by
  unfold elemInfo at h
  split at h
  · rename_i i hi
    split at h
    · rename_i z' hz
      split at h
      · rename_i a' ha
        split at h
        · rename_i hc
          simp at h
          obtain ⟨rfl, rfl⟩ := h
          exact ⟨i, z', hi, hz, ha, rfl, hc.1, hc.2.1, hc.2.2.1, hc.2.2.2.1, hc.2.2.2.2.1, hc.2.2.2.2.2⟩
        · simp at h
      · simp at h
    · simp at h
  · simp at h

theorem elemOf_some {t e : TypeId} (h : elemOf? P t = some e) : P.underlying t = some (.slice e) := by
  unfold elemOf? at h
  split at h
  · rename_i e' he; simp at h; subst h; exact he
  · simp at h

theorem ok_nilrow {x : Operand} {site s : Nat} (ho : o.op = .assign x) (hn : isNilSlice x = true) (hR : Rel C)
    (h : aop cf xf base T C.H (.nilrow site s) = some (v, H', fp)) : StepOk P o a C v H' := by
  simp only [aop, Option.some.injEq, Prod.mk.injEq] at h
  obtain ⟨rfl, rfl, _⟩ := h
  obtain ⟨hE, hR'⟩ := nil_row hR (base + site) s
  have hx : a.eval x = .slice none 0 0 := by
    unfold isNilSlice at hn
    split at hn
    · rfl
    · simp at hn
  refine ⟨.slice none 0 0, C.μ, C.w, .inl (by simp [execOp, ho, hx]), hE, hR', ?_⟩
  simp only [VR]
  refine ⟨trivial, ⟨by simp [Heap.newRow], fun _ s' es hs => by simp⟩, none, 0, rfl, Nat.le_refl _, fun es _ => ⟨fun _ => rfl, by simp, fun h => by simp at h⟩⟩

theorem range_mod {α : Type} [Inhabited α] (z : Array α) (k : Nat) (hk : z.size = k) : ∀ m, (List.range (m * k)).map (fun i => z[i % k]!) = (List.replicate m z.toList).flatten
  | 0 => by simp
  | m + 1 => by
    rw [Nat.add_mul, Nat.one_mul, List.range_add, List.map_append, range_mod z k hk m, List.replicate_succ', List.flatten_append]
    congr 1
    simp only [List.map_map, List.flatten_singleton]
    apply List.ext_getElem
    · simp [hk]
    · intro i h1 h2
      simp at h1 h2
      simp [Nat.mod_eq_of_lt h1, hk, h1]

theorem mkcells {s m : Nat} {z : AV} {z' : Value} (h3 : cvt z' = some z) (hl : z.cells.length = s) (hs : z'.cells.size = s) (hst : storable z = true) :
    CRL C true true s (List.replicate m z) ((Array.range (m * s)).map (z'.cells[· % z'.cells.size]!)).toList := by
  have := CRL.replicate (EL_of (C := C) (r := true) (t := true) hst hl (VR_cvt h3)) m
  rw [Array.toList_map, Array.toList_range, hs, range_mod _ _ hs]
  exact this

theorem ok_mks {t e : TypeId} {l c : Operand} {sl sc : SArg} {site s : Nat} {z : AV} (ho : o.op = .makeSlice t l c) (hu : elemOf? P t = some e) (hi : elemInfo P e = some (s, z)) (hR : Rel C) (hT : TR C n T a.tmps) (hl : sarg l = some sl) (hc : sarg c = some sc)
    (h : aop cf xf base T C.H (.mks site s z sl sc) = some (v, H', fp)) : StepOk P o a C v H' := by
  obtain ⟨i, z', i1, i2, i3, i4, i5, i6, i7, i8, i9, i10⟩ := elemInfo_some hi
  have hl' := VR_arg hT hl
  have hc' := VR_arg hT hc
  simp only [aop] at h
  cases e1 : natOf (sl.ev T) with
  | none => simp [e1] at h
  | some l0 =>
  cases e2 : natOf (sc.ev T) with
  | none => simp [e1, e2] at h
  | some c0 =>
  obtain ⟨k1, hl'⟩ := natOf_ok hl' e1
  obtain ⟨k2, hc'⟩ := natOf_ok hc' e2
  simp only [e1, e2, Option.bind_eq_bind, Option.bind_some] at h
  split at h
  · rename_i hcnd
    obtain ⟨b1, b2, _⟩ := hcnd
    simp only [Option.some.injEq, Prod.mk.injEq] at h
    obtain ⟨rfl, rfl, _⟩ := h
    unfold roomy at b2
    have hbytes : i.bytes * c0 ≤ 1024 * 68719476736 := Nat.mul_le_mul i7 b2
    have hrun : (execOp a.eval o).run P C.w = .ok (.value (.slice (some ⟨C.w.heap.size, 0, none⟩) l0 c0)) (C.w.alloc (.cells ((Array.range (c0 * s)).map (z'.cells[· % z'.cells.size]!)) e)) := by
      have w1 : IntKind.i64.wrap (l0 : Int) = l0 := by simp [IntKind.wrap, IntKind.bits, IntKind.signed]; omega
      have w2 : IntKind.i64.wrap (c0 : Int) = c0 := by simp [IntKind.wrap, IntKind.bits, IntKind.signed]; omega
      have hb : ¬ ((i.bytes : Int) * (c0 : Int) > 2 ^ 48) := by
        have : ((i.bytes * c0 : Nat) : Int) ≤ ((1024 * 68719476736 : Nat) : Int) := Int.ofNat_le.2 hbytes
        simp at this ⊢; omega
      have hne : ¬ ((l0 : Int) > (c0 : Int)) := by omega
      by_cases hz : c0 = 0
      · subst hz
        have : l0 = 0 := by omega
        subst this
        simp [execOp, ho, Instr.makeSlice, run_underlying (elemOf_some hu), hl', hc', asInt, asIntOf, typeInfo, i1, sizeOf, newRow, IntKind.wrap, IntKind.bits, IntKind.signed]
        congr 2
        rw [show Array.range 0 = #[] from rfl]; simp
      · have hnz : c0 * i.size ≠ 0 := by
          rw [i4]; exact Nat.mul_ne_zero hz (by omega)
        simp [execOp, ho, Instr.makeSlice, run_underlying (elemOf_some hu), hl', hc', asInt, asIntOf, typeInfo, i1, sizeOf, newRow, w1, w2, zeroValue, i2, hne, hnz]
        rw [if_neg (by simp at hb; omega)]
        simp [i4]
    have hcr := mkcells (C := C) (m := c0) i3 i8 i9 i10
    obtain ⟨hE, hR'⟩ := alloc_row hR (base + site) s (List.replicate c0 z) ((Array.range (c0 * s)).map (z'.cells[· % z'.cells.size]!)) e (0, 0) (.inl rfl) (by simp)
      (by rw [List.take_of_length_le (by simp)]; exact hcr)
    refine ⟨_, _, _, .inl hrun, hE, hR', ?_⟩
    have := VR_new (C' := ⟨C.F, updN C.μ (base + site) C.w.heap.size, C.H.newRow (base + site) s (List.replicate c0 z), C.w.alloc (.cells ((Array.range (c0 * s)).map (z'.cells[· % z'.cells.size]!)) e)⟩)
      (j := base + site) (es := List.replicate c0 z) (s := s) (g := (C.H (base + site)).gen + 1) (cap' := c0) (len := l0) (by simp [Heap.newRow]) (by simp) (heap_alloc_new _ _) (by simp) (by simp) b1 (by simp) (r := true) rfl (t := true)
    simpa using this
  · simp at h

theorem freeze_new (w : World) (c : Array Value) (e : TypeId) (m : Nat) : (w.alloc (.cells c e)).freeze ⟨w.heap.size, m, none⟩ 1 = w.alloc (.cells c e (m, m + 1)) := by
  unfold World.freeze
  rw [if_neg (by decide)]
  show World.mk ((w.heap.push _).modify w.heap.size _) w.tape w.drawn w.os w.output = World.mk (w.heap.push _) w.tape w.drawn w.os w.output
  congr 1
  apply Array.ext
  · simp
  · intro i h1 h2
    simp only [Array.getElem_modify, Array.getElem_push]
    by_cases hi : w.heap.size = i
    · subst hi; simp
    · have : i < w.heap.size := by simp at h2; omega
      simp [hi, this]

theorem CRL_bytes {r t : Bool} : ∀ l : List UInt8, CRL C r t 1 (l.map fun c => AV.int .u8 c.toNat) (l.map fun c => Value.int .u8 c.toNat)
  | [] => rfl
  | c :: l => by
    simp only [List.map_cons, CRL]
    refine ⟨⟨rfl, by simp, .int .u8 c.toNat, by simp [VR], by simp [Value.cells], by simp [Value.oneCell']⟩, by simpa using CRL_bytes l⟩

theorem ok_s2b {s d e : TypeId} {x : Operand} {sx : SArg} {site : Nat} (ho : o.op = .convert s d x) (hs : P.underlying s = some .string) (hd : P.underlying d = some (.slice e)) (he : isU8 P e = true) (hR : Rel C) (hT : TR C n T a.tmps) (hx : sarg x = some sx)
    (h : aop cf xf base T C.H (.s2b site sx) = some (v, H', fp)) : StepOk P o a C v H' := by
  have hx' := VR_arg hT hx
  have he' : P.underlying e = some (.int .u8) := by
    unfold isU8 at he
    split at he
    · assumption
    · simp at he
  simp only [aop] at h
  split at h
  · rename_i b hq
    rw [hq] at hx'
    split at h
    · rename_i hpos
      simp only [Option.some.injEq, Prod.mk.injEq] at h
      obtain ⟨rfl, rfl, _⟩ := h
      simp only [VR] at hx'
      let cap := Question.cut (.appendCap b.size 0 e) (C.w.tape C.w.drawn (.appendCap b.size 0 e))
      have hcap : b.size ≤ cap := Nat.le_add_right _ _
      let cells : Array Value := (b.data.map fun b => .int .u8 b.toNat) ++ Array.replicate (cap - b.size) (.int .u8 0)
      have hcs : cells.size = cap := by simp only [cells, Array.size_append, Array.size_map, Array.size_replicate]; show b.size + _ = _; omega
      have hrun : (execOp a.eval o).run P C.w = .ok (.value (.slice (some ⟨C.w.heap.size, 0, none⟩) b.size cap)) (C.w.drew.alloc (.cells cells e (cells.size, cells.size + 1))) := by
        have hsh : (C.w.drew.alloc (.cells cells e)).shape? C.w.heap.size = some (e, cells.size) := by
          simp only [World.shape?]
          have := heap_alloc_new C.w.drew (.cells cells e)
          rw [World.size_drew] at this
          rw [this]
        have hfr := freeze_new C.w.drew cells e cells.size
        rw [World.size_drew] at hfr
        have hs2b : (Conv.stringToBytes e b).run P C.w = .ok (.slice (some ⟨C.w.heap.size, 0, none⟩) b.size cap) (C.w.drew.alloc (.cells cells e (cells.size, cells.size + 1))) := by
          unfold Conv.stringToBytes
          simp only [Sem.run_bind, run_choose, Question.forced, Bool.false_eq_true, if_false, Result.andThen_ok, newRow, run_newObj, Sem.run_pure, World.drew_eq, World.alloc_eq, markStringish, run_shape, World.size_drew]
          rw [show (C.w.drew.alloc (.cells ((Array.map (fun b => Value.int IntKind.u8 ↑b.toNat) b.data) ++ Array.replicate (Question.cut (.appendCap b.size 0 e) (C.w.tape C.w.drawn (.appendCap b.size 0 e)) - b.size) (Value.int IntKind.u8 0)) e)).shape? C.w.heap.size = some (e, cells.size) from hsh]
          simp only [run_freeze, Result.andThen_ok]
          exact congrArg (fun w => Result.ok (Value.slice (some ⟨C.w.heap.size, 0, none⟩) b.size cap) w) hfr
        simp [execOp, ho, hx', convert, run_underlying hs, run_underlying hd, run_underlying he', hs2b]
      obtain ⟨hE0, hR0⟩ := same_heap hR C.w.drew rfl rfl rfl rfl
      have hbs : b.data.toList.length = b.size := by rw [Array.length_toList]; rfl
      have hlen : (b.data.toList.map fun c => AV.int .u8 c.toNat).length = b.size := by rw [List.length_map]; exact hbs
      obtain ⟨hE, hR'⟩ := alloc_row hR0 (base + site) 1 (b.data.toList.map fun c => .int .u8 c.toNat) cells e (cells.size, cells.size + 1) (.inr (Nat.le_refl _)) (by rw [hlen, hcs]; omega)
        (by
          have := CRL_bytes (C := { C with w := C.w.drew }) (r := true) (t := true) b.data.toList
          have e1 : cells.toList.take ((b.data.toList.map fun c => AV.int .u8 c.toNat).length * 1) = b.data.toList.map fun c => Value.int .u8 c.toNat := by
            simp only [cells, Array.toList_append, Array.toList_map, List.length_map, Nat.mul_one]
            rw [List.take_append_of_le_length (by simp), List.take_of_length_le (by simp)]
          rw [e1]; exact this)
      refine ⟨_, _, _, .inl hrun, hE0.trans hE, hR', ?_⟩
      have := VR_new (C' := ⟨C.F, updN C.μ (base + site) C.w.drew.heap.size, C.H.newRow (base + site) 1 (b.data.toList.map fun c => .int .u8 c.toNat), C.w.drew.alloc (.cells cells e (cells.size, cells.size + 1))⟩)
        (j := base + site) (es := b.data.toList.map fun c => .int .u8 c.toNat) (s := 1) (g := (C.H (base + site)).gen + 1) (cap' := cap) (len := b.size) (by simp [Heap.newRow]) (by simp) (heap_alloc_new _ _) (by omega) (by omega) hcap (by omega) (r := true) rfl (t := true)
      rw [hlen] at this
      simpa using this
    · simp at h
  · simp at h

theorem elemsOf_ok {x : AV} {x' : Value} {s : Nat} {es : List AV} {js : List Nat} (hR : Rel C) (hx : VR C true true x x') (h : elemsOf C.H s x = some (es, js)) :
    (∃ ad cap vs, x' = .slice ad es.length cap ∧ CRL C true true s es vs ∧ (es ≠ [] → ∃ b off, ad = some ⟨b, off, none⟩ ∧ rowAt C.w b off vs)) ∨
    (∃ b, x' = .string b ∧ s = 1 ∧ es = b.data.toList.map fun c => .int .u8 c.toNat) := by
  unfold elemsOf at h
  split at h
  · rename_i tt full s' es0
    split at h
    · rename_i hc
      simp at h
      obtain ⟨rfl, rfl⟩ := h
      simp only [VR] at hx
      obtain ⟨htt, ad, cap', rfl, h1, h2, h3⟩ := hx
      left
      by_cases hne : es0 = []
      · subst hne
        exact ⟨ad, cap', [], rfl, rfl, fun h => absurd rfl h⟩
      · have hs : s' = s := hc.elim (fun h0 => absurd (isNil_iff.1 h0) hne) id
        subst hs
        obtain ⟨b, off, vs, rfl, k1, k2, k3⟩ := h3 hne
        exact ⟨_, cap', vs, rfl, CRL.weak (by simp) (by simp) k3, fun _ => ⟨b, off, rfl, k2⟩⟩
    · simp at h
  · rename_i j g ver s' off len cap
    split at h
    · rename_i es0 hes
      split at h
      · rename_i hc
        obtain ⟨rfl, hle⟩ := hc
        simp at h
        obtain ⟨rfl, rfl⟩ := h
        simp only [VR] at hx
        obtain ⟨_, _, ad, cap', rfl, hcap, hk⟩ := hx
        obtain ⟨k1, k2, k3⟩ := hk es0 hes
        have hes' := row_some.1 hes
        have hlen : ((es0.drop off).take len).length = len := by simp; omega
        left
        rw [hlen]
        by_cases hne : es0 = []
        · subst hne
          exact ⟨ad, cap', [], rfl, by simp [CRL], fun h => by simp at h⟩
        · obtain ⟨_, c, el, fz, hobj, hok⟩ := hR.mem hes'.2.1 hne
          refine ⟨ad, cap', _, rfl, (hok.cells.drop off).take len, fun hne' => ?_⟩
          have hl : 0 < len := by rw [← hlen]; exact List.length_pos_iff.2 hne'
          obtain ⟨k4, _⟩ := k3 (by omega) (by omega)
          refine ⟨C.μ j, off * s', k4, ?_⟩
          have := ((rowAt_block (w := C.w) hobj (es0.length * s')).drop (off * s')).take (len * s')
          simpa using this
      · simp at h
    · simp at h
  · rename_i b
    split at h
    · rename_i hs
      simp at h
      obtain ⟨rfl, rfl⟩ := h
      simp only [VR] at hx
      exact .inr ⟨b, hx, hs, rfl⟩
    · simp at h
  · simp at h

theorem ok_b2s {s d e : TypeId} {x : Operand} {sx : SArg} (ho : o.op = .convert s d x) (hs : P.underlying s = some (.slice e)) (hd : P.underlying d = some .string) (he : isU8 P e = true) (hR : Rel C) (hT : TR C n T a.tmps) (hx : sarg x = some sx)
    (h : aop cf xf base T C.H (.b2s sx) = some (v, H', fp)) : StepOk P o a C v H' := by
  have hx' := VR_arg hT hx
  have he' : P.underlying e = some (.int .u8) := by
    unfold isU8 at he
    split at he
    · assumption
    · simp at he
  simp only [aop] at h
  split at h
  · simp at h
  rename_i hnstr
  cases e1 : elemsOf C.H 1 (sx.ev T) with
  | none => simp [e1] at h
  | some p =>
    obtain ⟨es, js⟩ := p
    simp only [e1, Option.bind_eq_bind, Option.bind_some] at h
    cases e2 : bytesOf es with
    | none => simp [e2] at h
    | some bs =>
      simp only [e2, Option.bind_some, Option.some.injEq, Prod.mk.injEq] at h
      obtain ⟨rfl, rfl, _⟩ := h
      rcases elemsOf_ok hR hx' e1 with ⟨ad, cap, vs, hv, hc, hm⟩ | ⟨b, hv, _, _⟩
      · have hkey : ∀ {es : List AV} {vs : List Value} {bs : List UInt8}, CRL C true true 1 es vs → bytesOf es = some bs →
            ∃ ns : List Int, vs = ns.map (Value.int .u8) ∧ bs = ns.map (fun n => UInt8.ofNat n.toNat) := by
          intro es
          induction es with
          | nil => intro vs bs h1 h2; simp only [CRL] at h1; subst h1; simp [bytesOf] at h2; exact ⟨[], rfl, by simp [h2]⟩
          | cons e es ih =>
            intro vs bs h1 h2
            rw [crl_cons] at h1
            unfold bytesOf at h2
            split at h2
            · rename_i h9; simp at h9
            · rename_i m r h9
              simp only [List.cons.injEq] at h9
              obtain ⟨rfl, rfl⟩ := h9
              simp only [Option.map_eq_some_iff] at h2
              obtain ⟨bs', e3, rfl⟩ := h2
              obtain ⟨ns, k1, k2⟩ := ih h1.2 e3
              have h3 := h1.1.2
              simp only [AV.cells, VRL] at h3
              obtain ⟨u, vs', k3, _, k4, rfl⟩ := h3
              simp only [VR] at k4
              subst k4
              refine ⟨m :: ns, ?_, by simp [k2]⟩
              have := List.take_append_drop 1 vs
              rw [k3, k1] at this
              rw [← this]; rfl
            · simp at h2
        obtain ⟨ns, k1, k2⟩ := hkey hc e2
        have hfold : ∀ (ns : List Int) (s : ByteArray), ns.foldl (fun r n => r.push (UInt8.ofNat n.toNat)) s = ⟨s.data ++ (ns.map fun n => UInt8.ofNat n.toNat).toArray⟩ := by
          intro ns
          induction ns with
          | nil => intro s; simp
          | cons m ns ih =>
            intro s
            rw [List.foldl_cons, ih]
            simp [ByteArray.push]
        refine stepOk_val hR (v' := .string ⟨bs.toArray⟩) ?_ (by simp [VR])
        have hl := CRL.length hc
        by_cases hne : es = []
        · subst hne
          simp only [CRL] at hc
          subst hc
          have : ns = [] := by simpa using k1.symm
          subst this
          simp at k2; subst k2
          cases ad with
          | none =>
            simp [execOp, ho, hv, run_convert_bytes_string C.w s d e none 0 cap hs he' hd, Conv.bytesToString]
            rfl
          | some ad =>
            have := run_bytesToString (P := P) C.w ad 0 cap [] (by simp [loadCells, loadCellsFrom])
            simp [execOp, ho, hv, run_convert_bytes_string C.w s d e (some ad) 0 cap hs he' hd, this]
            rfl
        · obtain ⟨b, off, rfl, hrow⟩ := hm hne
          have hll : es.length = vs.length := by omega
          have := run_bytesToString (P := P) C.w ⟨b, off, none⟩ es.length cap ns (by rw [hll, run_loadRow C.w hrow, k1])
          simp only [execOp, ho, hv, Sem.run_bind, run_convert_bytes_string C.w s d e _ _ _ hs he' hd, this, Result.andThen_ok, Sem.run_pure, hfold, k2]
          show Result.ok (Next.value (Value.string ⟨#[] ++ _⟩)) C.w = _
          simp
      · exfalso
        unfold elemsOf at e1
        split at e1
        · rename_i hq; rw [hq] at hx'; simp only [VR] at hx'; obtain ⟨_, _, _, h9, _⟩ := hx'; rw [hv] at h9; cases h9
        · rename_i hq; rw [hq] at hx'; simp only [VR] at hx'; obtain ⟨_, _, _, _, h9, _⟩ := hx'; rw [hv] at h9; cases h9
        · rename_i hq; rw [hq] at hnstr; simp [isStrV] at hnstr
        · simp at e1
end ops
end Go.AI
