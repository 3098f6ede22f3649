/- Lemmas. -/
import Derived.Test.YtkaiiopoilpjeaaGreatMA
import Derived.Laws.BytesString
import Derived.Great.BuildSlice
import Derived.Laws.Append
set_option linter.unusedSimpArgs false
set_option linter.unusedVariables false
namespace Go.AI
def Ge (w : World) (b : Nat) (x : Obj) : World := { w with heap := w.heap.modify b (fun _ => x) }
theorem gG {α : Type} (l vs : List α) (k : Nat) (v : α) (h : k + vs.length < l.length) :
  (l.set k v).take (k + 1) ++ vs ++ (l.set k v).drop (k + 1 + vs.length) = l.take k ++ (v :: vs) ++ l.drop (k + (vs.length + 1)) := by
 rw [List.set_eq_take_append_cons_drop, if_pos (by omega)]
 have e1 : (l.take k ++ v :: l.drop (k + 1)).take (k + 1) = l.take k ++ [v] := by
  rw [List.take_append]
  have : (l.take k).length = k := by simp; omega
  rw [this, Ai (by omega), Nat.add_sub_cancel_left]
  simp
 have e2 : (l.take k ++ v :: l.drop (k + 1)).drop (k + 1 + vs.length) = l.drop (k + (vs.length + 1)) := by
  rw [Ju]
  have : (l.take k).length = k := by simp; omega
  rw [this, Ce (by omega), show k + 1 + vs.length - k = vs.length + 1 by omega]
  simp [Np]
  congr 1; omega
 rw [e1, e2]
 simp
section ops
variable {P : Program} {o : Oper} {a : Act} {C : Ctx} {n : Nat} {T : Tmps} {cf : Dk} {xf : ExtF} {base : Nat} {v : AV} {H' : Heap} {fp : FP}
theorem uG {α : Type} (h : Array α) (b : Nat) (x y : α) : (h.modify b (fun _ => x)).modify b (fun _ => y) = h.modify b (fun _ => y) := by
 apply Bhu
 ·simp
 ·intro i h1 h2
  simp only [Yz]
  split <;> simp_all
theorem Aeq {α : Type} (h : Array α) (b : Nat) (x : α) (hx : h[b]? = some x) : h.modify b (fun _ => x) = h := by
 apply Bhu
 ·simp
 ·intro i h1 h2
  simp only [Yz]
  split
  ·rename_i e; subst e
   obtain ⟨_, h3⟩ := Fl.1 hx
   exact h3.symm
  ·rfl
theorem Iz {b off : Nat} {el : TypeId} {fz : Nat × Nat} : ∀ (vs : List Value) (i : Nat) (c : Array Value) (w : World), w.heap[b]? = some (.cells c el fz) → unfrozen fz c.size →
  off + i + vs.length ≤ c.size → (∀ u ∈ vs, u.oneCell' = true) →
  (storeCells ⟨b, off, none⟩ vs i).run P w = .ok () (Ge w b (.cells (c.toList.take (off + i) ++ vs ++ c.toList.drop (off + i + vs.length)).toArray el fz))
 | [], i, c, w, hb, hf, hl, _ => by
  have e : (c.toList.take (off + i) ++ [] ++ c.toList.drop (off + i + ([] : List Value).length)).toArray = c := by simp
  rw [e]
  simp only [storeCells, Ge, Aeq _ _ _ hb]
  rfl
 | u :: vs, i, c, w, hb, hf, hl, h1 => by
  simp only [Ao] at hl
  have hlt : off + i < c.size := by omega
  have hcell : w.cell? ⟨b, off + i, none⟩ = some c[off + i] := by simp [World.cell?, hb, hlt]
  have hfro : w.frozen? ⟨b, off + i, none⟩ = false := by
   simp only [World.frozen?, hb]
   have := hf.not hlt
   simpa using this
  have hset : w.setCell ⟨b, off + i, none⟩ u = Ge w b (.cells (c.setIfInBounds (off + i) u) el fz) := by
   unfold World.setCell Ge
   congr 1
   apply Bhu
   ·simp
   ·intro k k1 k2
    simp only [Yz]
    split
    ·rename_i e
     subst e
     obtain ⟨_, h3⟩ := Fl.1 hb
     rw [h3]; simp
    ·rfl
  have hst : (store ((⟨b, off, none⟩ : Addr).add i) u).run P w = .ok () (Ge w b (.cells (c.setIfInBounds (off + i) u) el fz)) := by
   rw [Po, run_store P w _ u _ (h1 u (by simp)), hcell]
   simp [hfro, hset]
  have hb' : (Ge w b (.cells (c.setIfInBounds (off + i) u) el fz)).heap[b]? = some (.cells (c.setIfInBounds (off + i) u) el fz) := by
   simp [Ge, Gg, hb]
  have ih := Iz (off := off) vs (i + 1) _ _ hb' (by simpa using hf) (by simp; omega) (fun x hx => h1 x (by simp [hx]))
  simp only [storeCells, Om, hst, Jd, ih]
  congr 1
  unfold Ge
  simp only [uG]
  congr 4
  have := gG c.toList vs (off + i) u (by simp; omega)
  simp only [Array.toList_setIfInBounds, Ao]
  rw [show off + (i + 1) = off + i + 1 by omega, this, show off + i + (vs.length + 1) = off + i + (vs.length + 1) from rfl]
theorem Ld {r t : Bool} {e : AV} {u : Value} (hs : Et e = true) (h : VR C r t e u) : VRL C r t e.cells u.cells.toList := by
 cases e with
 | agg cs =>
  simp only [VR] at h
  obtain ⟨vs, rfl, h⟩ := h
  exact h
 | junk => simp [Et] at hs
 | undef => simp [Et] at hs
 | tup l => simp [Et] at hs
 | int k m => have hv := h; simp only [VR] at h; subst h; exact ⟨_, [], rfl, rfl, hv, rfl⟩
 | bool b => have hv := h; simp only [VR] at h; subst h; exact ⟨_, [], rfl, rfl, hv, rfl⟩
 | str b => have hv := h; simp only [VR] at h; subst h; exact ⟨_, [], rfl, rfl, hv, rfl⟩
 | nilp => have hv := h; simp only [VR] at h; subst h; exact ⟨_, [], rfl, rfl, hv, rfl⟩
 | nilf => have hv := h; simp only [VR] at h; subst h; exact ⟨_, [], rfl, rfl, hv, rfl⟩
 | ptr j g ver s i off => have hv := h; simp only [VR] at h; obtain ⟨_, _, ad, rfl, _⟩ := h; exact ⟨_, [], rfl, rfl, hv, rfl⟩
 | iptr tt cs => have hv := h; simp only [VR] at h; obtain ⟨_, b, off, vs, rfl, _⟩ := h; exact ⟨_, [], rfl, rfl, hv, rfl⟩
 | slc j g ver s off len cap => have hv := h; simp only [VR] at h; obtain ⟨_, _, ad, cap', rfl, _⟩ := h; exact ⟨_, [], rfl, rfl, hv, rfl⟩
 | islc tt full s es => have hv := h; simp only [VR] at h; obtain ⟨_, ad, cap', rfl, _⟩ := h; exact ⟨_, [], rfl, rfl, hv, rfl⟩
 | fn f cs => have hv := h; simp only [VR] at h; obtain ⟨vs, rfl, _⟩ := h; exact ⟨_, [], rfl, rfl, hv, rfl⟩
 | mp j g => have hv := h; simp only [VR] at h; obtain ⟨_, _, b, rfl, _⟩ := h; exact ⟨_, [], rfl, rfl, hv, rfl⟩
theorem Aii {r t : Bool} {s : Nat} {e : AV} {u : Value} (hs : Et e = true) (hl : e.cells.length = s) (h : VR C r t e u) : EL C r t s e u.cells.toList := ⟨hl, Ld hs h⟩
theorem sZ {C' : Ctx} {j s g : Nat} {es : List AV} {b : Nat} {c : Array Value} {el : TypeId} {fz : Nat × Nat} {cap' len : Nat} (hH : C'.H j = ⟨g, false, .row s es⟩) (hμ : C'.μ j = b)
  (hb : C'.w.heap[b]? = some (.cells c el fz)) (hc : cap' * s ≤ c.size) (hl : es.length ≤ cap') (hlen : len ≤ cap') (h0 : es.length = 0 → cap' = 0) {r : Bool} (hr : r = true) {t : Bool} :
  VR C' r t (.slc j g es.length s 0 len none) (.slice (some ⟨b, 0, none⟩) len cap') := by
 simp only [VR]
 refine ⟨hr, ⟨by rw [hH]; exact Au _, fun _ s' es' hs => ?_⟩, _, cap', rfl, hlen, fun es' hes => ⟨h0, by simpa using hl, fun ho hc0 => ⟨by simp [hμ], el, c.size, ?_, by simpa using hc⟩⟩⟩
 ·rw [hH] at hs; cases hs; exact Au _
 ·rw [hμ]; simp [World.shape?, hb]
theorem Apl {e : TypeId} {sx : SArg} {site : Nat} {x' : Value} (hrun : ∀ w, (execOp a.eval o).run P w = .ok (.value (.pointer (some ⟨w.heap.size, 0, none⟩))) (w.alloc (.cells x'.cells e)))
  (hx : VR C true true (sx.ev T) x') (hR : Rel C)
  (h : aop cf xf base T C.H (.box site sx) = some (v, H', fp)) : Ed P o a C v H' := by
 simp only [aop] at h
 split at h
 ·simp at h
 ·rename_i hst
  simp at hst
  simp only [Ag, Am] at h
  obtain ⟨rfl, rfl, _⟩ := h
  have hcs := Ld hst hx
  have hl := VRL.length hcs
  have hlx : x'.cells.size = (SArg.ev T sx).cells.length := by simpa using hl
  obtain ⟨hE, hR'⟩ := Qx hR (base + site) (SArg.ev T sx).cells.length [SArg.ev T sx] x'.cells e (0, 0) (.inl rfl) (by simp [hlx])
   (by
    have := eF (Aii (C := C) (s := (SArg.ev T sx).cells.length) hst rfl hx)
    rwa [Ai (by simp [hlx])])
  refine ⟨_, _, _, .inl (hrun C.w), hE, hR', ?_⟩
  simp only [VR]
  refine ⟨trivial, ⟨by simp [Heap.newRow], fun _ s es hs => ?_⟩, _, rfl, fun es _ _ => by simp⟩
  simp [Heap.newRow] at hs
  obtain ⟨_, rfl⟩ := hs
  simp
theorem Ajm {e : TypeId} {sx : SArg} {site : Nat} {x' : Value} (hrun : ∀ w, (execOp a.eval o).run P w = .ok (.value (.pointer (some ⟨w.heap.size, 0, none⟩))) (w.alloc (.cells x'.cells e)))
  (hx : VR C true true (sx.ev T) x') (hR : Rel C)
  (h : aop cf xf base T C.H (.boxF site sx) = some (v, H', fp)) : Ed P o a C v H' := by
 simp only [aop] at h
 split at h
 ·simp at h
 ·rename_i hst
  simp at hst
  simp only [Ag, Am] at h
  obtain ⟨rfl, rfl, _⟩ := h
  have hcs := Ld hst.1 hx
  have hl := VRL.length hcs
  have hlx : x'.cells.size = (SArg.ev T sx).cells.length := by simpa using hl
  obtain ⟨hE, hR'⟩ := Qx hR (base + site) 1 (SArg.ev T sx).cells x'.cells e (0, 0) (.inl rfl) (by simp [hlx])
   (by
    have := hZ hcs (fY hcs)
    rwa [Ai (by simp [hlx])])
  refine ⟨_, _, _, .inl (hrun C.w), hE, hR', ?_⟩
  simp only [VR]
  refine ⟨trivial, ⟨by simp [Heap.newRow], fun _ s es hs => ?_⟩, _, rfl, fun es _ _ => by simp⟩
  simp [Heap.newRow] at hs
  obtain ⟨_, rfl⟩ := hs
  simp
theorem Aci {e : TypeId} {x : Operand} {sx : SArg} {site : Nat} (ho : o.op = .box e x) (hR : Rel C) (hT : TR C n T a.tmps) (hx : sarg x = some sx)
  (h : aop cf xf base T C.H (.boxF site sx) = some (v, H', fp)) : Ed P o a C v H' :=
 Ajm (e := e) (x' := a.eval x) (fun w => by simp [execOp, ho, Instr.box, newVar, newRow]) (Dn hT hx) hR h
theorem uF {e : TypeId} {site : Nat} {z : AV} (ho : o.op = .alloc e) (hz : zeroOf? P e = some z) (hR : Rel C)
  (h : aop cf xf base T C.H (.boxF site (.c z)) = some (v, H', fp)) : Ed P o a C v H' := by
 unfold zeroOf? at hz
 cases hi : P.info? e with
 | none => simp [hi] at hz
 | some i =>
  cases hzz : i.zero with
  | none => simp [hi, hzz] at hz
  | some z' =>
   simp [hi, hzz] at hz
   refine Ajm (e := e) (x' := z') (sx := .c z) (fun w => ?_) (lF hz) hR h
   simp [execOp, ho, Instr.alloc, zeroValue, typeInfo, hi, hzz, newVar, newRow]
theorem Afv {e : TypeId} {x : Operand} {sx : SArg} {site : Nat} (ho : o.op = .box e x) (hR : Rel C) (hT : TR C n T a.tmps) (hx : sarg x = some sx)
  (h : aop cf xf base T C.H (.box site sx) = some (v, H', fp)) : Ed P o a C v H' :=
 Apl (e := e) (x' := a.eval x) (fun w => by simp [execOp, ho, Instr.box, newVar, newRow]) (Dn hT hx) hR h
theorem Aay {e : TypeId} {site : Nat} {z : AV} (ho : o.op = .alloc e) (hz : zeroOf? P e = some z) (hR : Rel C)
  (h : aop cf xf base T C.H (.box site (.c z)) = some (v, H', fp)) : Ed P o a C v H' := by
 unfold zeroOf? at hz
 cases hi : P.info? e with
 | none => simp [hi] at hz
 | some i =>
  cases hzz : i.zero with
  | none => simp [hi, hzz] at hz
  | some z' =>
   simp [hi, hzz] at hz
   refine Apl (e := e) (x' := z') (sx := .c z) (fun w => ?_) (lF hz) hR h
   simp [execOp, ho, Instr.alloc, zeroValue, typeInfo, hi, hzz, newVar, newRow]
theorem Md {e : TypeId} {s : Nat} {z : AV} (h : Ib P e = some (s, z)) :
  ∃ i z', P.info? e = some i ∧ i.zero = some z' ∧ cvt z' = some z ∧ i.size = s ∧ 0 < s ∧ 0 < i.bytes ∧ i.bytes ≤ 1024 ∧ z.cells.length = s ∧ z'.cells.size = s ∧ Et z = true := by
 unfold Ib at h
 split at h
 ·rename_i i hi
  split at h
  ·rename_i z' hz
   split at h
   ·rename_i a' ha
    split at h
    ·rename_i hc
     simp at h
     obtain ⟨rfl, rfl⟩ := h
     exact ⟨i, z', hi, hz, ha, rfl, hc.1, hc.2.1, hc.2.2.1, hc.2.2.2.1, hc.2.2.2.2.1, hc.2.2.2.2.2⟩
    ·simp at h
   ·simp at h
  ·simp at h
 ·simp at h
theorem Kj {t e : TypeId} (h : elemOf? P t = some e) : P.underlying t = some (.slice e) := by
 unfold elemOf? at h
 split at h
 ·rename_i e' he; simp at h; subst h; exact he
 ·simp at h
theorem Alk {x : Operand} {site s : Nat} (ho : o.op = .assign x) (hn : Qs x = true) (hR : Rel C)
  (h : aop cf xf base T C.H (.nilrow site s) = some (v, H', fp)) : Ed P o a C v H' := by
 simp only [aop, Ag, Am] at h
 obtain ⟨rfl, rfl, _⟩ := h
 obtain ⟨hE, hR'⟩ := Atr hR (base + site) s
 have hx : a.eval x = .slice none 0 0 := by
  unfold Qs at hn
  split at hn
  ·rfl
  ·simp at hn
 refine ⟨.slice none 0 0, C.μ, C.w, .inl (by simp [execOp, ho, hx]), hE, hR', ?_⟩
 simp only [VR]
 refine ⟨trivial, ⟨by simp [Heap.newRow], fun _ s' es hs => by simp⟩, none, 0, rfl, Au _, fun es _ => ⟨fun _ => rfl, by simp, fun h => by simp at h⟩⟩
theorem jZ {α : Type} [Inhabited α] (z : Array α) (k : Nat) (hk : z.size = k) : ∀ m, (List.range (m * k)).map (fun i => z[i % k]!) = (List.replicate m z.toList).flatten
 | 0 => by simp
 | m + 1 => by
  rw [Dj, Arv, List.range_add, Bq, jZ z k hk m, List.replicate_succ', List.flatten_append]
  congr 1
  simp only [Ha, List.flatten_singleton]
  apply Yg
  ·simp [hk]
  ·intro i h1 h2
   simp at h1 h2
   simp [Nat.mod_eq_of_lt h1, hk, h1]
theorem Aiv {s m : Nat} {z : AV} {z' : Value} (h3 : cvt z' = some z) (hl : z.cells.length = s) (hs : z'.cells.size = s) (hst : Et z = true) :
  CRL C true true s (List.replicate m z) ((Array.range (m * s)).map (z'.cells[· % z'.cells.size]!)).toList := by
 have := CRL.replicate (Aii (C := C) (r := true) (t := true) hst hl (lF h3)) m
 rw [Array.toList_map, Array.toList_range, hs, jZ _ _ hs]
 exact this
theorem Anz {t e : TypeId} {l c : Operand} {sl sc : SArg} {site s : Nat} {z : AV} (ho : o.op = .makeSlice t l c) (hu : elemOf? P t = some e) (hi : Ib P e = some (s, z)) (hR : Rel C) (hT : TR C n T a.tmps) (hl : sarg l = some sl) (hc : sarg c = some sc)
  (h : aop cf xf base T C.H (.mks site s z sl sc) = some (v, H', fp)) : Ed P o a C v H' := by
 obtain ⟨i, z', i1, i2, i3, i4, i5, i6, i7, i8, i9, i10⟩ := Md hi
 have hl' := Dn hT hl
 have hc' := Dn hT hc
 simp only [aop] at h
 cases e1 : Fz (sl.ev T) with
 | none => simp [e1] at h
 | some l0 =>
 cases e2 : Fz (sc.ev T) with
 | none => simp [e1, e2] at h
 | some c0 =>
 obtain ⟨k1, hl'⟩ := Te hl' e1
 obtain ⟨k2, hc'⟩ := Te hc' e2
 simp only [e1, e2, Ad, Ab] at h
 split at h
 ·rename_i hcnd
  obtain ⟨b1, b2, _⟩ := hcnd
  simp only [Ag, Am] at h
  obtain ⟨rfl, rfl, _⟩ := h
  unfold Iy at b2
  have hbytes : i.bytes * c0 ≤ 1024 * 68719476736 := Abc i7 b2
  have hrun : (execOp a.eval o).run P C.w = .ok (.value (.slice (some ⟨C.w.heap.size, 0, none⟩) l0 c0)) (C.w.alloc (.cells ((Array.range (c0 * s)).map (z'.cells[· % z'.cells.size]!)) e)) := by
   have w1 : IntKind.i64.wrap (l0 : Int) = l0 := by simp [IntKind.wrap, IntKind.bits, IntKind.signed]; omega
   have w2 : IntKind.i64.wrap (c0 : Int) = c0 := by simp [IntKind.wrap, IntKind.bits, IntKind.signed]; omega
   have hb : ¬ ((i.bytes : Int) * (c0 : Int) > 2 ^ 48) := by
    have : ((i.bytes * c0 : Nat) : Int) ≤ ((1024 * 68719476736 : Nat) : Int) := Int.ofNat_le.2 hbytes
    simp at this ⊢; omega
   have hne : ¬ ((l0 : Int) > (c0 : Int)) := by omega
   by_cases hz : c0 = 0
   ·subst hz
    have : l0 = 0 := by omega
    subst this
    simp [execOp, ho, Instr.makeSlice, Ar (Kj hu), hl', hc', asInt, asIntOf, typeInfo, i1, sizeOf, newRow, IntKind.wrap, IntKind.bits, IntKind.signed]
    congr 2
    rw [show Array.range 0 = #[] from rfl]; simp
   ·have hnz : c0 * i.size ≠ 0 := by
     rw [i4]; exact Nat.mul_ne_zero hz (by omega)
    simp [execOp, ho, Instr.makeSlice, Ar (Kj hu), hl', hc', asInt, asIntOf, typeInfo, i1, sizeOf, newRow, w1, w2, zeroValue, i2, hne, hnz]
    rw [if_neg (by simp at hb; omega)]
    simp [i4]
  have hcr := Aiv (C := C) (m := c0) i3 i8 i9 i10
  obtain ⟨hE, hR'⟩ := Qx hR (base + site) s (List.replicate c0 z) ((Array.range (c0 * s)).map (z'.cells[· % z'.cells.size]!)) e (0, 0) (.inl rfl) (by simp)
   (by rw [Ai (by simp)]; exact hcr)
  refine ⟨_, _, _, .inl hrun, hE, hR', ?_⟩
  have := sZ (C' := ⟨C.F, updN C.μ (base + site) C.w.heap.size, C.H.newRow (base + site) s (List.replicate c0 z), C.w.alloc (.cells ((Array.range (c0 * s)).map (z'.cells[· % z'.cells.size]!)) e)⟩)
   (j := base + site) (es := List.replicate c0 z) (s := s) (g := (C.H (base + site)).gen + 1) (cap' := c0) (len := l0) (by simp [Heap.newRow]) (by simp) (Ir _ _) (by simp) (by simp) b1 (by simp) (r := true) rfl (t := true)
  simpa using this
 ·simp at h
theorem Arx {t e : TypeId} {l c : Operand} {sl sc : SArg} {site s : Nat} {z : AV} (ho : o.op = .makeSlice t l c) (hu : elemOf? P t = some e) (hi : Ib P e = some (s, z)) (hR : Rel C) (hT : TR C n T a.tmps) (hl : sarg l = some sl) (hc : sarg c = some sc)
  (h : aop cf xf base T C.H (.mksN site s z sl sc) = some (v, H', fp)) : Ed P o a C v H' := by
 have h2 : ∃ fp', aop cf xf 0 T C.H (.mks (Ko C.H (base + site) many) s z sl sc) = some (v, H', fp') := by
  simp only [aop] at h ⊢
  cases e1 : Fz (sl.ev T) with
  | none => simp [e1] at h
  | some l0 =>
  cases e2 : Fz (sc.ev T) with
  | none => simp [e1, e2] at h
  | some c0 =>
  simp only [e1, e2, Ad, Ab, Cq] at h ⊢
  split at h
  ·rename_i hcnd
   rw [if_pos hcnd]
   simp only [Ag, Am] at h
   obtain ⟨rfl, rfl, _⟩ := h
   exact ⟨_, rfl⟩
  ·simp at h
 obtain ⟨fp', h3⟩ := h2
 exact Anz ho hu hi hR hT hl hc h3
theorem kX {r t : Bool} : ∀ l : List UInt8, CRL C r t 1 (l.map fun c => AV.int .u8 c.toNat) (l.map fun c => Value.int .u8 c.toNat)
 | [] => rfl
 | c :: l => by
  simp only [Aw, CRL]
  refine ⟨⟨rfl, by simp, .int .u8 c.toNat, by simp [VR], by simp [Value.cells], by simp [Value.oneCell']⟩, by simpa using kX l⟩
theorem fB {x : AV} {x' : Value} {s : Nat} {es : List AV} {js : List Nat} (hR : Rel C) (hx : VR C true true x x') (h : Cy C.H s x = some (es, js)) :
  (∃ ad cap vs, x' = .slice ad es.length cap ∧ CRL C true true s es vs ∧ (es ≠ [] → ∃ b off, ad = some ⟨b, off, none⟩ ∧ rowAt C.w b off vs)) ∨
  (∃ b, x' = .string b ∧ s = 1 ∧ es = b.data.toList.map fun c => .int .u8 c.toNat) := by
 unfold Cy at h
 split at h
 ·rename_i tt full s' es0
  split at h
  ·rename_i hc
   simp at h
   obtain ⟨rfl, rfl⟩ := h
   simp only [VR] at hx
   obtain ⟨htt, ad, cap', rfl, h1, h2, h3⟩ := hx
   left
   by_cases hne : es0 = []
   ·subst hne
    exact ⟨ad, cap', [], rfl, rfl, fun h => absurd rfl h⟩
   ·have hs : s' = s := hc.elim (fun h0 => absurd (isNil_iff.1 h0) hne) id
    subst hs
    obtain ⟨b, off, vs, rfl, k1, k2, k3⟩ := h3 hne
    exact ⟨_, cap', vs, rfl, CRL.weak (by simp) (by simp) k3, fun _ => ⟨b, off, rfl, k2⟩⟩
  ·simp at h
 ·rename_i j g ver s' off len cap
  split at h
  ·rename_i es0 hes
   split at h
   ·rename_i hc
    obtain ⟨rfl, hle⟩ := hc
    simp at h
    obtain ⟨rfl, rfl⟩ := h
    simp only [VR] at hx
    obtain ⟨_, _, ad, cap', rfl, hcap, hk⟩ := hx
    obtain ⟨k1, k2, k3⟩ := hk es0 hes
    have hes' := row_some.1 hes
    have hlen : ((es0.drop off).take len).length = len := by simp; omega
    left
    rw [hlen]
    by_cases hne : es0 = []
    ·subst hne
     exact ⟨ad, cap', [], rfl, by simp [CRL], fun h => by simp at h⟩
    ·obtain ⟨_, c, el, fz, hobj, hok⟩ := hR.mem hes'.2.1 hne
     refine ⟨ad, cap', _, rfl, (hok.cells.drop off).take len, fun hne' => ?_⟩
     have hl : 0 < len := by rw [← hlen]; exact Gf.2 hne'
     obtain ⟨k4, _⟩ := k3 (by omega) (by omega)
     refine ⟨C.μ j, off * s', k4, ?_⟩
     have := ((Kp (w := C.w) hobj (es0.length * s')).drop (off * s')).take (len * s')
     simpa using this
   ·simp at h
  ·simp at h
 ·rename_i b
  split at h
  ·rename_i hs
   simp at h
   obtain ⟨rfl, rfl⟩ := h
   simp only [VR] at hx
   exact .inr ⟨b, hx, hs, rfl⟩
  ·simp at h
 ·simp at h
theorem Aws {s d e : TypeId} {x : Operand} {sx : SArg} (ho : o.op = .convert s d x) (hs : P.underlying s = some (.slice e)) (hd : P.underlying d = some .string) (he : isU8 P e = true) (hR : Rel C) (hT : TR C n T a.tmps) (hx : sarg x = some sx)
  (h : aop cf xf base T C.H (.b2s sx) = some (v, H', fp)) : Ed P o a C v H' := by
 have hx' := Dn hT hx
 have he' : P.underlying e = some (.int .u8) := by
  unfold isU8 at he
  split at he
  ·assumption
  ·simp at he
 simp only [aop] at h
 split at h
 ·simp at h
 rename_i hnstr
 cases e1 : Cy C.H 1 (sx.ev T) with
 | none => simp [e1] at h
 | some p =>
  obtain ⟨es, js⟩ := p
  simp only [e1, Ad, Ab] at h
  cases e2 : Rh es with
  | none => simp [e2] at h
  | some bs =>
   simp only [e2, Ab, Ag, Am] at h
   obtain ⟨rfl, rfl, _⟩ := h
   rcases fB hR hx' e1 with ⟨ad, cap, vs, hv, hc, hm⟩ | ⟨b, hv, _, _⟩
   ·have hkey : ∀ {es : List AV} {vs : List Value} {bs : List UInt8}, CRL C true true 1 es vs → Rh es = some bs →
      ∃ ns : List Int, vs = ns.map (Value.int .u8) ∧ bs = ns.map (fun n => UInt8.ofNat n.toNat) := by
     intro es
     induction es with
     | nil => intro vs bs h1 h2; simp only [CRL] at h1; subst h1; simp [Rh] at h2; exact ⟨[], rfl, by simp [h2]⟩
     | cons e es ih =>
      intro vs bs h1 h2
      rw [Lx] at h1
      unfold Rh at h2
      split at h2
      ·rename_i h9; simp at h9
      ·rename_i m r h9
       simp only [List.cons.injEq] at h9
       obtain ⟨rfl, rfl⟩ := h9
       simp only [Aq] at h2
       obtain ⟨bs', e3, rfl⟩ := h2
       obtain ⟨ns, k1, k2⟩ := ih h1.2 e3
       have h3 := h1.1.2
       simp only [AV.cells, VRL] at h3
       obtain ⟨u, vs', k3, _, k4, rfl⟩ := h3
       simp only [VR] at k4
       subst k4
       refine ⟨m :: ns, ?_, by simp [k2]⟩
       have := Hv 1 vs
       rw [k3, k1] at this
       rw [← this]; rfl
      ·simp at h2
    obtain ⟨ns, k1, k2⟩ := hkey hc e2
    have hfold : ∀ (ns : List Int) (s : ByteArray), ns.foldl (fun r n => r.push (UInt8.ofNat n.toNat)) s = ⟨s.data ++ (ns.map fun n => UInt8.ofNat n.toNat).toArray⟩ := by
     intro ns
     induction ns with
     | nil => intro s; simp
     | cons m ns ih =>
      intro s
      rw [Dz, ih]
      simp [ByteArray.push]
    refine Cg hR (v' := .string ⟨bs.toArray⟩) ?_ (by simp [VR])
    have hl := CRL.length hc
    by_cases hne : es = []
    ·subst hne
     simp only [CRL] at hc
     subst hc
     have : ns = [] := by simpa using k1.symm
     subst this
     simp at k2; subst k2
     cases ad with
     | none =>
      simp [execOp, ho, hv, run_convert_bytes_string C.w s d e none 0 cap hs he' hd, Conv.bytesToString]
      rfl
     | some ad =>
      have := run_bytesToString (P := P) C.w ad 0 cap [] (by simp [loadCells, loadCellsFrom])
      simp [execOp, ho, hv, run_convert_bytes_string C.w s d e (some ad) 0 cap hs he' hd, this]
      rfl
    ·obtain ⟨b, off, rfl, hrow⟩ := hm hne
     have hll : es.length = vs.length := by omega
     have := run_bytesToString (P := P) C.w ⟨b, off, none⟩ es.length cap ns (by rw [hll, Ov C.w hrow, k1])
     simp only [execOp, ho, hv, Om, run_convert_bytes_string C.w s d e _ _ _ hs he' hd, this, Jd, Ank, hfold, k2]
     show Result.ok (Next.value (Value.string ⟨#[] ++ _⟩)) C.w = _
     simp
   ·exfalso
    unfold Cy at e1
    split at e1
    ·rename_i hq; rw [hq] at hx'; simp only [VR] at hx'; obtain ⟨_, _, _, h9, _⟩ := hx'; rw [hv] at h9; cases h9
    ·rename_i hq; rw [hq] at hx'; simp only [VR] at hx'; obtain ⟨_, _, _, _, h9, _⟩ := hx'; rw [hv] at h9; cases h9
    ·rename_i hq; rw [hq] at hnstr; simp [Aft] at hnstr
    ·simp at e1
end ops
end Go.AI
namespace Go.AI
theorem aE {α : Type} (l u : List α) (A s off k N : Nat) (hu : u.length = k) (h1 : off + k ≤ s) (h2 : A + s ≤ N) (h3 : N ≤ l.length) :
  (l.take (A + off) ++ u ++ l.drop (A + off + k)).take N = (l.take N).take A ++ ((((l.take N).drop A).take s).take off ++ u ++ (((l.take N).drop A).take s).drop (off + k)) ++ (l.take N).drop (A + s) := by
 apply List.ext_getElem?
 intro m
 simp only [Ol, List.getElem?_append, Ok, An, Bc, Ba, hu]
 have x1 : min (A + off) l.length = A + off := by omega
 have x2 : min A (min N l.length) = A := by omega
 have x3 : min off (min s (min N l.length - A)) = off := by omega
 have x4 : min s (min N l.length - A) - (off + k) = s - (off + k) := by omega
 simp only [x1, x2, x3, x4]
 by_cases c1 : m < A
 ·simp only [show m < N by omega, show m < A + off + k by omega, show m < A + off by omega, c1, if_true, show m < A + (off + k + (s - (off + k))) by omega]
 by_cases c2 : m < A + off
 ·simp only [show m < N by omega, show m < A + off + k by omega, c2, c1, if_true, Cn, show m < A + (off + k + (s - (off + k))) by omega, show m - A < off + k by omega, show m - A < off by omega, show m - A < s by omega, show A + (m - A) = m by omega]
 by_cases c3 : m < A + off + k
 ·simp only [show m < N by omega, c3, c2, c1, if_true, Cn, show m < A + (off + k + (s - (off + k))) by omega, show m - A < off + k by omega, show ¬ m - A < off by omega, show m - (A + off) = m - A - off by omega]
 by_cases c4 : m < A + s
 ·simp only [show m < N by omega, c3, c2, c1, if_true, Cn, show m < A + (off + k + (s - (off + k))) by omega, show ¬ m - A < off + k by omega, show off + k + (m - A - (off + k)) < s by omega, show A + off + k + (m - (A + off + k)) = m by omega, show A + (off + k + (m - A - (off + k))) = m by omega]
 by_cases c5 : m < N
 ·simp only [c5, c3, c2, c1, if_true, Cn, show ¬ m < A + (off + k + (s - (off + k))) by omega, show A + off + k + (m - (A + off + k)) = m by omega, show A + s + (m - (A + (off + k + (s - (off + k))))) = m by omega]
 ·simp only [c5, c3, c2, c1, Cn, show ¬ m < A + (off + k + (s - (off + k))) by omega, show A + s + (m - (A + (off + k + (s - (off + k))))) = m by omega]
theorem Aby (off : Nat) : ∀ (l : List Value) (k : Nat) (cs : Array Value), off + k + l.length ≤ cs.size →
  ((l.zipIdx k).foldl (fun cs (x : Value × Nat) => cs.setIfInBounds (off + x.2) x.1) cs).toList = cs.toList.take (off + k) ++ l ++ cs.toList.drop (off + k + l.length)
 | [], k, cs, h => by simp
 | v :: l, k, cs, h => by
  simp only [Ao] at h
  simp only [List.zipIdx_cons, Dz]
  rw [Aby off l (k + 1) _ (by simp; omega)]
  have := gG cs.toList l (off + k) v (by simp; omega)
  simp only [Array.toList_setIfInBounds, Ao]
  rw [show off + (k + 1) = off + k + 1 by omega, this]
theorem wO (vs cs : Array Value) (off : Nat) (h : off + vs.size ≤ cs.size) :
  (vs.zipIdx.foldl (fun cs (x : Value × Nat) => cs.setIfInBounds (off + x.2) x.1) cs).toList = cs.toList.take off ++ vs.toList ++ cs.toList.drop (off + vs.size) := by
 rw [← Array.foldl_toList, Array.toList_zipIdx]
 have := Aby off vs.toList 0 cs (by simpa using h)
 simpa using this
section ops
variable {P : Program} {o : Oper} {a : Act} {C : Ctx} {n : Nat} {T : Tmps} {cf : Dk} {xf : ExtF} {base : Nat} {v : AV} {H' : Heap} {fp : FP}
theorem iC {r t : Bool} {places : List (Nat × Nat)} (hT : TR C n T a.tmps) (hrt : r = true ∧ t = true) : ∀ {parts : List (Nat × Operand)} {sp : List (Nat × Nat × SArg)} {z cs : List AV} {zs : Array Value}, lJ places parts = some sp →
  VRL C r t z zs.toList → Ma z (sp.map fun (o, k, x) => (o, k, x.ev T)) = some cs →
  ∃ cells, Instr.fill (fun i => places[i]?) zs (parts.map fun (i, x) => (i, a.eval x)) = some cells ∧ VRL C r t cs cells.toList
 | [], sp, z, cs, zs, h1, h2, h3 => by
  simp [lJ] at h1; subst h1
  simp [Ma] at h3; subst h3
  exact ⟨zs, by simp [Instr.fill], h2⟩
 | (i, x) :: parts, sp, z, cs, zs, h1, h2, h3 => by
  obtain ⟨rfl, rfl⟩ := hrt
  simp only [lJ] at h1
  split at h1
  ·rename_i o k s l e1 e2 e3
   simp at h1; subst h1
   simp only [Aw, Ma] at h3
   split at h3
   ·rename_i hc
    obtain ⟨c1, c2, c3⟩ := hc
    have hv := Dn hT e2
    have hcs := Ld c1 hv
    have hl := VRL.length hcs
    have hl2 := VRL.length h2
    have hsz : (a.eval x).cells.size = k := by simpa [c2] using hl
    have hzs : zs.size = z.length := by simpa using hl2
    have hnew : VRL C true true (z.take o ++ (s.ev T).cells ++ z.drop (o + k)) (zs.toList.take o ++ (a.eval x).cells.toList ++ zs.toList.drop (o + k)) :=
     ((h2.take o).append hcs).append (h2.drop (o + k))
    have hf := wO (a.eval x).cells zs o (by omega)
    rw [hsz] at hf
    rw [← hf] at hnew
    obtain ⟨cells, k1, k2⟩ := iC hT ⟨rfl, rfl⟩ e3 hnew h3
    refine ⟨cells, ?_, k2⟩
    simp only [Aw, Instr.fill, e1]
    rw [if_neg (by simp [hsz]; omega)]
    exact k1
   ·simp at h3
  ·simp at h1
theorem mV {t : TypeId} {z : AV} (h : zeroOf? P t = some z) : ∃ i z', P.info? t = some i ∧ i.zero = some z' ∧ cvt z' = some z := by
 unfold zeroOf? at h
 cases hi : P.info? t with
 | none => simp [hi] at h
 | some i =>
  cases hzz : i.zero with
  | none => simp [hi, hzz] at h
  | some z' =>
   simp [hi, hzz] at h
   exact ⟨i, z', rfl, hzz, h⟩
theorem Aik {v : Value} {z : List AV} (h : cvt v = some (.agg z)) : ∃ cs, v = .agg cs ∧ cvtL cs.toList = some z := by
 unfold cvt at h
 split at h
 ·rename_i cs
  simp only [Aq] at h
  obtain ⟨l, h1, h2⟩ := h
  cases h2
  exact ⟨cs, rfl, h1⟩
 ·split at h <;> simp at h
 ·unfold gL at h
  split at h <;> simp at h
theorem Aru {t : TypeId} {parts : Array (Nat × Operand)} {sp : List (Nat × Nat × SArg)} {z : List AV} {places : List (Nat × Nat)} (ho : o.op = .build t parts) (hz : zeroOf? P t = some (.agg z)) (hp : sH P t = some places)
  (hsp : lJ places parts.toList = some sp) (hR : Rel C) (hT : TR C n T a.tmps)
  (h : aop cf xf base T C.H (.build z sp) = some (v, H', fp)) : Ed P o a C v H' := by
 obtain ⟨i, z', h1, h2, h3⟩ := mV hz
 obtain ⟨cs, rfl, h4⟩ := Aik h3
 simp only [aop] at h
 cases hf : Ma z (sp.map fun (o, k, x) => (o, k, x.ev T)) with
 | none => simp [hf] at h
 | some fs =>
  simp only [hf, Ad, Ab] at h
  obtain ⟨rfl, rfl⟩ := Fg h
  obtain ⟨cells, k1, k2⟩ := iC (a := a) hT ⟨rfl, rfl⟩ hsp (iK h4) hf
  unfold sH at hp
  split at hp
  ·rename_i fields hu
   have hb : P.built t (parts.map fun (i, x) => (i, a.eval x)).toList = some cells := by
    unfold Program.built
    simp only [h1, hu, h2, hp, Value.cells]
    simpa using k1
   refine Cg hR (v' := .agg cells) ?_ (by simp only [VR]; exact ⟨cells, rfl, k2⟩)
   simp only [execOp, ho, Om, run_build C.w t _ cells hb, Jd]
   rfl
  ·simp at hp
theorem Anf {t e : TypeId} {m : Nat} {parts : Array (Nat × Operand)} {z : List AV} (ho : o.op = .build t parts) (hz : zeroOf? P t = some (.agg z)) (hu : P.underlying t = some (.array m e)) (hp : parts.size = 0) (hi : (P.info? e).isSome = true)
  (hR : Rel C) (h : aop cf xf base T C.H (.build z []) = some (v, H', fp)) : Ed P o a C v H' := by
 obtain ⟨i, z', h1, h2, h3⟩ := mV hz
 obtain ⟨cs, rfl, h4⟩ := Aik h3
 obtain ⟨ie, hie⟩ := Sx.1 hi
 simp only [aop, Jz, Ma, Ad, Ab] at h
 obtain ⟨rfl, rfl⟩ := Fg h
 have : parts = #[] := Nq hp
 subst this
 have hb : P.built t ((#[] : Array (Nat × Operand)).map fun (i, x) => (i, a.eval x)).toList = some cs := by
  unfold Program.built
  simp [h1, hu, h2, hie, Value.cells, Instr.fill]
 refine Cg hR (v' := .agg cs) ?_ (by simp only [VR]; exact ⟨cs, rfl, iK h4⟩)
 simp only [execOp, ho, Om, run_build C.w t _ cs hb, Jd]
 rfl
theorem gY {s : Nat} (hT : TR C n T a.tmps) : ∀ {parts : List (Nat × Operand)} {sp : List (Nat × SArg)} {z es : List AV} {zs : Array Value}, Xk parts = some sp →
  CRL C true true s z zs.toList → Nd s z (sp.map fun (i, x) => (i, x.ev T)) = some es →
  ∃ cells, Instr.fill (fun i => some (i * s, s)) zs (parts.map fun (i, x) => (i, a.eval x)) = some cells ∧ CRL C true true s es cells.toList ∧ es.length = z.length
 | [], sp, z, cs, zs, h1, h2, h3 => by
  simp [Xk] at h1; subst h1
  simp [Nd] at h3; subst h3
  exact ⟨zs, by simp [Instr.fill], h2, rfl⟩
 | (i, x) :: parts, sp, z, cs, zs, h1, h2, h3 => by
  simp only [Xk] at h1
  split at h1
  ·rename_i sa l e2 e3
   simp at h1; subst h1
   simp only [Aw, Nd] at h3
   split at h3
   ·rename_i hc
    obtain ⟨c1, c2, c3⟩ := hc
    have hv := Dn hT e2
    have hcs := Aii c1 c2 hv
    have hl := EL.length hcs
    have hl2 := CRL.length h2
    have hsz : (a.eval x).cells.size = s := by simpa using hl
    have hzs : zs.size = z.length * s := by simpa using hl2
    have hle : i * s + s ≤ zs.size := by
     rw [hzs, ← Mo]
     exact Fs _ c3
    have hnew := CRL.set i h2 c3 hcs
    have hf := wO (a.eval x).cells zs (i * s) (by omega)
    rw [hsz, show i * s + s = (i + 1) * s by rw [Dj]; omega] at hf
    rw [← hf] at hnew
    obtain ⟨cells, k1, k2, k3⟩ := gY hT e3 hnew h3
    refine ⟨cells, ?_, k2, by simpa using k3⟩
    simp only [Aw, Instr.fill]
    rw [if_neg (by simp [hsz]; omega)]
    exact k1
   ·simp at h3
  ·simp at h1
theorem uX {t e : TypeId} {m : Nat} {parts : Array (Nat × Operand)} {sp : List (Nat × SArg)} {z : AV} {site s : Nat} (ho : o.op = .buildSlice t m parts) (hu : elemOf? P t = some e) (hi : Ib P e = some (s, z)) (hsm : m * s ≤ 16777216) (hm : 0 < m)
  (hsp : Xk parts.toList = some sp) (hR : Rel C) (hT : TR C n T a.tmps)
  (h : aop cf xf base T C.H (.buildS site s m z sp) = some (v, H', fp)) : Ed P o a C v H' := by
 obtain ⟨i, z', i1, i2, i3, i4, i5, i6, i7, i8, i9, i10⟩ := Md hi
 simp only [aop] at h
 split at h
 ·simp at h
 ·cases hf : Nd s (List.replicate m z) (sp.map fun (i, x) => (i, x.ev T)) with
  | none => simp [hf] at h
  | some es =>
   simp only [hf, Ag, Am] at h
   obtain ⟨rfl, rfl, _⟩ := h
   have hcr := Aiv (C := C) (m := m) i3 i8 i9 i10
   obtain ⟨cells, k1, k2, k3⟩ := gY (a := a) hT hsp hcr hf
   simp at k3
   have hcl := CRL.length k2
   have hrun := run_buildSlice (P := P) C.w t e m (parts.map fun (i, x) => (i, a.eval x)) cells i z' (Kj hu) i1 i2 (by rw [i4]; simp; omega) (by rw [i4]; exact Nat.mul_ne_zero (by omega) (by omega)) (by rw [i4]; simpa using k1)
   have hsz : cells.size = m * s := by simp [k3] at hcl; exact hcl
   obtain ⟨hE, hR'⟩ := Qx hR (base + site) s es cells e (0, 0) (.inl rfl) (by rw [k3]; omega)
    (by rw [Ai (by simp [k3]; omega)]; exact k2)
   refine ⟨.slice (some ⟨C.w.heap.size, 0, none⟩) m m, _, _, .inl ?_, hE, hR', ?_⟩
   ·simp only [execOp, ho, Om, hrun, Jd]
    rfl
   ·have := sZ (C' := ⟨C.F, updN C.μ (base + site) C.w.heap.size, C.H.newRow (base + site) s es, C.w.alloc (.cells cells e)⟩)
     (j := base + site) (es := es) (s := s) (g := (C.H (base + site)).gen + 1) (cap' := m) (len := m) (by simp [Heap.newRow]) (by simp) (Ir _ _) (by omega) (by omega) (Au _) (by omega) (r := true) rfl (t := true)
    rw [k3] at this
    exact this
theorem Agv {t e : TypeId} {m : Nat} {parts : Array (Nat × Operand)} {sp : List (Nat × SArg)} {z : AV} {site s : Nat} (ho : o.op = .buildSlice t m parts) (hu : elemOf? P t = some e) (hi : Ib P e = some (s, z)) (hsm : m * s ≤ 16777216) (hm : 0 < m)
  (hsp : Xk parts.toList = some sp) (hR : Rel C) (hT : TR C n T a.tmps)
  (h : aop cf xf base T C.H (.buildSN site s m z sp) = some (v, H', fp)) : Ed P o a C v H' := by
 have h2 : ∃ fp', aop cf xf 0 T C.H (.buildS (Ko C.H (base + site) many) s m z sp) = some (v, H', fp') := by
  simp only [aop, Cq] at h ⊢
  split at h
  ·simp at h
  ·rename_i hz
   rw [if_neg hz]
   split at h
   ·simp at h
   ·simp only [Ag, Am] at h
    obtain ⟨rfl, rfl, _⟩ := h
    exact ⟨_, rfl⟩
 obtain ⟨fp', h3⟩ := h2
 exact uX ho hu hi hsm hm hsp hR hT h3
theorem Anu {t e : TypeId} {parts : Array (Nat × Operand)} {z : AV} {s : Nat} (ho : o.op = .buildSlice t 0 parts) (hu : elemOf? P t = some e) (hi : Ib P e = some (s, z)) (hp : parts.size = 0) (hR : Rel C)
  (h : aop cf xf base T C.H (.empty s) = some (v, H', fp)) : Ed P o a C v H' := by
 obtain ⟨i, z', i1, i2, i3, i4, i5, i6, i7, i8, i9, i10⟩ := Md hi
 simp only [aop] at h
 obtain ⟨rfl, rfl⟩ := Fg h
 have : parts = #[] := Nq hp
 subst this
 obtain ⟨hE, hR'⟩ := Qx hR 0 1 [] #[] e (0, 0) (.inl rfl) (by simp) (by simp [CRL])
 have hrun : (execOp a.eval o).run P C.w = .ok (.value (.slice (some ⟨C.w.heap.size, 0, none⟩) 0 0)) (C.w.alloc (.cells #[] e)) := by
  simp [execOp, ho, Instr.buildSlice, Ar (Kj hu), sizeOf, typeInfo, i1, newRow, Instr.fill]
  rw [show Array.range 0 = #[] from rfl]; simp
 have hμ : Evo C { C with w := C.w.alloc (.cells #[] e) } ∧ Rel { C with w := C.w.alloc (.cells #[] e) } := by
  have hE2 : Evo C { C with w := C.w.alloc (.cells #[] e) } :=
   ⟨rfl, by simp, fun b hb _ => Nz _ _ hb, fun b h => .inl h, fun _ _ _ h => h, fun _ _ _ _ es' _ h => ⟨⟨es', h⟩, fun _ => rfl⟩,
    fun _ _ es' _ h => ⟨⟨es', h⟩, rfl⟩, fun b e n h => Ul _ _ _ _ _ h, rfl, rfl, rfl⟩
  exact ⟨hE2, ⟨fun b hb => Lu (hR.fsz b hb) (by simp), fun j => BR.mono hE2 rfl (fun _ => rfl) (fun hl => Nz _ _ (hR.lt hl).1) (hR.blk j), hR.inj, hR.glm hE2⟩⟩
 refine ⟨_, C.μ, _, .inl hrun, hμ.1, hμ.2, ?_⟩
 simp only [VR]
 exact ⟨fun _ => trivial, _, 0, rfl, Au _, fun _ => rfl, fun h => absurd rfl h⟩
theorem vY {r t : Bool} : ∀ {cs : List AV} {vs : List Value}, VRL C r t cs vs → ∀ c ∈ cs, c.cells = [c]
 | [], _, _, c, hc => by simp at hc
 | c :: cs, _, h, c', hc => by
  simp only [VRL] at h
  obtain ⟨v, vs', rfl, h1, h2, h3⟩ := h
  rcases Ap.1 hc with rfl | hc
  ·cases c' with
   | agg cs => simp only [VR] at h2; obtain ⟨vs, rfl, _⟩ := h2; simp [Value.oneCell'] at h1
   | _ => rfl
  ·exact vY h3 c' hc
theorem zA {e : AV} {cs' : List AV} (h : cs'.length = e.cells.length) (h1 : ∀ c ∈ cs', c.cells = [c]) : (e.rewrap cs').cells = cs' := by
 cases e with
 | agg cs => rfl
 | _ =>
  simp only [AV.cells, List.length_singleton] at h
  obtain ⟨u, rfl⟩ := Vk.1 h
  exact h1 u (by simp)
theorem Anx {t : TypeId} {x y : Operand} {sx sy : SArg} {k : Nat} (ho : o.op = .store t x y) (hR : Rel C) (hT : TR C n T a.tmps) (hx : sarg x = some sx) (hy : sarg y = some sy) (hk : sizeOf? P t = some k)
  (h : aop cf xf base T C.H (.store k sx sy) = some (v, H', fp)) : Ed P o a C v H' := by
 have hv := Dn hT hx
 have hu := Dn hT hy
 simp only [aop] at h
 split at h
 ·rename_i j g ver s i off hq
  rw [hq] at hv
  split at h
  ·rename_i es hes
   split at h
   ·rename_i e he
    split at h
    ·rename_i hc
     obtain ⟨c0, c1, c2⟩ := hc
     simp only [Ag, Am] at h
     obtain ⟨rfl, rfl, _⟩ := h
     obtain ⟨hes1, hro⟩ := rowW_some.1 hes
     have hes' := row_some.1 hes1
     have hi : i < es.length := (Em.1 he).1
     have hne : es ≠ [] := by intro h; subst h; simp at hi
     obtain ⟨_, c, el, fzz, hobj, hok⟩ := hR.mem hes'.2.1 hne
     simp only [VR] at hv
     obtain ⟨_, _, ad, hv', hk'⟩ := hv
     have had := hk' es hes1 (by omega)
     subst had
     have hel := CRL.get i hok.cells he
     have hell := EL.length hel
     have hsc := Ld c0 hu
     have hlu := VRL.length hsc
     have husz : (a.eval y).cells.size = k := by simpa [c1] using hlu
     have hle := hok.le
     have hbig : i * s + s ≤ es.length * s := by rw [← Mo]; exact Fs _ hi
     have hes_s : e.cells.length = s := hel.1
     have hrun := Iz (P := P) (off := i * s + off) (a.eval y).cells.toList 0 c C.w hobj hok.uf (by simp [husz]; omega) (VRL.one hsc)
     simp only [Ey, Nj, husz] at hrun
     have hnewel : EL C true true s (e.rewrap (e.cells.take off ++ (sy.ev T).cells ++ e.cells.drop (off + k)))
       (((c.toList.take (es.length * s)).drop (i * s)).take s |>.take off |> (· ++ (a.eval y).cells.toList ++ (((c.toList.take (es.length * s)).drop (i * s)).take s).drop (off + k))) := by
      have hcells : (e.rewrap (e.cells.take off ++ (sy.ev T).cells ++ e.cells.drop (off + k))).cells = e.cells.take off ++ (sy.ev T).cells ++ e.cells.drop (off + k) := by
       refine zA (by simp [c1]; omega) (vY (((hel.2.take off).append hsc).append (hel.2.drop (off + k))))
      refine ⟨?_, ?_⟩
      ·rw [hcells]; simp [c1]; omega
      ·rw [hcells]
       exact ((hel.2.take off).append hsc).append (hel.2.drop (off + k))
     have hset := CRL.set i hok.cells hi hnewel
     have hlist : (c.toList.take (i * s + off) ++ (a.eval y).cells.toList ++ c.toList.drop (i * s + off + k)).take (es.length * s) =
       (c.toList.take (es.length * s)).take (i * s) ++ ((((c.toList.take (es.length * s)).drop (i * s)).take s).take off ++ (a.eval y).cells.toList ++ (((c.toList.take (es.length * s)).drop (i * s)).take s).drop (off + k)) ++ (c.toList.take (es.length * s)).drop ((i + 1) * s) := by
      rw [show (i + 1) * s = i * s + s by rw [Dj]; omega]
      exact aE c.toList (a.eval y).cells.toList (i * s) s off k (es.length * s) (by simp [husz]) (by omega) hbig (by simpa using hle)
     obtain ⟨hE, hR'⟩ := oB hR (j := j) (s := s) (es := es) (es' := es.set i (e.rewrap (e.cells.take off ++ (sy.ev T).cells ++ e.cells.drop (off + k)))) hes'.2.1 hro (by simp) (c := c) (c' := (c.toList.take (i * s + off) ++ (a.eval y).cells.toList ++ c.toList.drop (i * s + off + k)).toArray) (el := el) (fz := fzz)
      (Ge C.w (C.μ j) (.cells (c.toList.take (i * s + off) ++ (a.eval y).cells.toList ++ c.toList.drop (i * s + off + k)).toArray el fzz)) (fun _ => hobj) hok.uf (by simp [husz]; omega) hle
      (fun _ => rfl) (fun h => absurd h hne) rfl rfl rfl (by simp only [El]; rw [hlist]; exact hset)
     refine ⟨Go.undef, C.μ, _, .inr ⟨?_, rfl⟩, hE, hR', by simp [VR]⟩
     simp [execOp, ho, hv', Instr.storeAt, Instr.sureAddr, storeVar, husz, Jb hk, hrun]
    ·split at h
     ·rename_i hc
      obtain ⟨rfl, c0, c1, c2⟩ := hc
      simp only [Ag, Am] at h
      obtain ⟨rfl, rfl, _⟩ := h
      obtain ⟨hes1, hro⟩ := rowW_some.1 hes
      have hes' := row_some.1 hes1
      have hi : i < es.length := (Em.1 he).1
      have hne : es ≠ [] := by intro h; subst h; simp at hi
      obtain ⟨_, c, el, fzz, hobj, hok⟩ := hR.mem hes'.2.1 hne
      simp only [VR] at hv
      obtain ⟨_, _, ad, hv', hk'⟩ := hv
      have had := hk' es hes1 (by omega)
      subst had
      have hsc := Ld c0 hu
      have hlu := VRL.length hsc
      have husz : (a.eval y).cells.size = k := by simpa [c1] using hlu
      have hle := hok.le
      have hrun := Iz (P := P) (off := i * 1 + off) (a.eval y).cells.toList 0 c C.w hobj hok.uf (by simp [husz]; omega) (VRL.one hsc)
      simp only [Ey, Nj, husz] at hrun
      have hnew := ((hok.cells.take (i + off)).append (hZ hsc (fY hsc))).append (hok.cells.drop (i + off + k))
      have hlist : (c.toList.take (i * 1 + off) ++ (a.eval y).cells.toList ++ c.toList.drop (i * 1 + off + k)).take (es.length * 1) =
        (c.toList.take (es.length * 1)).take ((i + off) * 1) ++ (a.eval y).cells.toList ++ (c.toList.take (es.length * 1)).drop ((i + off + k) * 1) := by
       have := aE c.toList (a.eval y).cells.toList (i * 1 + off) k 0 k (es.length * 1) (by simp [husz]) (by omega) (by omega) (by simpa using hle)
       simp at this ⊢
       rw [this]
      have hlen : (es.take (i + off) ++ (SArg.ev T sy).cells ++ es.drop (i + off + k)).length = es.length := by simp [c1]; omega
      obtain ⟨hE, hR'⟩ := oB hR (j := j) (s := 1) (es := es) (es' := es.take (i + off) ++ (SArg.ev T sy).cells ++ es.drop (i + off + k)) hes'.2.1 hro hlen (c := c) (c' := (c.toList.take (i * 1 + off) ++ (a.eval y).cells.toList ++ c.toList.drop (i * 1 + off + k)).toArray) (el := el) (fz := fzz)
       (Ge C.w (C.μ j) (.cells (c.toList.take (i * 1 + off) ++ (a.eval y).cells.toList ++ c.toList.drop (i * 1 + off + k)).toArray el fzz)) (fun _ => hobj) hok.uf (by simp [husz]; omega) hle
       (fun _ => rfl) (fun h => absurd h hne) rfl rfl rfl (by rw [hlen]; rw [hlist]; exact hnew)
      refine ⟨Go.undef, C.μ, _, .inr ⟨?_, rfl⟩, hE, hR', by simp [VR]⟩
      simp [execOp, ho, hv', Instr.storeAt, Instr.sureAddr, storeVar, husz, Jb hk]
      simp at hrun
      simp [hrun]
     ·simp at h
   ·simp at h
  ·simp at h
 ·simp at h
end ops
end Go.AI
namespace Go.AI
theorem wB (m : Nat) : ∀ (r c : Nat), Builtin.growBy m r c ≤ max c (2 * m + 768)
 | 0, c => by simp [Builtin.growBy]; omega
 | r + 1, c => by
  unfold Builtin.growBy
  split
  ·omega
  ·have := wB m r (c + (c + 768) / 4)
   omega
theorem nextslicecap_le (m c : Nat) (h : c ≤ m) : Builtin.nextslicecap m c ≤ 2 * m + 768 := by
 unfold Builtin.nextslicecap
 split
 ·omega
 ·split
  ·omega
  ·have := wB m 4 c; omega
section ops
variable {P : Program} {o : Oper} {a : Act} {C : Ctx} {n : Nat} {T : Tmps} {cf : Dk} {xf : ExtF} {base : Nat} {v : AV} {H' : Heap} {fp : FP}
structure Behind (P : Program) (w : World) (u : TypeId) (e : TypeId) (s : Nat) (vx : Value) (m : Nat) (vs : List Value) : Prop where
 len : vs.length = m * s
 one : ∀ x ∈ vs, x.oneCell' = true
 src : (Acm P u = true ∧ ∃ k, vx = .int k (m : Int) ∧ m ≤ Iy ∧ ∃ i z, P.info? e = some i ∧ i.zero = some z ∧ vs = (List.replicate m z.cells.toList).flatten ∧ z.cells.size = s) ∨
  (((∃ e', P.underlying u = some (.slice e')) ∨ P.underlying u = some .string) ∧ (∀ w' : World, w'.heap = w.heap → (Builtin.lenOf vx).run P w' = .ok m w' ∧ (Builtin.firstCells s m vx).run P w' = .ok vs.toArray w'))
theorem cT {z : Value} {m s : Nat} (h : z.cells.size = s) : Builtin.zeroCells z.cells m = (List.replicate m z.cells.toList).flatten.toArray := by
 unfold Builtin.zeroCells
 apply My
 rw [Array.toList_map, Array.toList_range, h, jZ _ _ h]
theorem Tc {m : Nat} (h : m ≤ Iy) : IntKind.i64.wrap (m : Int) = m := by
 unfold Iy at h
 simp [IntKind.wrap, IntKind.bits, IntKind.signed]; omega
theorem Uw {t u ty e : TypeId} {s m sLen sCap : Nat} {ad : Option Addr} {vx : Value} {vs : List Value} {w w2 : World} {i : TypeInfo} (hu : P.underlying t = some (.slice e)) (hi : P.info? e = some i) (his : i.size = s) (hb : i.bytes ≤ 1024)
  (hx : Behind P w u e s vx m vs) (hn : sLen + m ≤ sCap) (hst : match ad with | some a => (storeCells (a.add (sLen * s)) vs).run P w = .ok () w2 | none => w2 = w) :
  (Builtin.append_ #[t, u] ty #[.slice ad sLen sCap, vx]).run P w = .ok (.slice ad (sLen + m) sCap) w2 := by
 rcases hx.src with ⟨h1, k, rfl, hm, i', z, h2, h3, hvs, h5⟩ | ⟨h1, h3⟩
 ·rw [hi] at h2; cases h2
  have hui : ∃ k', P.underlying u = some (.int k') := by
   unfold Acm at h1
   split at h1
   ·rename_i k' hk; exact ⟨k', hk⟩
   ·simp at h1
  obtain ⟨k', hui⟩ := hui
  have hbb : ¬ (281474976710656 < (m : Int) * (i.bytes : Int)) := by
   have : m * i.bytes ≤ 68719476736 * 1024 := Abc hm hb
   have h9 : ((m * i.bytes : Nat) : Int) ≤ ((68719476736 * 1024 : Nat) : Int) := Int.ofNat_le.2 this
   simp at h9 ⊢; omega
  have hneg : ¬ ((m : Int) < 0) := by omega
  have hzr : ∀ w' : World, (zeroValue e).run P w' = .ok z w' := fun w' => by simp [zeroValue, typeInfo, hi, h3]
  have hnil : m * i.size = 0 → vs = [] := fun h0 => Hp (by rw [hx.len, ← his]; exact h0)
  have hzc : (Builtin.zeroCells z.cells m).toList = vs := by rw [cT h5, hvs]
  cases ad with
  | none =>
   simp only at hst; subst hst
   by_cases h0 : m * i.size = 0
   ·simp [Builtin.append_, Ar hu, Ar hui, sizeOf, typeInfo, hi, asInt, asIntOf, Tc hm, hbb, hneg, hn, h0]
   ·simp [Builtin.append_, Ar hu, Ar hui, sizeOf, typeInfo, hi, asInt, asIntOf, Tc hm, hbb, hneg, hn, h0, hzr]
  | some ad =>
   simp only at hst
   subst his
   by_cases h0 : m * i.size = 0
   ·rw [hnil h0] at hst
    simp [Builtin.append_, Ar hu, Ar hui, sizeOf, typeInfo, hi, asInt, asIntOf, Tc hm, hbb, hneg, hn, h0, hst]
   ·simp [Builtin.append_, Ar hu, Ar hui, sizeOf, typeInfo, hi, asInt, asIntOf, Tc hm, hbb, hneg, hn, h0, hzr, hzc, hst]
 ·obtain ⟨k1, k2⟩ := h3 w rfl
  rcases h1 with ⟨e', hd⟩ | hd
  ·cases ad with
   | none =>
    simp only at hst; subst hst
    simp [Builtin.append_, Ar hu, Ar hd, sizeOf, typeInfo, hi, his, k1, k2, hn]
   | some ad =>
    simp only at hst
    simp [Builtin.append_, Ar hu, Ar hd, sizeOf, typeInfo, hi, his, k1, k2, hn, hst]
  ·cases ad with
   | none =>
    simp only at hst; subst hst
    simp [Builtin.append_, Ar hu, Ar hd, sizeOf, typeInfo, hi, his, k1, k2, hn]
   | some ad =>
    simp only at hst
    simp [Builtin.append_, Ar hu, Ar hd, sizeOf, typeInfo, hi, his, k1, k2, hn, hst]
theorem lB {t u ty e : TypeId} {s m sLen sCap : Nat} {ad : Option Addr} {vx : Value} {vs ov : List Value} {w : World} {i : TypeInfo} {z : Value} (hu : P.underlying t = some (.slice e)) (hi : P.info? e = some i) (his : i.size = s) (hb : i.bytes ≤ 1024) (hb0 : 0 < i.bytes) (hz : i.zero = some z)
  (hx : Behind P w u e s vx m vs) (hn : sCap < sLen + m) (hroom : sLen + m ≤ Iy)
  (hold : ∀ w' : World, w'.heap = w.heap → (Builtin.firstCells s sLen (.slice ad sLen sCap)).run P w' = .ok ov.toArray w') :
  (Builtin.append_ #[t, u] ty #[.slice ad sLen sCap, vx]).run P w =
   .ok (.slice (some ⟨w.heap.size, 0, none⟩) (sLen + m) (grownCap w (sLen + m) sCap e)) (w.drew.alloc (.cells (ov.toArray ++ vs.toArray ++ Builtin.zeroCells z.cells (grownCap w (sLen + m) sCap e - (sLen + m))) e)) := by
 have hroom' := hroom
 unfold Iy at hroom'
 have hle : ¬ (sLen + m ≤ sCap) := by omega
 have hfit : Builtin.nextslicecap (sLen + m) sCap * i.bytes ≤ 281474976710656 := by
  have h1 := AI.nextslicecap_le (sLen + m) sCap (by omega)
  have h2 : Builtin.nextslicecap (sLen + m) sCap * i.bytes ≤ (2 * 68719476736 + 768) * 1024 := Abc (by omega) hb
  omega
 have hfit' : ¬ (281474976710656 < Builtin.nextslicecap (sLen + m) sCap * i.bytes) := by omega
 have hbig : ¬ (9223372036854775807 < (sLen : Int) + (m : Int)) := by omega
 obtain hold' := hold w.drew rfl
 rcases hx.src with ⟨h1, k, rfl, hm, i', z', h2, h3, hvs, h5⟩ | ⟨h1, h3⟩
 ·rw [hi] at h2; cases h2
  rw [hz] at h3; cases h3
  have hui : ∃ k', P.underlying u = some (.int k') := by
   unfold Acm at h1
   split at h1
   ·rename_i k' hk; exact ⟨k', hk⟩
   ·simp at h1
  obtain ⟨k', hui⟩ := hui
  have hbb : ¬ (281474976710656 < (m : Int) * (i.bytes : Int)) := by
   have : m * i.bytes ≤ 68719476736 * 1024 := Abc hm hb
   have h9 : ((m * i.bytes : Nat) : Int) ≤ ((68719476736 * 1024 : Nat) : Int) := Int.ofNat_le.2 this
   simp at h9 ⊢; omega
  have hneg : ¬ ((m : Int) < 0) := by omega
  have hzr : ∀ w' : World, (zeroValue e).run P w' = .ok z w' := fun w' => by simp [zeroValue, typeInfo, hi, hz]
  have hnil : m * i.size = 0 → vs = [] := fun h0 => Hp (by rw [hx.len, ← his]; exact h0)
  have hzc : Builtin.zeroCells z.cells m = vs.toArray := by rw [cT h5, hvs]
  subst his
  by_cases h0 : m * i.size = 0
  ·rw [hnil h0]
   simp [Builtin.append_, Ar hu, Ar hui, sizeOf, typeInfo, hi, asInt, asIntOf, Tc hm, hbb, hneg, hle, hfit', hbig, h0, Question.forced, hold', hzr, newRow, grownCap]
  ·simp [Builtin.append_, Ar hu, Ar hui, sizeOf, typeInfo, hi, asInt, asIntOf, Tc hm, hbb, hneg, hle, hfit', hbig, h0, Question.forced, hold', hzr, hzc, newRow, grownCap]
   congr 2
   apply My
   simp
 ·obtain ⟨k1, _⟩ := h3 w rfl
  obtain ⟨_, k2⟩ := h3 w.drew rfl
  have hb1 : i.bytes ≠ 0 := by omega
  rcases h1 with ⟨e', hd⟩ | hd
  ·simp [Builtin.append_, Ar hu, Ar hd, sizeOf, typeInfo, hi, his, k1, hle, hfit', hbig, hb1, Question.forced, hold', k2, zeroValue, hz, newRow, grownCap]
   congr 2
   apply My
   simp
  ·simp [Builtin.append_, Ar hu, Ar hd, sizeOf, typeInfo, hi, his, k1, hle, hfit', hbig, hb1, Question.forced, hold', k2, zeroValue, hz, newRow, grownCap]
   congr 2
   apply My
   simp
theorem Adz (H : Heap) (j s : Nat) (es : List AV) (hst : (H j).st = .row s es) (hro : (H j).ro = false) : H.setRow j s es = H := by
 funext i
 unfold Heap.setRow; rw [Heap.upd_eq]
 by_cases h : i = j
 ·subst h
  rw [if_pos rfl, ← hst, ← hro]
 ·rw [if_neg h]
theorem Aiz {α : Type} (l u : List α) (A k N : Nat) (hu : u.length = k) (h2 : A + k ≤ N) (h3 : N ≤ l.length) :
  (l.take A ++ u ++ l.drop (A + k)).take N = (l.take N).take A ++ u ++ (l.take N).drop (A + k) := by
 have := aE l u A k 0 k N hu (by omega) h2 h3
 simp at this ⊢
 rw [this]
theorem rJ (z : Value) (m : Nat) : (Builtin.zeroCells z.cells m).size = m * z.cells.size := by simp [Builtin.zeroCells]
set_option maxHeartbeats 1000000 in
theorem mY {t u ty e : TypeId} {site s m : Nat} {x : AV} {ys : List AV} {x' vx : Value} {vs : List Value} {i : TypeInfo} {z : Value} (hR : Rel C) (hu : P.underlying t = some (.slice e)) (hi : P.info? e = some i) (his : i.size = s)
  (hb : i.bytes ≤ 1024) (hb0 : 0 < i.bytes) (hz : i.zero = some z) (hzs : z.cells.size = s)
  (hx : VR C true true x x') (hB : Behind P C.w u e s vx m vs) (hm : ys.length = m) (hys : CRL C true true s ys vs)
  (h : Dv C.H site s x ys = some (v, H', fp)) :
  ∃ v' μ' w', (Builtin.append_ #[t, u] ty #[x', vx]).run P C.w = .ok v' w' ∧ Evo C ⟨C.F, μ', H', w'⟩ ∧ Rel ⟨C.F, μ', H', w'⟩ ∧ VR ⟨C.F, μ', H', w'⟩ true true v v' := by
 subst hm
 have hnilrun : ∀ (ad : Option Addr) (l c : Nat), ys = [] → l ≤ c → (Builtin.append_ #[t, u] ty #[.slice ad l c, vx]).run P C.w = .ok (.slice ad l c) C.w := by
  intro ad l c h0 hlc
  subst h0
  have hvs : vs = [] := by simpa [CRL] using hys
  subst hvs
  have := Uw (P := P) (t := t) (u := u) (ty := ty) (sLen := l) (sCap := c) (ad := ad) (w2 := C.w) hu hi his hb hB (by omega) (by cases ad <;> simp [storeCells])
  simpa using this
 have hnew : ∀ (ad : Option Addr) (l c : Nat) (ov : List Value), c < l + ys.length → l + ys.length ≤ Iy → ov.length = l * s → (∀ w' : World, w'.heap = C.w.heap → (Builtin.firstCells s l (.slice ad l c)).run P w' = .ok ov.toArray w') →
   ∃ cap cs, (Builtin.append_ #[t, u] ty #[.slice ad l c, vx]).run P C.w = .ok (.slice (some ⟨C.w.heap.size, 0, none⟩) (l + ys.length) cap) (C.w.drew.alloc (.cells cs e)) ∧ l + ys.length ≤ cap ∧ cs.size = cap * s ∧ cs.toList.take ((l + ys.length) * s) = ov ++ vs := by
  intro ad l c ov h1 h2 h3 h4
  have := lB (P := P) (t := t) (u := u) (ty := ty) (sLen := l) (sCap := c) (ad := ad) hu hi his hb hb0 hz hB h1 h2 h4
  have hc : l + ys.length ≤ grownCap C.w (l + ys.length) c e := Nat.le_add_right _ _
  refine ⟨_, _, this, hc, ?_, ?_⟩
  ·simp only [Array.size_append, List.size_toArray, rJ, hzs, h3, hB.len]
   rw [← Dj, ← Dj]
   congr 1; omega
  ·simp only [Array.toList_append]
   rw [Cz (by simp [h3, hB.len, Dj]), Ai (by simp [h3, hB.len, Dj])]
 unfold Dv at h
 split at h
 ·rename_i tt full s' es
  have hx0 := hx
  simp only [VR] at hx
  obtain ⟨htt, ad, cap', rfl, hcap, hfull, hmem⟩ := hx
  split at h
  ·rename_i hn
   obtain ⟨rfl, rfl⟩ := Fg h
   exact ⟨_, C.μ, C.w, hnilrun _ _ _ (isNil_iff.1 hn) hcap, Evo.refl C, hR, hx0⟩
  ·rename_i hn
   split at h
   ·rename_i hc
    obtain ⟨c1, c2, c3⟩ := hc
    have c2' := isNil_iff.1 c2
    subst c2'
    simp only [Ag, Am] at h
    obtain ⟨rfl, rfl, _⟩ := h
    have hc0 : cap' = 0 := by simpa using hfull c1
    subst hc0
    have hpos : 0 < ys.length := by exact Gf.2 (fun h0 => hn (isNil_iff.2 h0))
    obtain ⟨cap, cs, r1, r2, r3, r4⟩ := hnew ad 0 0 [] (by omega) (by omega) (by simp) (fun w' _ => by cases ad <;> simp [Builtin.firstCells, loadCells, loadCellsFrom])
    simp only [Cq, Dd] at r1 r2 r4
    obtain ⟨hE0, hR0⟩ := bW hR C.w.drew rfl rfl rfl rfl
    obtain ⟨hE, hR'⟩ := Qx hR0 site s ys cs e (0, 0) (.inl rfl) (by rw [r3]; exact Fs _ r2) (by rw [r4]; exact CRL.mono hE0 hys)
    refine ⟨_, _, _, r1, hE0.trans hE, hR', ?_⟩
    have := sZ (C' := ⟨C.F, updN C.μ site C.w.drew.heap.size, C.H.newRow site s ys, C.w.drew.alloc (.cells cs e)⟩)
     (j := site) (es := ys) (s := s) (g := (C.H site).gen + 1) (cap' := cap) (len := ys.length) (by simp [Heap.newRow]) (by simp) (Ir _ _) (by omega) (by omega) (by omega) (by omega) (r := true) rfl (t := true)
    exact this
   ·simp at h
 ·rename_i j g ver s' off len cap
  have hx0 := hx
  simp only [VR] at hx
  obtain ⟨_, hpast, ad, cap', rfl, hcap, hk⟩ := hx
  split at h
  ·rename_i hn
   obtain ⟨rfl, rfl⟩ := Fg h
   exact ⟨_, C.μ, C.w, hnilrun _ _ _ (isNil_iff.1 hn) hcap, Evo.refl C, hR, hx0⟩
  ·rename_i hn
   have hpos : 0 < ys.length := by exact Gf.2 (fun h0 => hn (isNil_iff.2 h0))
   split at h
   ·simp at h
   ·rename_i es hes
    obtain ⟨hes1, hro⟩ := rowW_some.1 hes
    obtain ⟨hg, hst, hver⟩ := row_some.1 hes1
    obtain ⟨k1, k2, k3⟩ := hk es hes1
    split at h
    ·rename_i hc
     obtain ⟨rfl, hle, hroom⟩ := hc
     split at h
     ·
      rename_i hin
      simp only [Ag, Am] at h
      obtain ⟨rfl, rfl, _⟩ := h
      have hcc : cap.getD (ver - off) ≤ cap' := by cases cap <;> simp_all
      have hoff : off < ver := by omega
      obtain ⟨rfl, el0, n0, hsh, hn0⟩ := k3 hoff (by omega)
      have hne : es ≠ [] := by intro h0; subst h0; simp at hver; omega
      obtain ⟨hF, c, el, fz, hobj, hok⟩ := hR.mem hst hne
      have hle2 := hok.le
      have hvl := hB.len
      have hmul : (off + len) * s' + ys.length * s' ≤ es.length * s' := by rw [← Dj]; exact Fs _ (by omega)
      have hst2 := Iz (P := P) (off := off * s' + len * s') vs 0 c C.w hobj hok.uf (by rw [hvl]; rw [Dj] at hmul; omega) hB.one
      rw [Ey, hvl, ← Dj] at hst2
      have hrun := Uw (P := P) (t := t) (u := u) (ty := ty) (sLen := len) (sCap := cap') (ad := some ⟨C.μ j, off * s', none⟩) hu hi his hb hB (by omega) (by simp only [Po, ← Dj]; exact hst2)
      have hlen' : (es.take (off + len) ++ ys ++ es.drop (off + len + ys.length)).length = es.length := by simp; omega
      have hcells : CRL C true true s' (es.take (off + len) ++ ys ++ es.drop (off + len + ys.length)) ((c.toList.take ((off + len) * s') ++ vs ++ c.toList.drop ((off + len) * s' + ys.length * s')).take (es.length * s')) := by
       rw [Aiz _ _ _ _ _ hvl hmul (by simpa using hle2), ← Dj]
       exact ((hok.cells.take (off + len)).append hys).append (hok.cells.drop (off + len + ys.length))
      obtain ⟨hE, hR'⟩ := oB hR hst hro hlen' (c := c) (c' := (c.toList.take ((off + len) * s') ++ vs ++ c.toList.drop ((off + len) * s' + ys.length * s')).toArray) (el := el) (fz := fz)
       (Ge C.w (C.μ j) (.cells (c.toList.take ((off + len) * s') ++ vs ++ c.toList.drop ((off + len) * s' + ys.length * s')).toArray el fz)) (fun _ => hobj) hok.uf (by simp [hvl]; omega) hle2
       (fun _ => rfl) (fun h0 => absurd h0 hne) rfl rfl rfl (by rw [hlen']; exact hcells)
      refine ⟨_, _, _, hrun, hE, hR', ?_⟩
      simp only [VR]
      refine ⟨trivial, hE.pst _ _ _ hpast, _, cap', rfl, by omega, fun es' hes' => ⟨k1, k2, fun _ _ => ⟨rfl, el0, n0, hE.shape _ _ _ hsh, hn0⟩⟩⟩
     ·rename_i hnin
      split at h
      ·
       split at h
       ·rename_i hc2
        obtain ⟨rfl, rfl⟩ := hc2
        simp only [Ag, Am] at h
        obtain ⟨rfl, rfl, _⟩ := h
        by_cases hcp : len + ys.length ≤ cap'
        ·have hver0 : 0 < len := by
          rcases fE len with h0 | h0
          ·have := k1 h0; omega
          ·exact h0
         obtain ⟨rfl, el0, n0, hsh, hn0⟩ := k3 hver0 (by omega)
         have hne : es ≠ [] := by intro h0; subst h0; simp at hver; omega
         obtain ⟨hF, c, el, fz, hobj, hok⟩ := hR.mem hst hne
         have hcs : n0 = c.size := by
          simp only [World.shape?, hobj] at hsh
          simp at hsh; exact hsh.2.symm
         have hvl := hB.len
         have hmul : len * s' + ys.length * s' ≤ c.size := by
          rw [← hcs]
          refine Ic ?_ hn0
          rw [← Dj]; exact Fs _ (by omega)
         have hst2 := Iz (P := P) (off := 0 * s' + len * s') vs 0 c C.w hobj hok.uf (by rw [hvl]; omega) hB.one
         rw [Ey, hvl, cL, Cq] at hst2
         have hrun := Uw (P := P) (t := t) (u := u) (ty := ty) (sLen := len) (sCap := cap') (ad := some ⟨C.μ j, 0 * s', none⟩) hu hi his hb hB hcp (by simp only [Po, cL, Cq]; exact hst2)
         have hlen' : (es ++ ys).length = len + ys.length := by simp; omega
         have hcells : CRL C true true s' (es ++ ys) ((c.toList.take (len * s') ++ vs ++ c.toList.drop (len * s' + ys.length * s')).take ((es ++ ys).length * s')) := by
          rw [hlen', Cz (by simp [hvl, Dj]; omega), Ai (by simp [hvl, Dj]; omega)]
          have := hok.cells
          rw [hver] at this
          exact this.append hys
         obtain ⟨hE, hR'⟩ := Ako hR hst hro hne (by simp) (c := c) (c' := (c.toList.take (len * s') ++ vs ++ c.toList.drop (len * s' + ys.length * s')).toArray) (el := el) (fz := fz)
          (Ge C.w (C.μ j) (.cells (c.toList.take (len * s') ++ vs ++ c.toList.drop (len * s' + ys.length * s')).toArray el fz)) hobj hok.uf (by simp [hvl]; omega) (by rw [hlen', Dj]; exact hmul)
          rfl rfl rfl rfl hcells
         refine ⟨_, _, _, hrun, hE, hR', ?_⟩
         simp only [VR]
         refine ⟨trivial, ⟨by simp [Heap.setRow]; exact hpast.1, fun _ s2 es2 hs2 => ?_⟩, _, cap', rfl, hcp, fun es' hes' => ⟨fun h0 => by omega, by simp; omega, fun _ _ => ⟨rfl, el0, n0, hE.shape _ _ _ hsh, hn0⟩⟩⟩
         simp [Heap.setRow] at hs2
         rw [← hs2.2, hlen']; exact Au _
        ·
         have hold : ∃ ov : List Value, ov.length = len * s' ∧ CRL C true true s' es ov ∧ ∀ w' : World, w'.heap = C.w.heap → (Builtin.firstCells s' len (.slice ad len cap')).run P w' = .ok ov.toArray w' := by
          by_cases hne : es = []
          ·subst hne
           simp at hver; subst hver
           refine ⟨[], by simp, by simp [CRL], fun w' _ => by cases ad <;> simp [Builtin.firstCells, loadCells, loadCellsFrom]⟩
          ·obtain ⟨hF, c, el, fz, hobj, hok⟩ := hR.mem hst hne
           have hver0 : 0 < len := by rw [← hver]; exact Gf.2 hne
           obtain ⟨rfl, el0, n0, hsh, hn0⟩ := k3 hver0 (by simp at k2; omega)
           have hcells := hok.cells
           rw [hver] at hcells
           have hcl := CRL.length hcells
           rw [hver] at hcl
           refine ⟨c.toList.take (len * s'), hcl, hcells, fun w' hw' => ?_⟩
           have hrow : rowAt w' (C.μ j) (0 * s') (c.toList.take (len * s')) := by
            rw [cL]; exact Kp (by rw [hw']; exact hobj) _
           have := Ov (P := P) w' hrow
           rw [hcl] at this
           simpa [Builtin.firstCells] using this
         obtain ⟨ov, o1, o2, o3⟩ := hold
         obtain ⟨cap2, cs, r1, r2, r3, r4⟩ := hnew ad len cap' ov (by omega) (by omega) o1 o3
         obtain ⟨hE0, hR0⟩ := bW hR C.w.drew rfl rfl rfl rfl
         have hlen' : (es ++ ys).length = len + ys.length := by simp; omega
         obtain ⟨hE, hR'⟩ := Aqi hR0 (j := j) (s := s') (es := es) (es' := es ++ ys) hst (by simp; omega) cs e (0, 0) (.inl rfl) (by rw [hlen', r3]; exact Fs _ r2) (by rw [hlen', r4]; exact CRL.mono hE0 (o2.append hys))
         refine ⟨_, _, _, r1, hE0.trans hE, hR', ?_⟩
         have := sZ (C' := ⟨C.F, updN C.μ j C.w.drew.heap.size, C.H.setRow j s' (es ++ ys), C.w.drew.alloc (.cells cs e)⟩)
          (j := j) (es := es ++ ys) (s := s') (g := g) (cap' := cap2) (len := len + ys.length) (by simp [Heap.setRow, hg]) (by simp) (Ir _ _) (by omega) (by omega) (by omega) (by omega) (r := true) rfl (t := true)
         rw [hlen'] at this
         exact this
       ·simp at h
      ·split at h
       ·rename_i c0 hc0
        simp only [Ag, Am] at h
        obtain ⟨rfl, rfl, _⟩ := h
        simp only at k2
        subst k2
        have hold : ∃ ov : List Value, ov.length = len * s' ∧ CRL C true true s' ((es.drop off).take len) ov ∧ ∀ w' : World, w'.heap = C.w.heap → (Builtin.firstCells s' len (.slice ad len cap')).run P w' = .ok ov.toArray w' := by
         by_cases hl0 : len = 0
         ·subst hl0
          refine ⟨[], by simp, by simp [CRL], fun w' _ => by cases ad <;> simp [Builtin.firstCells, loadCells, loadCellsFrom]⟩
         ·have hne : es ≠ [] := by intro h0; subst h0; simp at hver; omega
          obtain ⟨hF, c, el, fz, hobj, hok⟩ := hR.mem hst hne
          obtain ⟨rfl, el0, n0, hsh, hn0⟩ := k3 (by omega) (by omega)
          have hcl := CRL.length ((hok.cells.drop off).take len)
          have hl1 : ((es.drop off).take len).length = len := by simp; omega
          rw [hl1] at hcl
          refine ⟨_, hcl, (hok.cells.drop off).take len, fun w' hw' => ?_⟩
          have hrow : rowAt w' (C.μ j) (off * s') (((c.toList.take (es.length * s')).drop (off * s')).take (len * s')) := by
           have := ((Kp (w := w') (b := C.μ j) (by rw [hw']; exact hobj) (es.length * s')).drop (off * s')).take (len * s')
           simpa using this
          have := Ov (P := P) w' hrow
          rw [hcl] at this
          simpa [Builtin.firstCells] using this
        obtain ⟨ov, o1, o2, o3⟩ := hold
        obtain ⟨cap2, cs, r1, r2, r3, r4⟩ := hnew ad len cap' ov (by omega) (by omega) o1 o3
        obtain ⟨hE0, hR0⟩ := bW hR C.w.drew rfl rfl rfl rfl
        have hlen' : ((es.drop off).take len ++ ys).length = len + ys.length := by simp; omega
        obtain ⟨hE, hR'⟩ := Qx hR0 site s' ((es.drop off).take len ++ ys) cs e (0, 0) (.inl rfl) (by rw [hlen', r3]; exact Fs _ r2) (by rw [hlen', r4]; exact CRL.mono hE0 (o2.append hys))
        refine ⟨_, _, _, r1, hE0.trans hE, hR', ?_⟩
        have := sZ (C' := ⟨C.F, updN C.μ site C.w.drew.heap.size, C.H.newRow site s' ((es.drop off).take len ++ ys), C.w.drew.alloc (.cells cs e)⟩)
         (j := site) (es := (es.drop off).take len ++ ys) (s := s') (g := (C.H site).gen + 1) (cap' := cap2) (len := len + ys.length) (by simp [Heap.newRow]) (by simp) (Ir _ _) (by omega) (by omega) (by omega) (by omega) (r := true) rfl (t := true)
        rw [hlen'] at this
        exact this
       ·simp at h
    ·simp at h
 ·simp at h
theorem nR {e : TypeId} {s : Nat} {z : AV} (h : Ib P e = some (s, z)) : ∃ i z', P.info? e = some i ∧ i.size = s ∧ i.bytes ≤ 1024 ∧ 0 < i.bytes ∧ i.zero = some z' ∧ z'.cells.size = s ∧ cvt z' = some z ∧ z.cells.length = s ∧ Et z = true := by
 obtain ⟨i, z', i1, i2, i3, i4, i5, i6, i7, i8, i9, i10⟩ := Md h
 exact ⟨i, z', i1, i4, i7, i6, i2, i9, i3, i8, i10⟩
theorem xT {u e : TypeId} {s : Nat} {y : AV} {y' : Value} {ys : List AV} {js : List Nat} (hR : Rel C) (hs : 0 < s) (hy : VR C true true y y') (h : Cy C.H s y = some (ys, js))
  (hu : (∃ e', P.underlying u = some (.slice e')) ∨ P.underlying u = some .string) : ∃ vs, Behind P C.w u e s y' ys.length vs ∧ CRL C true true s ys vs := by
 rcases fB hR hy h with ⟨ad, cap, vs, rfl, hc, hm⟩ | ⟨b, rfl, hs1, rfl⟩
 ·have hl := CRL.length hc
  refine ⟨vs, ⟨hl, CRL.one hc, .inr ⟨hu, fun w' hw' => ⟨by simp [Builtin.lenOf], ?_⟩⟩⟩, hc⟩
  by_cases hne : ys = []
  ·subst hne
   simp only [CRL] at hc
   subst hc
   cases ad <;> simp [Builtin.firstCells, loadCells, loadCellsFrom]
  ·obtain ⟨b, off, rfl, hrow⟩ := hm hne
   have hrow' : rowAt w' b off vs := fun i v hv => by
    rw [cell?_of_block (w := C.w) (by rw [hw'])]; exact hrow i v hv
   have := Ov (P := P) w' hrow'
   rw [hl] at this
   simpa [Builtin.firstCells] using this
 ·subst hs1
  have hbs : b.data.toList.length = b.size := by rw [Nj]; rfl
  refine ⟨b.data.toList.map fun c => Value.int .u8 c.toNat, ⟨by simp, ?_, .inr ⟨hu, fun w' hw' => ⟨by simp [Builtin.lenOf], ?_⟩⟩⟩, kX _⟩
  ·intro x hx
   simp only [Bz] at hx
   obtain ⟨c, _, rfl⟩ := hx
   rfl
  ·rw [Ah, hbs]
   have e1 : b.extract 0 b.size = b := by simp
   simp only [Builtin.firstCells, e1, Ank]
   congr 1
   apply My
   simp
theorem Qy : ∀ (K : List Nat) (H : Heap) (i : Nat), Xh H K i = if i ∈ K then ⟨(H i).gen, true, (H i).st⟩ else H i
 | [], H, i => by simp [Xh]
 | j :: K, H, i => by
  simp only [Xh, Qy K, Ap]
  by_cases hi : i = j
  ·subst hi
   simp only [upd_same, true_or, if_true]
   split <;> rfl
  ·simp only [Df _ _ hi, hi, false_or]
theorem wZ : ∀ (K : List Nat) {C : Ctx}, Rel C → Evo C { C with H := Xh C.H K } ∧ Rel { C with H := Xh C.H K }
 | [], C, hR => ⟨Evo.refl C, hR⟩
 | j :: K, C, hR => by
  obtain ⟨h1, h2⟩ := Axe hR j
  obtain ⟨h3, h4⟩ := wZ K h2
  exact ⟨h1.trans h3, h4⟩
theorem Akj {C : Ctx} (hR : Rel C) {s : Nat} {ys ys' : List AV} {H1 : Heap} {K : List Nat} {vs : List Value} (h : Fe C.H ys = some (ys', H1, K)) (hc : CRL C true true s ys vs) :
  Evo C { C with H := H1 } ∧ Rel { C with H := H1 } ∧ CRL { C with H := H1 } true true s ys' vs ∧ ys'.length = ys.length := by
 unfold Fe at h
 split at h
 ·cases h
  exact ⟨Evo.refl C, hR, hc, rfl⟩
 ·cases h
  obtain ⟨hE, hR'⟩ := wZ (ys.flatMap (vis deep C.H)) hR
  refine ⟨hE, hR', ?_, by simp⟩
  refine CRL.weak (r := false) (t := false) (fun h => by cases h) (fun h => by cases h) ?_
  refine tG true hR (D := { C with H := Xh C.H (ys.flatMap (vis deep C.H)) }) rfl (fun tt b ht hib => ?_) (ys.flatMap (vis deep C.H)) (fun j hj s1 es hst hne => ?_) deep (fun j hj => hj) hc
  ·exact hE.ib hib
  ·have hlive := Tv hst hne
   have hl := hR.lt hlive
   refine ⟨hl.1, ?_, fun _ => hl.2⟩
   rintro ⟨i, hm, hi⟩
   simp only [Qy] at hm
   by_cases hik : i ∈ ys.flatMap (vis deep C.H)
   ·rw [if_pos hik] at hm
    simp [Blk.mut] at hm
   ·rw [if_neg hik] at hm
    exact hR.inj i j hm hlive (fun h => hik (h ▸ hj)) hi
theorem Anp {t u e : TypeId} {x y : Operand} {sx sy : SArg} {c : Call} {site s : Nat} {z : AV} (ho : o.op = .call c) (hc : c.callee = .builtin .append) (hts : c.argTypes = #[t, u]) (hxs : c.args = #[x, y])
  (hu : elemOf? P t = some e) (hi : Ib P e = some (s, z)) (hui : (∃ e', P.underlying u = some (.slice e')) ∨ P.underlying u = some .string)
  (hR : Rel C) (hT : TR C n T a.tmps) (hx : sarg x = some sx) (hy : sarg y = some sy)
  (h : aop cf xf base T C.H (.app site s sx sy) = some (v, H', fp)) : Ed P o a C v H' := by
 obtain ⟨i, z', i1, i2, i3, i4, i5, i6, i7, i8, i9⟩ := nR hi
 obtain ⟨_, _, _, _, _, _, hs0, _⟩ := Md hi
 simp only [aop, Jo] at h
 cases e1 : Cy C.H s (sy.ev T) with
 | none => simp [e1] at h
 | some p =>
  obtain ⟨ys, js⟩ := p
  simp only [e1, Ad, Ab] at h
  cases e3 : Fe C.H ys with
  | none => simp [e3] at h
  | some p3 =>
  obtain ⟨ys', H1, K⟩ := p3
  simp only [e3, Ab] at h
  cases e2 : Dv H1 (base + site) s (sx.ev T) ys' with
  | none => simp [e2] at h
  | some q =>
   obtain ⟨v2, H2, f2⟩ := q
   simp only [e2, Ab, Ag, Am] at h
   obtain ⟨rfl, rfl, _⟩ := h
   obtain ⟨vs, hB, hcr⟩ := xT (P := P) (u := u) (e := e) hR hs0 (Dn hT hy) e1 hui
   obtain ⟨hE1, hR1, hcr1, hl1⟩ := Akj hR e3 hcr
   obtain ⟨v', μ', w', r1, r2, r3, r4⟩ := mY (P := P) (ty := o.type) (C := { C with H := H1 }) hR1 (Kj hu) i1 i2 i3 i4 i5 i6 (VR.mono hE1 (Dn hT hx)) hB hl1 hcr1 e2
   exact ⟨v', μ', w', .inl (by simp [Fp ho hc, hts, hxs, builtin, r1]), hE1.trans r2, r3, r4⟩
theorem Asy {t u e : TypeId} {x y : Operand} {sx sy : SArg} {c : Call} {site s : Nat} {z : AV} (ho : o.op = .call c) (hc : c.callee = .builtin .append) (hts : c.argTypes = #[t, u]) (hxs : c.args = #[x, y])
  (hu : elemOf? P t = some e) (hi : Ib P e = some (s, z)) (hui : Acm P u = true)
  (hR : Rel C) (hT : TR C n T a.tmps) (hx : sarg x = some sx) (hy : sarg y = some sy)
  (h : aop cf xf base T C.H (.appZ site s z sx sy) = some (v, H', fp)) : Ed P o a C v H' := by
 obtain ⟨i, z', i1, i2, i3, i4, i5, i6, i7, i8, i9⟩ := nR hi
 simp only [aop] at h
 cases e1 : Fz (sy.ev T) with
 | none => simp [e1] at h
 | some m =>
  obtain ⟨k, hk⟩ := Te (Dn hT hy) e1
  simp only [e1, Ad, Ab] at h
  split at h
  ·rename_i hcnd
   have hel := Aii (C := C) (r := true) (t := true) i9 i8 (lF i7)
   have hB : Behind P C.w u e s (a.eval y) m (List.replicate m z'.cells.toList).flatten := by
    refine ⟨by simp [i6], ?_, .inl ⟨hui, k, hk, hcnd.1, i, z', i1, i5, rfl, i6⟩⟩
    intro x hx
    simp only [List.mem_flatten, List.mem_replicate] at hx
    obtain ⟨l, ⟨_, rfl⟩, hx⟩ := hx
    exact VRL.one hel.2 x hx
   obtain ⟨v', μ', w', r1, r2, r3, r4⟩ := mY (P := P) (ty := o.type) hR (Kj hu) i1 i2 i3 i4 i5 i6 (Dn hT hx) hB (by simp) (CRL.replicate hel m) h
   exact ⟨v', μ', w', .inl (by simp [Fp ho hc, hts, hxs, builtin, r1]), r2, r3, r4⟩
  ·simp at h
set_option maxHeartbeats 1000000 in
theorem Asm {t u e : TypeId} {x y : Operand} {sx sy : SArg} {c : Call} {s : Nat} {z : AV} (ho : o.op = .call c) (hc : c.callee = .builtin .copy) (hts : c.argTypes = #[t, u]) (hxs : c.args = #[x, y])
  (hu : elemOf? P t = some e) (hi : Ib P e = some (s, z))
  (hR : Rel C) (hT : TR C n T a.tmps) (hx : sarg x = some sx) (hy : sarg y = some sy)
  (h : aop cf xf base T C.H (.copy s sx sy) = some (v, H', fp)) : Ed P o a C v H' := by
 obtain ⟨i, z', i1, i2, i3, i4, i5, i6, i7, i8, i9⟩ := nR hi
 obtain ⟨_, _, _, _, _, _, hs0, _⟩ := Md hi
 have hx' := Dn hT hx
 have hy' := Dn hT hy
 have hsz : ∀ w : World, (sizeOf e).run P w = .ok s w := fun w => by simp [sizeOf, typeInfo, i1, i2]
 simp only [aop, rG] at h
 cases e1 : Cy C.H s (sy.ev T) with
 | none => simp [e1] at h
 | some p =>
  obtain ⟨ys, js⟩ := p
  simp only [e1, Ad, Ab] at h
  have hsrc : ∀ k, k ≤ ys.length → ∃ vs, vs.length = k * s ∧ CRL C true true s (ys.take k) vs ∧ (Builtin.lenOf (a.eval y)).run P C.w = .ok ys.length C.w ∧ (Builtin.firstCells s k (a.eval y)).run P C.w = .ok vs.toArray C.w := by
   intro k hk
   rcases fB hR hy' e1 with ⟨ad, cap, vs, hv, hcr, hm⟩ | ⟨b, hv, hs1, hys⟩
   ·have hk0 : (ys.take k).length = k := by rw [Bc]; omega
    have hcl := CRL.length (hcr.take k)
    rw [hk0] at hcl
    refine ⟨vs.take (k * s), hcl, hcr.take k, by simp [hv, Builtin.lenOf], ?_⟩
    rw [hv]
    by_cases hne : ys = []
    ·subst hne
     have : k = 0 := by simpa using hk
     subst this
     cases ad <;> simp [Builtin.firstCells, loadCells, loadCellsFrom]
    ·obtain ⟨b, off, rfl, hrow⟩ := hm hne
     have := Ov (P := P) C.w (hrow.take (k * s))
     rw [hcl] at this
     simpa [Builtin.firstCells] using this
   ·subst hs1
    subst hys
    have hbs : b.data.toList.length = b.size := by rw [Nj]; rfl
    rw [Ah, hbs] at hk ⊢
    refine ⟨(b.data.toList.take k).map fun c => Value.int .u8 c.toNat, by rw [Ah, Bc, hbs]; omega, ?_, by rw [hv]; simp [Builtin.lenOf], ?_⟩
    ·rw [← Ja]; exact kX _
    ·rw [hv]
     simp only [Builtin.firstCells, Ank]
     congr 1
     apply My
     simp [ByteArray.data_extract, Array.toList_extract, Ja]
  cases e2 : Ca ys with
  | false => simp [e2] at h
  | true =>
  simp only [e2, Ka, Az, Cn] at h
  split at h
  ·rename_i tt full s' es hq
   split at h
   ·rename_i hcn
    simp only [Ag, Am] at h
    obtain ⟨rfl, rfl, _⟩ := h
    rw [hq] at hx'
    simp only [VR] at hx'
    obtain ⟨_, ad, cap', hv, _⟩ := hx'
    obtain ⟨vs, hvl, _, hlen, hfirst⟩ := hsrc 0 (Ep _)
    have hv0 : vs = [] := by simpa using hvl
    subst hv0
    have hmin : Nat.min ys.length es.length = 0 := by rcases hcn with hcn | hcn <;> simp [isNil_iff.1 hcn]
    refine Cg hR (v' := .int .i64 0) ?_ (by simp [VR])
    cases ad <;> simp [Fp ho hc, hts, hxs, builtin, Builtin.copy_, Ar (Kj hu), hv, hlen, hmin, hsz, hfirst, storeCells, goInt]
   ·simp at h
  ·rename_i j g ver s' off len cap hq
   rw [hq] at hx'
   split at h
   ·simp at h
   ·rename_i es hes
    split at h
    ·rename_i hcn
     obtain ⟨rfl, hle⟩ := hcn
     simp only [Ag, Am] at h
     obtain ⟨rfl, rfl, _⟩ := h
     obtain ⟨hes1, hro⟩ := rowW_some.1 hes
     have hes' := row_some.1 hes1
     simp only [VR] at hx'
     obtain ⟨_, hp, ad, cap', hv, hcap, hk⟩ := hx'
     obtain ⟨k1, k2, k3⟩ := hk es hes1
     obtain ⟨m, hm⟩ : ∃ m, m = min ys.length len := ⟨_, rfl⟩
     have hmN : Nat.min ys.length len = m := hm.symm
     rw [← hm]
     obtain ⟨vs, hvl, hcr, hlen, hfirst⟩ := hsrc m (by omega)
     by_cases hm0 : m = 0
     ·have hv0 : vs = [] := by rw [hm0] at hvl; simpa using hvl
      subst hv0
      have hH : C.H.setRow j s' (es.take off ++ ys.take m ++ es.drop (off + m)) = C.H := by
       rw [hm0]
       simp only [Nr, Bv, Ey, Hv]
       exact Adz _ _ _ _ hes'.2.1 hro
      rw [hH]
      refine Cg hR (v' := .int .i64 0) ?_ (by rw [hm0]; simp [VR])
      rw [hm0] at hmN hfirst
      cases ad <;> simp [Fp ho hc, hts, hxs, builtin, Builtin.copy_, Ar (Kj hu), hv, hlen, hmN, hsz, hfirst, storeCells, goInt]
     ·have hne : es ≠ [] := by intro h; subst h; simp at hes'; omega
      obtain ⟨_, cc, el, fzz, hobj, hok⟩ := hR.mem hes'.2.1 hne
      obtain ⟨k4, _⟩ := k3 (by omega) (by omega)
      subst k4
      have hle2 := hok.le
      have hml : (off + m) * s' ≤ es.length * s' := Fs _ (by omega)
      have hml2 : off * s' + m * s' ≤ es.length * s' := by rw [← Dj]; exact hml
      have hrun := Iz (P := P) (off := off * s') vs 0 cc C.w hobj hok.uf (by rw [hvl]; omega) (CRL.one hcr)
      simp only [Ey, hvl] at hrun
      have hnew := ((hok.cells.take off).append hcr).append (hok.cells.drop (off + m))
      have hlist := Aiz cc.toList vs (off * s') (m * s') (es.length * s') hvl hml2 (by simpa using hle2)
      have hlen2 : (es.take off ++ ys.take m ++ es.drop (off + m)).length = es.length := by simp; omega
      obtain ⟨hE, hR'⟩ := oB hR (j := j) (s := s') (es := es) (es' := es.take off ++ ys.take m ++ es.drop (off + m)) hes'.2.1 hro hlen2 (c := cc) (c' := (cc.toList.take (off * s') ++ vs ++ cc.toList.drop (off * s' + m * s')).toArray) (el := el) (fz := fzz)
       (Ge C.w (C.μ j) (.cells (cc.toList.take (off * s') ++ vs ++ cc.toList.drop (off * s' + m * s')).toArray el fzz)) (fun _ => hobj) hok.uf (by simp [hvl]; omega) hle2
       (fun _ => rfl) (fun h => absurd h hne) rfl rfl rfl (by rw [hlen2]; rw [hlist]; rw [Dj] at hnew; exact hnew)
      refine ⟨.int .i64 m, C.μ, _, .inl ?_, hE, hR', by simp [VR]⟩
      simp [Fp ho hc, hts, hxs, builtin, Builtin.copy_, Ar (Kj hu), hv, hlen, hmN, hsz, hfirst, hrun, goInt]
    ·simp at h
  ·simp at h
end ops
end Go.AI
namespace Go.AI
theorem Amh {C : Ctx} (hR : Rel C) (j : Nat) :
  Evo C ⟨C.F, updN C.μ j C.w.heap.size, C.H.upd j ⟨(C.H j).gen + 1, false, .map []⟩, C.w.alloc (.map #[] 0)⟩ ∧ Rel ⟨C.F, updN C.μ j C.w.heap.size, C.H.upd j ⟨(C.H j).gen + 1, false, .map []⟩, C.w.alloc (.map #[] 0)⟩ := by
 have hg : ¬ ((C.H j).gen + 1 = (C.H j).gen) := by omega
 obtain ⟨hE, hr⟩ := Sl hR j ⟨(C.H j).gen + 1, false, .map []⟩ C.w.heap.size (C.w.alloc (.map #[] 0)) (by simp) (fun h => absurd h hg) (fun h => absurd h hg)
  (by simp) (fun b hb _ => Nz _ _ hb) (fun b e n h => Ul _ _ _ _ _ h) (fun _ => .inr (Au _)) (fun _ => .inr (Au _)) rfl rfl rfl
 refine ⟨hE, hr ?_⟩
 unfold BR
 simp only [upd_same, updN_same]
 exact ⟨fun hF => by have := hR.fsz _ hF; omega, #[], 0, Ir _ _, by simp [MapRel]⟩
theorem nY {C : Ctx} (hR : Rel C) {j : Nat} {es es' : List (Int × AV)} (hst : (C.H j).st = .map es) (hro : (C.H j).ro = false) {ents ents' : Array MapEntry} {clock clock' : Nat}
  (hobj : C.w.heap[C.μ j]? = some (.map ents clock)) (hc : MapRel C es' ents'.toList) :
  Evo C ⟨C.F, C.μ, C.H.upd j ⟨(C.H j).gen, false, .map es'⟩, Ge C.w (C.μ j) (.map ents' clock')⟩ ∧ Rel ⟨C.F, C.μ, C.H.upd j ⟨(C.H j).gen, false, .map es'⟩, Ge C.w (C.μ j) (.map ents' clock')⟩ := by
 have hμ : updN C.μ j (C.μ j) = C.μ := by funext i; by_cases h : i = j <;> simp [updN, h]
 have hk : ∀ b, b ≠ C.μ j → (Ge C.w (C.μ j) (.map ents' clock')).heap[b]? = C.w.heap[b]? := fun b hb => by simp only [Ge]; rw [Gg, if_neg (Ne.symm hb)]
 have hl := Aqn hst
 have hmut : (C.H j).mut = true := by unfold Blk.mut; rw [hl, hro]; rfl
 obtain ⟨hE, hr⟩ := Sl hR j ⟨(C.H j).gen, false, .map es'⟩ (C.μ j) (Ge C.w (C.μ j) (.map ents' clock')) (Au _)
  (fun _ s1 es1 h1 => by cases h1) (fun _ es1 h1 _ => ⟨⟨es, hst⟩, hro, rfl⟩)
  (by simp [Ge]) (fun b hb hn => hk b fun h2 => hn ⟨hmut, h2⟩)
  (fun b e n h => by
   by_cases hb : b = C.μ j
   ·subst hb
    unfold World.shape? at h
    rw [hobj] at h
    cases h
   ·unfold World.shape? at h ⊢
    rw [hk b hb]; exact h)
  (fun h => .inl ⟨rfl, hmut⟩) (fun h => .inl ⟨rfl, hl⟩) rfl rfl rfl
 rw [hμ] at hE hr
 refine ⟨hE, hr ?_⟩
 unfold BR
 simp only [upd_same]
 refine ⟨(hR.lt hl).2, ents', clock', ?_, MapRel.mono hE hc⟩
 simp only [Ge]
 rw [Gg, if_pos rfl, hobj]; rfl
theorem oA {C : Ctx} (n : Int) (k : IntKind) : ∀ {es : List (Int × AV)} {ents : List MapEntry} (i : Nat), MapRel C es ents →
  (Tl n es = none ∧ Instr.findNow (.int k) (.int .i64 n) ents i = some none ∧ Qf n es = es ∧ ∀ a v born, VR C true true a v → MapRel C (Pi n a es) (ents ++ [⟨.int .i64 n, v, born⟩])) ∨
  (∃ j u w e, Tl n es = some u ∧ Instr.findNow (.int k) (.int .i64 n) ents i = some (some (i + j, w)) ∧ VR C true true u w ∧ ents[j]? = some e ∧ e.key = .int .i64 n ∧ MapRel C (Qf n es) (ents.eraseIdx j) ∧
   ∀ a v, VR C true true a v → MapRel C (Pi n a es) (ents.modify j fun e => { e with key := .int .i64 n, val := v }))
 | [], ents, i, h => by
  simp only [MapRel] at h
  subst h
  refine .inl ⟨rfl, rfl, rfl, fun a v born hv => ?_⟩
  simp only [Pi, Dd, MapRel]
  exact ⟨_, _, rfl, rfl, hv, rfl⟩
 | (b, u) :: es, ents, i, h => by
  simp only [MapRel] at h
  obtain ⟨e, es', rfl, hk, hv, hr⟩ := h
  by_cases hb : n = b
  ·subst hb
   refine .inr ⟨0, u, e.val, e, by simp [Tl], by simp [Instr.findNow, Instr.sameNow, hk], hv, rfl, hk, by simpa [Qf] using hr, fun a v ha => ?_⟩
   simp only [Pi, if_true, List.modify_zero_cons, MapRel]
   exact ⟨_, _, rfl, rfl, ha, hr⟩
  ·have hf : Instr.findNow (.int k) (.int .i64 n) (e :: es') i = Instr.findNow (.int k) (.int .i64 n) es' (i + 1) := by
    simp [Instr.findNow, Instr.sameNow, hk, beq_eq_false_iff_ne.2 hb]
   rcases oA n k (i + 1) hr with ⟨h1, h2, h3, h4⟩ | ⟨j, u', w, e', h1, h2, h3, h4, h5, h6, h7⟩
   ·refine .inl ⟨by simp [Tl, hb, h1], by rw [hf, h2], by simp [Qf, hb, h3], fun a v born ha => ?_⟩
    simp only [Pi, hb, Cn, Jt, MapRel]
    exact ⟨_, _, rfl, hk, hv, h4 a v born ha⟩
   ·refine .inr ⟨j + 1, u', w, e', by simp [Tl, hb, h1], by rw [hf, h2]; congr 3; omega, h3, by simpa using h4, h5, ?_, fun a v ha => ?_⟩
    ·simp only [Qf, hb, Cn, List.eraseIdx_cons_succ, MapRel]
     exact ⟨_, _, rfl, hk, hv, h6⟩
    ·simp only [Pi, hb, Cn, List.modify_succ_cons, MapRel]
     exact ⟨_, _, rfl, hk, hv, h7 a v ha⟩
theorem MapRel.length {C : Ctx} : ∀ {es : List (Int × AV)} {ents : List MapEntry}, MapRel C es ents → ents.length = es.length
 | [], _, h => by simp only [MapRel] at h; subst h; rfl
 | (_, _) :: es, _, h => by
  simp only [MapRel] at h
  obtain ⟨e, es', rfl, _, _, hr⟩ := h
  simp [MapRel.length hr]
section ops
variable {P : Program} {o : Oper} {a : Act} {C : Ctx} {n : Nat} {T : Tmps} {cf : Dk} {xf : ExtF} {base : Nat} {v : AV} {H' : Heap} {fp : FP}
theorem dT {t : TypeId} (h : lO P t = true) : P.underlying t = some (.int .i64) := by
 unfold lO at h
 split at h
 ·assumption
 ·simp at h
theorem tY {t : TypeId} (h : P.underlying t = some (.int .i64)) (b : Bool) (d : Nat) (k : IntKind) (n : Int) (w : World) : (Instr.checkKey b (d + 1) t (.int k n)).run P w = .ok () w := by
 simp [Instr.checkKey, Ar h]
theorem Na {t : TypeId} (h : P.underlying t = some (.int .i64)) (b : Bool) (k : IntKind) (n : Int) (w : World) : (Instr.checkKey b 10000 t (.int k n)).run P w = .ok () w := tY h b 9999 k n w
theorem zY {j g : Nat} {es : List (Int × AV)} {v' : Value} (hR : Rel C) (hes : C.H.mapAt j g = some es) (hv : VR C true true (.mp j g) v') :
  v' = .map (some (C.μ j)) ∧ ∃ ents clock, C.w.heap[C.μ j]? = some (.map ents clock) ∧ MapRel C es ents.toList := by
 simp only [VR] at hv
 obtain ⟨_, _, b, rfl, hb⟩ := hv
 have hm := mapAt_some.1 hes
 have hblk := hR.blk j
 unfold BR at hblk
 rw [hm.2.2] at hblk
 obtain ⟨_, ents, clock, h1, h2⟩ := hblk
 exact ⟨by rw [hb es hes], ents, clock, h1, h2⟩
theorem Xl {b c : Nat} {x : Array MapEntry} {w : World} (h : w.heap[b]? = some (.map x c)) : (getObj b).run P w = .ok (.map x c) w := by
 simp [getObj, Sem.run, h]
theorem oD {b c : Nat} {x : Obj} {y : Array MapEntry} {w : World} (h : w.heap[b]? = some (.map y c)) : (setObj b x).run P w = .ok () (Ge w b x) := by
 have e : w.heap.setIfInBounds b x = w.heap.modify b fun _ => x := by
  apply Bhu
  ·simp
  ·intro k k1 k2
   rw [Yz, Array.getElem_setIfInBounds]
 simp [setObj, Sem.run, h, Ge, e]
theorem Arc {t : TypeId} {site : Nat} (ho : o.op = .makeMap t none) (hR : Rel C)
  (h : aop cf xf base T C.H (.mkmap site) = some (v, H', fp)) : Ed P o a C v H' := by
 simp only [aop, Ag, Am] at h
 obtain ⟨rfl, rfl, _⟩ := h
 obtain ⟨hE, hR'⟩ := Amh hR (base + site)
 refine ⟨.map (some C.w.heap.size), _, _, .inl ?_, hE, hR', ?_⟩
 ·simp [execOp, ho, Instr.makeMap, newObj, Sem.run]
 ·simp only [VR]
  refine ⟨trivial, ⟨by simp, fun _ s es hs => by simp at hs⟩, _, rfl, fun es _ => by simp⟩
theorem Akc {t k e : TypeId} {x i : Operand} {sx si : SArg} {z : AV} {ok : Bool} (ho : o.op = .lookup t x i ok) (hu : P.underlying t = some (.map k e)) (hk : lO P k = true) (hi : Ib P e = some (1, z))
  (hR : Rel C) (hT : TR C n T a.tmps) (hx : sarg x = some sx) (hy : sarg i = some si)
  (h : aop cf xf base T C.H (.lookup z sx si ok) = some (v, H', fp)) : Ed P o a C v H' := by
 obtain ⟨inf, z', i1, i2, i3, i4, i5, i6, i7, i8, i9⟩ := nR hi
 have hx' := Dn hT hx
 have hy' := Dn hT hy
 simp only [aop] at h
 split at h
 ·rename_i j g m hq1 hq2
  rw [hq1] at hx'; rw [hq2] at hy'
  cases hes : C.H.mapAt j g with
  | none => simp [hes] at h
  | some es =>
   simp only [hes, Ad, Ab, Ag, Am] at h
   obtain ⟨rfl, rfl, _⟩ := h
   obtain ⟨hv, ents, clock, hobj, hrel⟩ := zY hR hes hx'
   simp only [VR] at hy'
   have hku := dT hk
   rcases oA m .i64 0 hrel with ⟨h1, h2, _, _⟩ | ⟨j', u, w, e', h1, h2, h3, _⟩
   ·have hzv := lF (C := C) (r := true) (t := true) i7
    refine Cg hR (v' := if ok then .tuple #[z', .bool false] else z') ?_ ?_
    ·cases ok <;> simp [execOp, ho, hv, hy', Instr.lookup, Ar hu, Xl hobj, Na hku, Instr.findKey, Ar hku, h2, zeroValue, typeInfo, i1, i5]
    ·rw [h1]
     cases ok
     ·simpa using hzv
     ·simp only [if_true, VR, VRT]
      exact ⟨_, rfl, _, _, rfl, hzv, _, _, rfl, rfl, rfl⟩
   ·refine Cg hR (v' := if ok then .tuple #[w, .bool true] else w) ?_ ?_
    ·cases ok <;> simp [execOp, ho, hv, hy', Instr.lookup, Ar hu, Xl hobj, Na hku, Instr.findKey, Ar hku, h2]
    ·rw [h1]
     cases ok
     ·simpa using h3
     ·simp only [if_true, VR, VRT]
      exact ⟨_, rfl, _, _, rfl, h3, _, _, rfl, rfl, rfl⟩
 ·simp at h
theorem Akv {t k e : TypeId} {x i y : Operand} {sx si sy : SArg} (ho : o.op = .mapUpdate t x i y) (hu : P.underlying t = some (.map k e)) (hk : lO P k = true)
  (hR : Rel C) (hT : TR C n T a.tmps) (hx : sarg x = some sx) (hi : sarg i = some si) (hy : sarg y = some sy)
  (h : aop cf xf base T C.H (.mapset sx si sy) = some (v, H', fp)) : Ed P o a C v H' := by
 have hx' := Dn hT hx
 have hi' := Dn hT hi
 have hy' := Dn hT hy
 simp only [aop] at h
 split at h
 ·rename_i j g m hq1 hq2
  rw [hq1] at hx'; rw [hq2] at hi'
  cases hes : C.H.mapAt j g with
  | none => simp [hes] at h
  | some es =>
   simp only [hes, Ad, Ab] at h
   split at h
   ·simp only [Ag, Am] at h
    obtain ⟨rfl, rfl, _⟩ := h
    obtain ⟨hv, ents, clock, hobj, hrel⟩ := zY hR hes hx'
    obtain ⟨m1, m2, m3⟩ := mapAt_some.1 hes
    simp only [VR] at hi'
    have hku := dT hk
    rcases oA m .i64 0 hrel with ⟨h1, h2, _, h4⟩ | ⟨j', u, w, e', h1, h2, h3, h5, h6, _, h7⟩
    ·obtain ⟨hE, hR'⟩ := nY hR m3 m2 hobj (ents' := ents.push ⟨.int .i64 m, a.eval y, clock⟩) (clock' := clock + 1) (by simpa using h4 _ _ clock hy')
     refine ⟨Go.undef, C.μ, _, .inr ⟨?_, rfl⟩, hE, hR', by simp [VR]⟩
     simp [execOp, ho, hv, hi', Instr.mapUpdate, Ar hu, Xl hobj, Na hku, Instr.findKey, Ar hku, h2, oD hobj]
    ·obtain ⟨hE, hR'⟩ := nY hR m3 m2 hobj (ents' := ents.modify j' fun e => { e with key := .int .i64 m, val := a.eval y }) (clock' := clock) (by simpa [Array.toList_modify] using h7 _ _ hy')
     refine ⟨Go.undef, C.μ, _, .inr ⟨?_, rfl⟩, hE, hR', by simp [VR]⟩
     have h5' : ents[j']? = some e' := by simpa using h5
     simp [execOp, ho, hv, hi', Instr.mapUpdate, Ar hu, Xl hobj, Na hku, Instr.findKey, Ar hku, h2, oD hobj, h5', h6, Instr.keyThatStays, Instr.sameBits]
   ·simp at h
 ·simp at h
theorem Amb {t u k e : TypeId} {x y : Operand} {sx sy : SArg} {c : Call} (ho : o.op = .call c) (hc : c.callee = .builtin .delete) (hts : c.argTypes = #[t, u]) (hxs : c.args = #[x, y])
  (hu : P.underlying t = some (.map k e)) (hk : lO P k = true) (hR : Rel C) (hT : TR C n T a.tmps) (hx : sarg x = some sx) (hy : sarg y = some sy)
  (h : aop cf xf base T C.H (.mapdel sx sy) = some (v, H', fp)) : Ed P o a C v H' := by
 have hx' := Dn hT hx
 have hy' := Dn hT hy
 simp only [aop] at h
 split at h
 ·rename_i j g m hq1 hq2
  rw [hq1] at hx'; rw [hq2] at hy'
  cases hes : C.H.mapAt j g with
  | none => simp [hes] at h
  | some es =>
   simp only [hes, Ad, Ab, Ag, Am] at h
   obtain ⟨rfl, rfl, _⟩ := h
   obtain ⟨hv, ents, clock, hobj, hrel⟩ := zY hR hes hx'
   obtain ⟨m1, m2, m3⟩ := mapAt_some.1 hes
   simp only [VR] at hy'
   have hku := dT hk
   rcases oA m .i64 0 hrel with ⟨h1, h2, h3, _⟩ | ⟨j', u, w, e', h1, h2, _, h5, h6, h7, _⟩
   ·obtain ⟨hE, hR'⟩ := nY hR m3 m2 hobj (es' := Qf m es) (ents' := ents) (clock' := clock) (by rw [h3]; exact hrel)
    refine ⟨.tuple #[], C.μ, _, .inl ?_, hE, hR', by simp [VR, Go.undef]⟩
    simp [Fp ho hc, hts, hxs, builtin, Builtin.delete_, hv, hy', Ar hu, Xl hobj, Na hku, Instr.findKey, Ar hku, h2, oD hobj]
   ·obtain ⟨hE, hR'⟩ := nY hR m3 m2 hobj (ents' := ents.eraseIdxIfInBounds j') (clock' := clock) (by simpa using h7)
    refine ⟨.tuple #[], C.μ, _, .inl ?_, hE, hR', by simp [VR, Go.undef]⟩
    simp [Fp ho hc, hts, hxs, builtin, Builtin.delete_, hv, hy', Ar hu, Xl hobj, Na hku, Instr.findKey, Ar hku, h2, oD hobj]
 ·simp at h
theorem Alq {t k e : TypeId} {x : Operand} {sx : SArg} {c : Call} (ho : o.op = .call c) (hc : c.callee = .builtin .len) (hts : c.argTypes = #[t]) (hxs : c.args = #[x])
  (hu : P.underlying t = some (.map k e)) (hR : Rel C) (hT : TR C n T a.tmps) (hx : sarg x = some sx)
  (h : aop cf xf base T C.H (.maplen sx) = some (v, H', fp)) : Ed P o a C v H' := by
 have hx' := Dn hT hx
 simp only [aop] at h
 split at h
 ·rename_i j g hq1
  rw [hq1] at hx'
  cases hes : C.H.mapAt j g with
  | none => simp [hes] at h
  | some es =>
   simp only [hes, Ad, Ab, Ag, Am] at h
   obtain ⟨rfl, rfl, _⟩ := h
   obtain ⟨hv, ents, clock, hobj, hrel⟩ := zY hR hes hx'
   have hl : ents.size = es.length := by simpa using hrel.length
   refine Cg hR (v' := .int .i64 es.length) ?_ (by simp [VR])
   simp [Fp ho hc, hts, hxs, builtin, Builtin.len_, hv, Ar hu, Xl hobj, goInt, hl]
 ·simp at h
end ops
end Go.AI
namespace Go.AI
section ops
variable {P : Program} {o : Oper} {a : Act} {C : Ctx} {n : Nat} {T : Tmps} {cf : Dk} {xf : ExtF} {base : Nat} {v : AV} {H' : Heap} {fp : FP}
def Wz : SOp → Bool
 | .call .. | .callv .. => true
 | _ => false
theorem Agw {h : Hint} {b : Builtin} {c : Call} {sop : SOp} (ho : o.op = .call c) (hc : c.callee = .builtin b) (hs : Pa P h b c.argTypes.toList c.args.toList = some sop) (hR : Rel C) (hT : TR C n T a.tmps)
  (hop : aop cf xf base T C.H sop = some (v, H', fp)) : Ed P o a C v H' := by
 have arr1 : ∀ {α : Type} {xs : Array α} {x : α}, xs.toList = [x] → xs = #[x] := fun h => My (by simpa using h)
 have arr2 : ∀ {α : Type} {xs : Array α} {x y : α}, xs.toList = [x, y] → xs = #[x, y] := fun h => My (by simpa using h)
 unfold Pa at hs
 split at hs
 ·rename_i t x h1 h2
  split at hs
  ·rename_i e hu
   simp only [Aq] at hs
   obtain ⟨sx, hx, rfl⟩ := hs
   exact Awd ho hc (arr1 h1) (arr1 h2) hR hT hx hu hop
  ·rename_i m e hu
   simp at hs; subst hs
   exact Ass ho hc (arr1 h1) (arr1 h2) hR hu hop
  ·rename_i k e hu
   simp only [Aq] at hs
   obtain ⟨sx, hx, rfl⟩ := hs
   exact Alq ho hc (arr1 h1) (arr1 h2) hu hR hT hx hop
  ·simp at hs
 ·rename_i t x h1 h2
  split at hs
  ·rename_i e hu
   simp only [Aq] at hs
   obtain ⟨sx, hx, rfl⟩ := hs
   exact Avz ho hc (arr1 h1) (arr1 h2) hR hT hx hu hop
  ·simp at hs
 ·rename_i t u x y h1 h2
  split at hs
  ·rename_i e he
   split at hs
   ·rename_i s z hi
    split at hs
    ·rename_i sx sy hx hy
     split at hs
     ·rename_i k hu
      simp at hs; subst hs
      exact Asy ho hc (arr2 h1) (arr2 h2) he hi (by simp [Acm, hu]) hR hT hx hy hop
     ·rename_i e' hu
      simp at hs; subst hs
      exact Anp ho hc (arr2 h1) (arr2 h2) he hi (.inl ⟨e', hu⟩) hR hT hx hy hop
     ·rename_i hu
      simp at hs; subst hs
      exact Anp ho hc (arr2 h1) (arr2 h2) he hi (.inr hu) hR hT hx hy hop
     ·simp at hs
    ·simp at hs
   ·simp at hs
  ·simp at hs
 ·rename_i t u x y h1 h2
  split at hs
  ·rename_i e he
   split at hs
   ·rename_i s z hi
    split at hs
    ·rename_i sx sy hx hy
     simp at hs; subst hs
     exact Asm ho hc (arr2 h1) (arr2 h2) he hi hR hT hx hy hop
    ·simp at hs
   ·simp at hs
  ·simp at hs
 ·rename_i t u x y h1 h2
  split at hs
  ·rename_i k e hu
   split at hs
   ·rename_i hk
    split at hs
    ·rename_i sx sy hx hy
     simp at hs; subst hs
     exact Amb ho hc (arr2 h1) (arr2 h2) hu hk hR hT hx hy hop
    ·simp at hs
   ·simp at hs
  ·simp at hs
 ·rename_i t1 t2 x y h1 h2
  split at hs
  ·rename_i sx sy hx hy
   simp at hs; subst hs
   exact Aju (mx := false) ho hc (arr2 h2) hR hT hx hy hop
  ·simp at hs
 ·rename_i t1 t2 x y h1 h2
  split at hs
  ·rename_i sx sy hx hy
   simp at hs; subst hs
   exact Aju (mx := true) ho hc (arr2 h2) hR hT hx hy hop
  ·simp at hs
 ·simp at hs
theorem Axx {h : Hint} {sop : SOp} (hs : Uo P h o = some sop) (hnc : Wz sop = false) (hR : Rel C) (hT : TR C n T a.tmps)
  (hop : aop cf xf base T C.H sop = some (v, H', fp)) : Ed P o a C v H' := by
 unfold Uo at hs
 split at hs
 case h_1 x ho =>
  simp only [Aq] at hs
  obtain ⟨sx, hx, rfl⟩ := hs
  exact Aur (.inl ho) hR hT hx hop
 case h_2 x ho =>
  split at hs
  ·rename_i hn
   simp only [Cl] at hn
   split at hs
   ·split at hs
    ·simp at hs; subst hs
     exact Alk ho hn.2 hR hop
    ·simp at hs
   ·simp at hs
  ·simp only [Aq] at hs
   obtain ⟨sx, hx, rfl⟩ := hs
   exact Aur (.inr ho) hR hT hx hop
 case h_3 c x y ho =>
  split at hs
  ·rename_i h1 h2 h3
   simp at hs; subst hs
   exact Ary ho hR hT h1 h2 h3 hop
  ·simp at hs
 case h_4 e ho =>
  simp only [Aq] at hs
  obtain ⟨z, hz, rfl⟩ := hs
  split at hop
  ·exact uF ho hz hR hop
  ·exact Aay ho hz hR hop
 case h_5 e x ho =>
  simp only [Aq] at hs
  obtain ⟨sx, hx, rfl⟩ := hs
  split at hop
  ·exact Aci ho hR hT hx hop
  ·exact Afv ho hR hT hx hop
 case h_6 t parts ho =>
  split at hs
  ·rename_i z hz
   split at hs
   ·rename_i places hp
    simp only [Aq] at hs
    obtain ⟨sp, hsp, rfl⟩ := hs
    exact Aru ho hz hp hsp hR hT hop
   ·split at hs
    ·rename_i m e hu
     split at hs
     ·rename_i hc
      simp at hs; subst hs
      exact Anf ho hz hu hc.1 hc.2 hR hop
     ·simp at hs
    ·simp at hs
  ·simp at hs
 case h_7 t m parts ho =>
  split at hs
  ·rename_i e he
   split at hs
   ·rename_i s z hi
    split at hs
    ·rename_i hc
     simp only [Aq] at hs
     obtain ⟨sp, hsp, rfl⟩ := hs
     cases hn : h.nilrow with
     | true => rw [hn, if_pos rfl] at hop; exact Agv ho he hi hc.1 hc.2 hsp hR hT hop
     | false => rw [hn, if_neg On] at hop; exact uX ho he hi hc.1 hc.2 hsp hR hT hop
    ·split at hs
     ·rename_i hc
      simp at hs; subst hs
      obtain ⟨rfl, hp⟩ := hc
      exact Anu ho he hi hp hR hop
     ·simp at hs
   ·simp at hs
  ·simp at hs
 case h_8 t x ho =>
  split at hs
  ·rename_i k sx hk hx
   split at hs
   ·rename_i h1
    simp at hs; subst hs
    exact Atj ho hR hT hx hk h1 hop
   ·simp at hs
  ·simp at hs
 case h_9 t x y ho =>
  split at hs
  ·rename_i k sx sy hk hx hy
   simp at hs; subst hs
   exact Anx ho hR hT hx hy hk hop
  ·simp at hs
 case h_10 x ho =>
  simp only [Aq] at hs
  obtain ⟨sx, hx, rfl⟩ := hs
  exact Atl ho hR hT hx hop
 case h_11 op t x y yt ho =>
  split at hs
  ·rename_i neg hm
   have hop2 : op = if neg then BinOp.neq else .eql := by
    cases op <;> simp [isEq] at hm <;> subst hm <;> rfl
   split at hs
   ·split at hs
    ·rename_i sx sy hx hy
     simp at hs; subst hs
     exact Afn ho hR hT hx hy hop
    ·simp at hs
   ·split at hs
    ·rename_i sx sy hx hy
     simp at hs; subst hs
     exact Afn ho hR hT hx hy hop
    ·simp at hs
   ·rename_i e hu
    split at hs
    ·rename_i hn
     simp only [Aq] at hs
     obtain ⟨sx, hx, rfl⟩ := hs
     exact Aot ho hop2 hn hu hR hT hx hop
    ·simp at hs
   ·simp at hs
  ·split at hs
   ·rename_i sx sy hx hy
    simp at hs; subst hs
    exact Afn ho hR hT hx hy hop
   ·simp at hs
 case h_12 op t x ho =>
  simp only [Aq] at hs
  obtain ⟨sx, hx, rfl⟩ := hs
  exact Axq ho hR hT hx hop
 case h_13 s d x ho =>
  split at hs
  ·rename_i k0 k sx h1 h2 hx
   simp at hs; subst hs
   exact Avr ho h1 h2 hR hT hx hop
  ·rename_i e sx h1 h2 hx
   split at hs
   ·rename_i hc
    simp at hs; subst hs
    exact Aws ho h1 h2 hc hR hT hx hop
   ·simp at hs
  ·simp at hs
 case h_14 f first caps ho =>
  split at hs
  ·rename_i hf
   simp only [Aq] at hs
   obtain ⟨sc, hc, rfl⟩ := hs
   exact Ase ho hf hR hT hc hop
  ·simp at hs
 case h_15 t l c ho =>
  split at hs
  ·rename_i e he
   split at hs
   ·rename_i s z hi
    split at hs
    ·rename_i sl sc hl hc
     simp at hs; subst hs
     cases hn : h.nilrow with
     | true => rw [hn, if_pos rfl] at hop; exact Arx ho he hi hR hT hl hc hop
     | false => rw [hn, if_neg On] at hop; exact Anz ho he hi hR hT hl hc hop
    ·simp at hs
   ·simp at hs
  ·simp at hs
 case h_16 t x lo hi mx ho =>
  split at hs
  ·rename_i sx slo shi smx hx h1 h2 h3
   split at hs
   ·rename_i e hu
    split at hs
    ·rename_i s hk
     simp at hs; subst hs
     exact Arp ho hu hk hR hT hx h1 h2 h3 hop
    ·simp at hs
   ·rename_i m e hu
    split at hs
    ·rename_i hm
     simp at hs; subst hs
     obtain ⟨m1, m2, m3, m4⟩ := hm
     have none_of : ∀ {q : Option Operand} {sq : Option SArg}, sopt q = some sq → sq.isNone = true → q = none := by
      intro q sq h1 h2
      cases q with
      | none => rfl
      | some q => simp [sopt] at h1; obtain ⟨_, _, rfl⟩ := h1; simp at h2
     exact Amm ho hu (none_of h1 m1) (none_of h2 m2) (none_of h3 m3) m4 hR hT hx hop
    ·simp at hs
   ·simp at hs
  ·simp at hs
 case h_17 t x f ho =>
  split at hs
  ·rename_i off k b sx hf hx
   simp at hs; subst hs
   exact Ard ho hf hR hT hx hop
  ·simp at hs
 case h_18 t x f ho =>
  split at hs
  ·rename_i off k b sx hf hx
   split at hs
   ·rename_i h1
    simp at hs; subst hs
    exact Apa ho hf h1 hR hT hx hop
   ·simp at hs
  ·simp at hs
 case h_19 t x i ho =>
  split at hs
  ·rename_i sx si hx hi
   split at hs
   ·rename_i e hu
    split at hs
    ·rename_i s hk
     simp at hs; subst hs
     exact Aps ho hu hk hR hT hx hi hop
    ·simp at hs
   ·rename_i m e hu
    split at hs
    ·rename_i s hk
     simp at hs; subst hs
     exact Ake ho hu hk hR hT hx hi hop
    ·simp at hs
   ·simp at hs
  ·simp at hs
 case h_20 t x i ho =>
  split at hs
  ·rename_i sx si hx hi
   split at hs
   ·rename_i m e hu
    split at hs
    ·rename_i s hk
     split at hs
     ·rename_i h1
      simp at hs; subst hs
      exact Amg ho hu hk h1 hR hT hx hi hop
     ·simp at hs
    ·simp at hs
   ·simp at hs
  ·simp at hs
 case h_21 x i ho =>
  simp only [Aq] at hs
  obtain ⟨sx, hx, rfl⟩ := hs
  exact Ahe ho hR hT hx hop
 case h_22 t ho =>
  simp at hs; subst hs
  exact Arc ho hR hop
 case h_23 t x i ok ho =>
  split at hs
  ·rename_i k e hu
   split at hs
   ·rename_i z hi
    split at hs
    ·rename_i hk
     split at hs
     ·rename_i sx si hx hy
      simp at hs; subst hs
      exact Akc ho hu hk hi hR hT hx hy hop
     ·simp at hs
    ·simp at hs
   ·simp at hs
  ·simp at hs
 case h_24 t x i y ho =>
  split at hs
  ·rename_i k e hu
   split at hs
   ·rename_i hk
    split at hs
    ·rename_i sx si sy hx hi hy
     simp at hs; subst hs
     exact Akv ho hu hk hR hT hx hi hy hop
    ·simp at hs
   ·simp at hs
  ·simp at hs
 case h_25 c ho =>
  split at hs
  ·rename_i b hc
   exact Agw ho hc hs hR hT hop
  ·split at hs
   ·split at hs
    ·simp only [Aq] at hs
     obtain ⟨_, _, rfl⟩ := hs
     simp [Wz] at hnc
    ·simp at hs
   ·simp at hs
  ·simp only [Aq] at hs
   obtain ⟨_, _, rfl⟩ := hs
   simp [Wz] at hnc
  ·simp at hs
 all_goals simp at hs
end ops
end Go.AI
namespace Go.AI
def Done (C : Ctx) (v : AV) (H' : Heap) (e : Ending) (w' : World) : Prop :=
 ∃ v' μ', e = .returned v' ∧ Evo C ⟨C.F, μ', H', w'⟩ ∧ Rel ⟨C.F, μ', H', w'⟩ ∧ VR ⟨C.F, μ', H', w'⟩ true true v v'
def fZ (P : Program) (f : Nat) : Prop := ∃ fn, P.funcs[f]? = some fn ∧ fn.body.isSome = true ∧ fn.name ≠ "runtime.NumGoroutine"
def Uv (P : Program) (cf : Dk) : Prop := ∀ (C : Ctx) (f base : Nat) (args : List AV) (v : AV) (H' : Heap) (vs : Array Value), Rel C → cf f base args C.H = some (v, H') → VRT C true true args vs.toList →
 fZ P f ∧ Calls P f vs C.w (Done C v H')
def cV (P : Program) (xf : ExtF) : Prop := ∀ (C : Ctx) (f : Nat) (args : List AV) (v : AV) (vs : Array Value), Rel C → xf f args = some v → VRT C false true args vs.toList →
 fZ P f ∧ Calls P f vs C.w (fun e w' => ∃ v', e = .returned v' ∧ Evo C { C with w := w' } ∧ Rel { C with w := w' } ∧ VR { C with w := w' } false false v v')
def sub (C : Ctx) : Ctx := ⟨fun b => C.F b ∨ Own C b, fun _ => 0, Heap.none, C.w⟩
theorem Aic {C : Ctx} (hR : Rel C) {b : Nat} (h : Own C b) : b < C.w.heap.size := by
 obtain ⟨j, h1, rfl⟩ := h
 exact (hR.lt (oZ h1)).1
theorem nV (C : Ctx) (b : Nat) : ¬ Own (sub C) b := by
 rintro ⟨j, h1, _⟩
 simp [sub, Heap.none, Blk.mut, Blk.live] at h1
theorem yZ {C : Ctx} (hR : Rel C) : Rel (sub C) :=
 ⟨fun b hb => hb.elim (hR.fsz b) (Aic hR), fun j => by simp [BR, sub, Heap.none], fun i j h1 => by simp [sub, Heap.none, Blk.mut, Blk.live] at h1, fun b hb => ⟨.inl (hR.gl b hb).1, (hR.gl b hb).2⟩⟩
theorem back {C C1 : Ctx} (hR : Rel C) (hE : Evo (sub C) C1) : Evo C { C with w := C1.w } ∧ Rel { C with w := C1.w } := by
 have hk : ∀ b, b < C.w.heap.size → C1.w.heap[b]? = C.w.heap[b]? := fun b hb => hE.keep b hb (nV C b)
 have hE' : Evo C { C with w := C1.w } :=
  ⟨rfl, hE.size, fun b hb _ => hk b hb, fun b h => .inl h, fun _ _ _ h => h, fun _ _ _ _ es' _ h => ⟨⟨es', h⟩, fun _ => rfl⟩, fun _ _ es' _ h => ⟨⟨es', h⟩, rfl⟩, hE.shape, hE.os, hE.tape, hE.output⟩
 exact ⟨hE', ⟨fun b hb => Lu (hR.fsz b hb) hE.size, fun j => BR.mono hE' rfl (fun _ => rfl) (fun hl => hk _ (hR.lt hl).1) (hR.blk j), hR.inj, hR.glm hE'⟩⟩
theorem Auj {C D C1 : Ctx} (hR : Rel C) (hD : D.w = C.w) (ho : ∀ b, ¬ Own D b) (hE : Evo D C1) : Evo C { C with w := C1.w } ∧ Rel { C with w := C1.w } := by
 have hk : ∀ b, b < C.w.heap.size → C1.w.heap[b]? = C.w.heap[b]? := fun b hb => by rw [← hD] at hb ⊢; exact hE.keep b hb (ho b)
 have hsz : C.w.heap.size ≤ C1.w.heap.size := by rw [← hD]; exact hE.size
 have hE' : Evo C { C with w := C1.w } :=
  ⟨rfl, hsz, fun b hb _ => hk b hb, fun b h => .inl h, fun _ _ _ h => h, fun _ _ _ _ es' _ h => ⟨⟨es', h⟩, fun _ => rfl⟩, fun _ _ es' _ h => ⟨⟨es', h⟩, rfl⟩, (by rw [← hD]; exact hE.shape), (by rw [← hD]; exact hE.os), (by rw [← hD]; exact hE.tape), (by rw [← hD]; exact hE.output)⟩
 exact ⟨hE', ⟨fun b hb => Lu (hR.fsz b hb) hsz, fun j => BR.mono hE' rfl (fun _ => rfl) (fun hl => hk _ (hR.lt hl).1) (hR.blk j), hR.inj, hR.glm hE'⟩⟩
def Rs (C : Ctx) (j s : Nat) (es : List AV) : Ctx := ⟨fun b => C.F b ∨ (Own C b ∧ b ≠ C.μ j), C.μ, Wh C.H j s es, C.w⟩
theorem Qe (H : Heap) (j s : Nat) (es : List AV) : Wh H j s es j = ⟨(H j).gen, true, .row s es⟩ := upd_same _ _ _
theorem yF (H : Heap) {i j : Nat} (s : Nat) (es : List AV) (h : i ≠ j) : Wh H j s es i = Heap.none i := Df _ _ h
theorem Aek (C : Ctx) (j s : Nat) (es : List AV) (b : Nat) : ¬ Own (Rs C j s es) b := by
 rintro ⟨i, h1, _⟩
 by_cases hi : i = j
 ·subst hi; simp [Rs, Qe, Blk.mut] at h1
 ·simp [Rs, yF _ _ _ hi, Heap.none, Blk.mut, Blk.live] at h1
theorem Aip {C : Ctx} {j s : Nat} {es : List AV} (tt : Bool) (b : Nat) (h : IB C tt b) : IB (Rs C j s es) tt b :=
 ⟨h.1, Aek C j s es b, fun ht hF => hF.elim (h.2.2 ht) fun h' => h.2.1 h'.1⟩
theorem Acj {C : Ctx} {j s' : Nat} {fs : List AV} {s : Nat} : ∀ {es : List AV} {us : List Value}, Ca es = true → CRL C true true s es us → CRL (Rs C j s' fs) true true s es us
 | [], _, _, h => by simpa [CRL] using h
 | e :: es, _, hn, h => by
  simp only [Ca, Cl] at hn
  simp only [CRL] at h ⊢
  obtain ⟨⟨k0, k5, v, k1, k2, k3⟩, k4⟩ := h
  exact ⟨⟨k0, k5, v, VR.weak (by simp) (by simp) (VR.cast (C := C) (D := Rs C j s' fs) rfl (fun tt b _ => Aip tt b) hn.1 k1), k2, k3⟩, Acj hn.2 k4⟩
theorem Aor {C : Ctx} (hR : Rel C) {j s : Nat} {es : List AV} (hst : (C.H j).st = .row s es) (hn : Ca es = true) : Rel (Rs C j s es) := by
 refine ⟨fun b hb => hb.elim (hR.fsz b) fun h => Aic hR h.1, fun i => ?_, fun i k h1 => ?_, fun b hb => ⟨.inl (hR.gl b hb).1, (hR.gl b hb).2⟩⟩
 ·by_cases hi : i = j
  ·subst hi
   have hb := hR.blk i
   unfold BR at hb ⊢
   simp only [Rs, Qe]
   rw [hst] at hb
   cases es with
   | nil => trivial
   | cons e es =>
    obtain ⟨hF, c, el, fz, h2, h3⟩ := hb
    exact ⟨fun h => h.elim hF fun h => h.2 rfl, c, el, fz, h2, h3.uf, h3.le, Acj hn h3.cells⟩
  ·unfold BR
   simp [Rs, yF _ _ _ hi, Heap.none]
 ·by_cases hi : i = j
  ·subst hi; simp [Rs, Qe, Blk.mut] at h1
  ·simp [Rs, yF _ _ _ hi, Heap.none, Blk.mut, Blk.live] at h1
theorem Aqk {C : Ctx} {j s s' g ver : Nat} {es es' : List AV} (hst : (C.H j).st = .row s' es) : (Wh C.H j s' es).row j g ver s = some es' ↔ C.H.row j g ver s = some es' := by
 rw [row_some, row_some, Qe, hst]
def cM (C : Ctx) (A : Nat → Prop) : Ctx := ⟨fun b => (C.F b ∧ ¬ A b) ∨ Own C b, fun _ => 0, Heap.none, C.w⟩
theorem rS (C : Ctx) (A : Nat → Prop) (b : Nat) : ¬ Own (cM C A) b := by
 rintro ⟨j, h1, _⟩
 simp [cM, Heap.none, Blk.mut, Blk.live] at h1
theorem Aoj {C : Ctx} (hR : Rel C) (A : Nat → Prop) (hg : ∀ b, A b → isGl b = false) : Rel (cM C A) :=
 ⟨fun b hb => hb.elim (fun h => hR.fsz b h.1) (Aic hR), fun j => by simp [BR, cM, Heap.none], fun i j h1 => by simp [cM, Heap.none, Blk.mut, Blk.live] at h1, fun b hb => ⟨.inl ⟨(hR.gl b hb).1, fun h => by rw [hg b h] at hb; cases hb⟩, (hR.gl b hb).2⟩⟩
theorem Asr {C : Ctx} {A : Nat → Prop} (tt : Bool) (b : Nat) (h : IB C tt b) : IB (cM C A) tt b :=
 ⟨h.1, rS C A b, fun ht hF => hF.elim (fun h' => h.2.2 ht h'.1) h.2.1⟩
theorem jJ {C D : Ctx} {r r' t t' : Bool} {s : Nat} : ∀ {es : List AV} {us : List Value}, Xw es = true → CRL C r t s es us → CRL D r' t' s es us
 | [], _, _, h => by simpa [CRL] using h
 | .int .u8 n :: es, _, hp, h => by
  simp only [CRL] at h ⊢
  obtain ⟨⟨k0, k5, v, k1, k2, k3⟩, k4⟩ := h
  exact ⟨⟨k0, k5, v, by simpa [VR] using k1, k2, k3⟩, jJ (by simpa [Xw] using hp) k4⟩
theorem Aqg {C : Ctx} (hR : Rel C) {r t : Bool} {s b o : Nat} : ∀ {es : List AV} {us : List Value}, es ≠ [] → Xw es = true → CRL C r t s es us → rowAt C.w b o us → isGl b = false
 | .int .u8 n :: es, us, _, _, h, hr => by
  simp only [CRL] at h
  obtain ⟨⟨k0, k5, v, k1, k2, k3⟩, _⟩ := h
  have hv : v = .int .u8 n := by simpa [VR] using k1
  subst hv
  have hs : s = 1 := by rw [← k0]; rfl
  subst hs
  have h0 : us[0]? = some (.int .u8 n) := by
   cases us with
   | nil => simp at k5
   | cons u us =>
    have k2 : [Value.int .u8 n] = [u] := by simpa [Value.cells] using k2
    simp at k2
    simp [k2]
  cases hg : isGl b with
  | false => rfl
  | true =>
   obtain ⟨z, hz⟩ := Aqa hg (hR.gl b hg).2 (hr 0 _ h0)
   cases hz
theorem kM {C : Ctx} (hR : Rel C) {args : List AV} {vs : List Value} (h : VRT C true true args vs) : VRT (sub C) false true (args.map (fz false deep C.H)) vs :=
 Ahu false hR (D := sub C) rfl (fun b h => absurd h (nV C b)) (fun b h => h.imp id fun h => ⟨rfl, h⟩) deep h
section
variable {P : Program} {C : Ctx} {cf : Dk} {xf : ExtF} {v : AV} {H' : Heap} {fp : FP} {base f : Nat} {args : List AV} {vs : Array Value}
theorem pM {C1 : Ctx} (hR : Rel C) (hE : Evo (sub C) C1) (hR1 : Rel C1) {site : Nat} {u u' : AV} {r r' : List AV} (h : Pj C.H C1.H site u r = some (u', r', H')) :
  ∃ μ', Evo C ⟨C.F, μ', H', C1.w⟩ ∧ Rel ⟨C.F, μ', H', C1.w⟩ ∧ (∀ v, VR C1 true true u v → VR ⟨C.F, μ', H', C1.w⟩ true true u' v) ∧ (∀ vs, VRT C1 true true r vs → VRT ⟨C.F, μ', H', C1.w⟩ true true r' vs) := by
 have hk : ∀ b, b < C.w.heap.size → C1.w.heap[b]? = C.w.heap[b]? := fun b hb => hE.keep b hb (nV C b)
 have hF1 : ∀ b, C.F b ∨ Own C b → C1.F b := fun b hb => by rw [hE.F]; exact hb
 unfold Pj at h
 split at h
 ·rename_i j g ver s off len cap
  split at h
  ·rename_i es hes
   split at h
   ·rename_i hc
    obtain ⟨hn1, hn2⟩ := hc
    simp only [Ag, Am] at h
    obtain ⟨rfl, rfl, rfl⟩ := h
    obtain ⟨hes1, hro⟩ := rowW_some.1 hes
    obtain ⟨hg, hst, hver⟩ := row_some.1 hes1
    have hown1 : es ≠ [] → Own C1 (C1.μ j) := fun hne => ⟨j, by unfold Blk.mut; rw [Tv hst hne, hro]; rfl, rfl⟩
    have hge : es ≠ [] → C.w.heap.size ≤ C1.μ j := fun hne => (hE.own _ (hown1 hne)).resolve_left (nV C _)
    have hne' : es.map (fz true deep C1.H) ≠ [] → es ≠ [] := fun h h0 => h (by rw [h0]; rfl)
    obtain ⟨hE', hr⟩ := Sl hR site ⟨(C.H site).gen + 1, false, .row s (es.map (fz true deep C1.H))⟩ (C1.μ j) C1.w (by simp) (fun h => absurd h (by simp)) (fun h => absurd h (by simp))
     hE.size (fun b hb _ => hk b hb) hE.shape
     (fun h => .inr (hge (hne' (by intro h0; rw [h0] at h; simp [Blk.mut, Blk.live] at h)))) (fun h => .inr (hge (hne' (by intro h0; rw [h0] at h; simp [Blk.live] at h)))) hE.os hE.tape hE.output
    have hI : ∀ tt b, (tt = true → (!true) = true) → IB C1 tt b → IB ⟨C.F, updN C.μ site (C1.μ j), C.H.upd site ⟨(C.H site).gen + 1, false, .row s (es.map (fz true deep C1.H))⟩, C1.w⟩ tt b := by
     intro tt b ht ⟨a1, a2, a3⟩
     have htt : tt = false := by cases tt <;> simp_all
     subst htt
     refine ⟨a1, ?_, fun _ hF => a3 rfl (hF1 b (.inl hF))⟩
     rintro ⟨i, b1, b2⟩
     by_cases hi : i = site
     ·subst hi
      simp only [upd_same, updN_same] at b1 b2
      exact a2 (b2 ▸ hown1 (hne' (by intro h0; rw [h0] at b1; simp [Blk.mut, Blk.live] at b1)))
     ·simp only [Df _ _ hi, Ss _ _ hi] at b1 b2
      exact a3 rfl (hF1 b (.inr ⟨i, b1, b2⟩))
    have hfz := fun (nn : Nat) {a : AV} {v : Value} (hq : False ∨ a.norefs = true) (hv : VR C1 true true a v) => Aoe true hR1 (D := ⟨C.F, updN C.μ site (C1.μ j), C.H.upd site ⟨(C.H site).gen + 1, false, .row s (es.map (fz true deep C1.H))⟩, C1.w⟩) rfl hI False (fun h => h.elim) nn hq hv
    have hcrl : ∀ {es : List AV} {us : List Value}, Ca es = true → CRL C1 true true s es us → CRL ⟨C.F, updN C.μ site (C1.μ j), C.H.upd site ⟨(C.H site).gen + 1, false, .row s (es.map (fz true deep C1.H))⟩, C1.w⟩ true true s (es.map (fz true deep C1.H)) us → True := fun _ _ _ => trivial
    have hcr : ∀ {fs : List AV} {us : List Value}, Ca fs = true → CRL C1 true true s fs us → CRL ⟨C.F, updN C.μ site (C1.μ j), C.H.upd site ⟨(C.H site).gen + 1, false, .row s (es.map (fz true deep C1.H))⟩, C1.w⟩ true true s (fs.map (fz true deep C1.H)) us := by
     intro fs
     induction fs with
     | nil => intro us _ h; simpa [CRL] using h
     | cons e fs ih =>
      intro us hnr h
      simp only [Ca, Cl] at hnr
      simp only [CRL] at h
      obtain ⟨⟨k0, k5, v, k1, k2, k3⟩, k4⟩ := h
      have := hfz deep (.inr hnr.1) k1
      simp only [Aw, CRL]
      exact ⟨⟨this.2.trans k0, k5, v, VR.weak (by simp) (by simp) this.1, k2, k3⟩, ih hnr.2 k4⟩
    have hvt : ∀ {fs : List AV} {us : List Value}, Ca fs = true → VRT C1 true true fs us → VRT ⟨C.F, updN C.μ site (C1.μ j), C.H.upd site ⟨(C.H site).gen + 1, false, .row s (es.map (fz true deep C1.H))⟩, C1.w⟩ true true (fs.map (fz true deep C1.H)) us := by
     intro fs
     induction fs with
     | nil => intro us _ h; simpa [VRT] using h
     | cons e fs ih =>
      intro us hnr h
      simp only [Ca, Cl] at hnr
      simp only [VRT] at h
      obtain ⟨v, vs', rfl, k1, k2⟩ := h
      simp only [Aw, VRT]
      exact ⟨v, vs', rfl, VR.weak (by simp) (by simp) (hfz deep (.inr hnr.1) k1).1, ih hnr.2 k2⟩
    have hbr : BR ⟨C.F, updN C.μ site (C1.μ j), C.H.upd site ⟨(C.H site).gen + 1, false, .row s (es.map (fz true deep C1.H))⟩, C1.w⟩ site := by
     unfold BR
     simp only [upd_same, updN_same]
     by_cases hne : es = []
     ·subst hne; simp
     ·obtain ⟨hF, c, el, fz', hobj, hok⟩ := hR1.mem hst hne
      have hlen : (es.map (fz true deep C1.H)).length = es.length := by simp
      have hcells := hcr hn1 hok.cells
      generalize hq : es.map (fz true deep C1.H) = q at hcells hlen
      cases q with
      | nil => trivial
      | cons e q =>
       exact ⟨fun h => hF (hF1 _ (.inl h)), c, el, fz', hobj, hok.uf, by rw [hlen]; exact hok.le, by rw [hlen]; exact hcells⟩
    refine ⟨_, hE', hr hbr, fun v hv => ?_, fun vs hv => hvt hn2 hv⟩
    simp only [VR] at hv ⊢
    obtain ⟨_, _, ad, cap', rfl, hcap, hk'⟩ := hv
    obtain ⟨q1, q2, q3⟩ := hk' es hes1
    refine ⟨trivial, ⟨by simp [Heap.newRow], fun _ s2 es2 hs2 => ?_⟩, ad, cap', rfl, hcap, fun es2 _ => ⟨q1, q2, fun h1 h2 => ?_⟩⟩
    ·simp [Heap.newRow] at hs2
     rw [← hs2.2]; simp; omega
    ·obtain ⟨q4, e0, n0, q5, q6⟩ := q3 h1 h2
     exact ⟨by simp [q4], e0, n0, by simp [q5], q6⟩
   ·simp at h
  ·simp at h
 ·split at h
  ·rename_i hc
   obtain ⟨hn1, hn2⟩ := hc
   simp only [Ag, Am] at h
   obtain ⟨rfl, rfl, rfl⟩ := h
   obtain ⟨hE', hR'⟩ := back hR hE
   refine ⟨C.μ, hE', hR', fun v hv => ?_, fun vs hv => ?_⟩
   ·exact VR.weak (by simp) (by simp) (Aqc true hR1 (D := { C with w := C1.w }) rfl (fun b h => ⟨rfl, hF1 b (.inr h)⟩) (fun b h => .inl (hF1 b (.inl h))) deep hv)
   ·exact VRT.weak (by simp) (by simp) (Ahu true hR1 (D := { C with w := C1.w }) rfl (fun b h => ⟨rfl, hF1 b (.inr h)⟩) (fun b h => .inl (hF1 b (.inl h))) deep hv)
  ·simp at h
theorem Akt (hcf : Uv P cf) (hxf : cV P xf) {m : Mode} (hR : Rel C) (hargs : VRT C true true args vs.toList) (h : Hj cf xf base m f args C.H = some (v, H', fp)) :
  fZ P f ∧ Calls P f vs C.w (Done C v H') := by
 cases m with
 | pure =>
  simp only [Hj] at h
  cases e1 : cf f 0 (args.map (fz false deep C.H)) Heap.none with
  | none => simp [e1] at h
  | some p =>
   obtain ⟨u, Hc⟩ := p
   simp only [e1, Ad, Ab, Ag, Am] at h
   obtain ⟨rfl, rfl, _⟩ := h
   obtain ⟨hb, hc⟩ := hcf (sub C) f 0 _ u Hc vs (yZ hR) e1 (VRT.weak (by simp) (by simp) (kM hR hargs))
   refine ⟨hb, hc.mono ?_⟩
   rintro e w' ⟨v', μ', rfl, hE, hR1, hv⟩
   obtain ⟨hE', hR'⟩ := back (C1 := ⟨(sub C).F, μ', Hc, w'⟩) hR hE
   refine ⟨v', C.μ, rfl, hE', hR', ?_⟩
   exact VR.weak (by simp) (by simp) (Aqc true hR1 (D := { C with w := w' }) rfl (fun b h => ⟨rfl, .inr h⟩) (fun b h => .inl (.inl h)) deep hv)
 | fresh site =>
  simp only [Hj] at h
  cases e1 : cf f 0 (args.map (fz false deep C.H)) Heap.none with
  | none => simp [e1] at h
  | some p =>
   obtain ⟨u, Hc⟩ := p
   simp only [e1, Ad, Ab] at h
   obtain ⟨hb, hc⟩ := hcf (sub C) f 0 _ u Hc vs (yZ hR) e1 (VRT.weak (by simp) (by simp) (kM hR hargs))
   cases e2 : Qc C.H Hc (base + site) u with
   | none => simp [e2] at h
   | some q =>
    obtain ⟨v2, H2⟩ := q
    simp only [e2, Ab, Ag, Am] at h
    obtain ⟨rfl, rfl, _⟩ := h
    refine ⟨hb, hc.mono ?_⟩
    rintro e w' ⟨v', μ', rfl, hE, hR1, hv⟩
    unfold Qc at e2
    split at e2
    ·rename_i u0 r0
     split at e2
     ·rename_i u1 r1 H3 e3
      simp only [Ag, Am] at e2
      obtain ⟨rfl, rfl⟩ := e2
      obtain ⟨μ2, k1, k2, k3, k4⟩ := pM (C1 := ⟨(sub C).F, μ', Hc, w'⟩) hR hE hR1 e3
      simp only [VR] at hv
      obtain ⟨us, rfl, hus⟩ := hv
      simp only [VRT] at hus
      obtain ⟨x, xs, hx, m1, m2⟩ := hus
      refine ⟨_, μ2, rfl, k1, k2, ?_⟩
      simp only [VR]
      refine ⟨us, rfl, ?_⟩
      simp only [VRT]
      exact ⟨x, xs, hx, k3 x m1, k4 xs m2⟩
     ·simp at e2
    ·simp at e2
    ·split at e2
     ·rename_i v3 r3 H3 e3
      simp only [Ag, Am] at e2
      obtain ⟨rfl, rfl⟩ := e2
      obtain ⟨μ2, k1, k2, k3, _⟩ := pM (C1 := ⟨(sub C).F, μ', Hc, w'⟩) hR hE hR1 e3
      exact ⟨v', μ2, rfl, k1, k2, k3 v' hv⟩
     ·simp at e2
 | inl b =>
  simp only [Hj] at h
  cases e1 : cf f (base + b) args C.H with
  | none => simp [e1] at h
  | some p =>
   obtain ⟨u, Hc⟩ := p
   simp only [e1, Ad, Ab, Ag, Am] at h
   obtain ⟨rfl, rfl, _⟩ := h
   exact hcf C f _ args u Hc vs hR e1 hargs
 | ext =>
  simp only [Hj] at h
  cases e1 : xf f (args.map (fz false deep C.H)) with
  | none => simp [e1] at h
  | some u =>
   simp only [e1, Ad, Ab, Ag, Am] at h
   obtain ⟨rfl, rfl, _⟩ := h
   obtain ⟨hb, hc⟩ := hxf (sub C) f _ u vs (yZ hR) e1 (kM hR hargs)
   refine ⟨hb, hc.mono ?_⟩
   rintro e w' ⟨v', rfl, hE, hR1, hv⟩
   obtain ⟨hE', hR'⟩ := back (C1 := { (sub C) with w := w' }) hR hE
   refine ⟨v', C.μ, rfl, hE', hR', ?_⟩
   have hI : ∀ tt b, (tt = true → (false : Bool) = true) → IB { (sub C) with w := w' } tt b → IB { C with w := w' } tt b := by
    intro tt b ht ⟨a1, a2, a3⟩
    have htt : tt = false := by cases tt <;> simp_all
    subst htt
    exact ⟨a1, fun h => a3 rfl (.inr h), fun _ h => a3 rfl (.inl h)⟩
   exact VR.weak (by simp) (by simp) (VR.castI (C := { (sub C) with w := w' }) (D := { C with w := w' }) rfl hI hv)
 | peek b =>
  simp only [Hj] at h
  unfold rY at h
  split at h
  ·rename_i j g ver s off len cap rest
   split at h
   ·rename_i s' es hst
    split at h
    ·rename_i hn
     obtain ⟨hn1, hn2⟩ := hn
     split at h
     ·rename_i j' g' ver' s2 off' len' cap' Hc e1
      split at h
      ·rename_i hc
       obtain ⟨rfl, rfl, rfl, rfl, hrow⟩ := hc
       simp only [Ag, Am] at h
       obtain ⟨rfl, rfl, _⟩ := h
       obtain ⟨es1, hes1⟩ := Sx.1 hrow
       simp only [VRT] at hargs
       obtain ⟨x, xs, hxs, ha, hrest⟩ := hargs
       simp only [VR] at ha
       obtain ⟨_, hp, ad, cp, rfl, hcp, hk⟩ := ha
       have hpp : past (Rs C j' s' es).H j' g' ver' := by
        refine ⟨?_, fun hg s3 es3 h3 => ?_⟩
        ·show g' ≤ (Wh C.H j' s' es j').gen
         rw [Qe]; exact hp.1
        ·simp only [Rs, Qe] at hg h3
         exact hp.2 hg s3 es3 (hst.trans h3)
       have hargs' : VRT (Rs C j' s' es) true true (.slc j' g' ver' s2 off len cap :: rest) vs.toList := by
        simp only [VRT]
        refine ⟨_, xs, hxs, ?_, VRT.weak (by simp) (by simp) (VRT.cast (C := C) (D := Rs C j' s' es) rfl (fun tt b _ => Aip tt b) hn1 hrest)⟩
        simp only [VR]
        refine ⟨trivial, hpp, ad, cp, rfl, hcp, fun es3 h3 => ?_⟩
        exact hk es3 ((Aqk hst).1 h3)
       obtain ⟨hb, hcall⟩ := hcf (Rs C j' s' es) f _ _ _ Hc vs (Aor hR hst hn2) e1 hargs'
       refine ⟨hb, hcall.mono ?_⟩
       rintro e w' ⟨v', μ', rfl, hE, hR1, hv⟩
       obtain ⟨hE', hR'⟩ := Auj (D := Rs C j' s' es) hR rfl (Aek C j' s' es) hE
       refine ⟨v', C.μ, rfl, hE', hR', ?_⟩
       simp only [VR] at hv ⊢
       obtain ⟨_, _, ad2, cp2, rfl, hcp2, hk2⟩ := hv
       refine ⟨trivial, hp, ad2, cp2, rfl, hcp2, fun es3 h3 => ?_⟩
       obtain ⟨q1, q2, q3⟩ := hk2 es1 hes1
       have hm := (hE.row _ _ _ _ _ hpp hes1).2
       refine ⟨q1, q2, fun h4 h5 => ?_⟩
       obtain ⟨r1, e0, n0, r2, r3⟩ := q3 h4 h5
       have hm' : μ' j' = C.μ j' := hm (by omega)
       simp only [hm'] at r1 r2
       exact ⟨r1, e0, n0, r2, r3⟩
      ·simp at h
     ·simp at h
    ·simp at h
   ·simp at h
  ·rename_i t f0 s es rest
   split at h
   ·rename_i hn
    obtain ⟨hn1, hn2⟩ := hn
    split at h
    ·rename_i f' s' es' Hc e1
     split at h
     ·rename_i hp2
      simp only [Ag, Am] at h
      obtain ⟨rfl, rfl, _⟩ := h
      simp only [VRT] at hargs
      obtain ⟨x, xs, hxs, ha, hrest⟩ := hargs
      simp only [VR] at ha
      obtain ⟨_, a, cap', rfl, hc1, hc2, hk⟩ := ha
      obtain ⟨A, hA⟩ : ∃ A : Nat → Prop, A = fun b => es ≠ [] ∧ ∃ o, a = some ⟨b, o, none⟩ := ⟨_, rfl⟩
      have hargs' : VRT (cM C A) true true (.islc false f0 s es :: rest) vs.toList := by
       simp only [VRT]
       refine ⟨_, xs, hxs, ?_, VRT.weak (by simp) (by simp) (VRT.cast (C := C) (D := cM C A) rfl (fun tt b _ => Asr tt b) hn1 hrest)⟩
       simp only [VR]
       refine ⟨by simp, a, cap', rfl, hc1, hc2, fun hne => ?_⟩
       obtain ⟨b, o, us, h1, h2, h3, h4⟩ := hk hne
       refine ⟨b, o, us, h1, ⟨h2.1, rS C A b, fun _ hF => hF.elim (fun h' => h'.2 (by rw [hA]; exact ⟨hne, o, h1⟩)) h2.2.1⟩, h3, jJ hn2 h4⟩
      have hg : ∀ b, A b → isGl b = false := by
       intro b hAb
       rw [hA] at hAb
       obtain ⟨hne0, o0, h0⟩ := hAb
       obtain ⟨b1, o1, us1, g1, g2, g3, g4⟩ := hk hne0
       rw [h0] at g1
       simp only [Ag, Addr.mk.injEq] at g1
       obtain ⟨rfl, _, _⟩ := g1
       exact Aqg hR hne0 hn2 g4 g3
      obtain ⟨hb, hcall⟩ := hcf (cM C A) f _ _ _ Hc vs (Aoj hR A hg) e1 hargs'
      refine ⟨hb, hcall.mono ?_⟩
      rintro e w' ⟨v', μ', rfl, hE, hR1, hv⟩
      obtain ⟨hE', hR'⟩ := Auj (D := cM C A) hR rfl (rS C A) hE
      refine ⟨v', C.μ, rfl, hE', hR', ?_⟩
      simp only [VR] at hv ⊢
      obtain ⟨_, a2, cap2, rfl, hd1, hd2, hk2⟩ := hv
      refine ⟨by simp, a2, cap2, rfl, hd1, hd2, fun hne => ?_⟩
      obtain ⟨b, o, us, h1, h2, h3, h4⟩ := hk2 hne
      have hnF : ¬ ((C.F b ∧ ¬ A b) ∨ Own C b) := h2.2.2 rfl
      refine ⟨b, o, us, h1, ⟨h2.1, fun h => hnF (.inr h), fun ht hF => ?_⟩, h3, jJ hp2 h4⟩
      by_cases hAb : A b
      ·rw [hA] at hAb
       obtain ⟨hne0, o0, h0⟩ := hAb
       obtain ⟨b1, o1, us1, g1, g2, _, _⟩ := hk hne0
       rw [h0] at g1
       simp only [Ag, Addr.mk.injEq] at g1
       obtain ⟨rfl, _, _⟩ := g1
       exact g2.2.2 ht hF
      ·exact hnF (.inl ⟨hF, hAb⟩)
     ·simp at h
    ·simp at h
   ·simp at h
  ·simp at h
end
end Go.AI
namespace Go.AI
theorem Ph {T T2 : Tmps} {o : Option SArg} (h : ∀ x ∈ optA o, x.ev T2 = x.ev T) : Fu T2 o = Fu T o := by
 cases o with
 | none => rfl
 | some x => simp only [Fu, h x (by simp [optA])]
theorem Alz (cf : Dk) (xf : ExtF) (base : Nat) {T T2 : Tmps} {op : SOp} (H : Heap) (h : ∀ x ∈ Ob op, x.ev T2 = x.ev T) : aop cf xf base T2 H op = aop cf xf base T H op := by
 cases op
 case build z ps =>
  have : (ps.map fun (o, k, x) => (o, k, SArg.ev T2 x)) = ps.map fun (o, k, x) => (o, k, SArg.ev T x) := Bk fun p hp => by
   obtain ⟨a, b, x⟩ := p
   simp only [h x (Bz.2 ⟨_, hp, rfl⟩)]
  simp only [aop, this]
 case buildS site s n z ps =>
  have : (ps.map fun (i, x) => (i, SArg.ev T2 x)) = ps.map fun (i, x) => (i, SArg.ev T x) := Bk fun p hp => by
   obtain ⟨a, x⟩ := p
   simp only [h x (Bz.2 ⟨_, hp, rfl⟩)]
  simp only [aop, this]
 case buildSN site s n z ps =>
  have : (ps.map fun (i, x) => (i, SArg.ev T2 x)) = ps.map fun (i, x) => (i, SArg.ev T x) := Bk fun p hp => by
   obtain ⟨a, x⟩ := p
   simp only [h x (Bz.2 ⟨_, hp, rfl⟩)]
  simp only [aop, this]
 case mkfn f cs =>
  have : cs.map (SArg.ev T2) = cs.map (SArg.ev T) := Bk fun x hx => h x hx
  simp only [aop, this]
 case call m f cs =>
  have : cs.map (SArg.ev T2) = cs.map (SArg.ev T) := Bk fun x hx => h x hx
  simp only [aop, this]
 case callv m x cs =>
  have : cs.map (SArg.ev T2) = cs.map (SArg.ev T) := Bk fun y hy => h y (by simp [Ob, hy])
  have hx := h x (by simp [Ob])
  simp only [aop, this, hx]
 case slice s x lo hi mx =>
  have h1 := Ph (T := T) (T2 := T2) (o := lo) (fun y hy => h y (by simp [Ob, hy]))
  have h2 := Ph (T := T) (T2 := T2) (o := hi) (fun y hy => h y (by simp [Ob, hy]))
  have h3 := Ph (T := T) (T2 := T2) (o := mx) (fun y hy => h y (by simp [Ob, hy]))
  have hx := h x (by simp [Ob])
  simp only [aop, h1, h2, h3, hx]
 case slcStr x lo hi =>
  have h1 := Ph (T := T) (T2 := T2) (o := lo) (fun y hy => h y (by simp [Ob, hy]))
  have h2 := Ph (T := T) (T2 := T2) (o := hi) (fun y hy => h y (by simp [Ob, hy]))
  have hx := h x (by simp [Ob])
  simp only [aop, h1, h2, hx]
 all_goals
  simp only [Ob, Ap, Lg, fF, forall_eq_or_imp, forall_eq] at h
  simp only [aop, h]
def Zz (fp : FP) (H H2 : Heap) : Prop := ∀ j, (j ∈ fp.rd ∨ j ∈ fp.wr) → H2 j = H j
def Rd (f : Heap → R) (H : Heap) (v : AV) (H' : Heap) (fp : FP) : Prop :=
 (∀ j, j ∉ fp.wr → H' j = H j) ∧ ∀ H2, Zz fp H H2 → ∃ H2', f H2 = some (v, H2', fp) ∧ (∀ j, j ∈ fp.wr → H2' j = H' j) ∧ (∀ j, j ∉ fp.wr → H2' j = H2 j)
theorem Hz {f : Heap → R} {H H' : Heap} {v : AV} {fp : FP} (hz : fp.wr = []) (hH : H' = H) (hf : ∀ H2, Zz fp H H2 → f H2 = some (v, H2, fp)) : Rd f H v H' fp := by
 subst hH
 exact ⟨fun _ _ => rfl, fun H2 ha => ⟨H2, hf H2 ha, fun j hj => by rw [hz] at hj; simp at hj, fun _ _ => rfl⟩⟩
theorem jC {f : Heap → R} {H : Heap} {v : AV} {fp : FP} {k : Nat} (b : Heap → Blk) (hw : fp.wr = [k]) (hb : ∀ H2, Zz fp H H2 → b H2 = b H) (hf : ∀ H2, Zz fp H H2 → f H2 = some (v, H2.upd k (b H2), fp)) :
  Rd f H v (H.upd k (b H)) fp := by
 refine ⟨fun j hj => Df _ _ (by rw [hw] at hj; simpa using hj), fun H2 ha => ⟨_, hf H2 ha, fun j hj => ?_, fun j hj => Df _ _ (by rw [hw] at hj; simpa using hj)⟩⟩
 rw [hw] at hj
 simp at hj
 subst hj
 simp [hb H2 ha]
theorem Qz {H H2 : Heap} {j : Nat} (h : H2 j = H j) (g ver s : Nat) : H2.row j g ver s = H.row j g ver s := by
 unfold Heap.row; rw [h]
theorem Og {H H2 : Heap} {j : Nat} (h : H2 j = H j) (g ver s : Nat) : H2.rowW j g ver s = H.rowW j g ver s := by
 unfold Heap.rowW; rw [h]
theorem Aql (out : Bool) {H H2 : Heap} : ∀ (n : Nat) (v : AV), (∀ j ∈ vis n H v, H2 j = H j) → fz out n H2 v = fz out n H v ∧ vis n H2 v = vis n H v := by
 intro n
 induction n with
 | zero => intro v _; exact ⟨by simp [fz], by simp [vis]⟩
 | succ n ih =>
  intro v h
  have hL : ∀ cs : List AV, (∀ j ∈ cs.flatMap (vis n H), H2 j = H j) → cs.map (fz out n H2) = cs.map (fz out n H) ∧ cs.flatMap (vis n H2) = cs.flatMap (vis n H) := by
   intro cs hcs
   constructor
   ·exact Bk fun c hc => (ih c fun j hj => hcs j (Dg.2 ⟨c, hc, hj⟩)).1
   ·simp only [Jv]
    congr 1
    exact Bk fun c hc => (ih c fun j hj => hcs j (Dg.2 ⟨c, hc, hj⟩)).2
  cases v with
  | ptr j g ver s i off =>
   have hj : H2 j = H j := by
    refine h j ?_
    simp only [vis]
    split <;> (try split) <;> simp
   simp only [fz, vis, Qz hj]
   simp only [vis] at h
   split
   ·rename_i es hes
    simp only [hes] at h
    split
    ·rename_i e he
     simp only [he] at h
     have := hL (e.cells.drop off) (fun j' hj' => h j' (by simp at hj' ⊢; exact .inr hj'))
     exact ⟨by rw [this.1], by rw [this.2]⟩
    ·exact ⟨rfl, rfl⟩
   ·exact ⟨rfl, rfl⟩
  | slc j g ver s off len cap =>
   have hj : H2 j = H j := by
    refine h j ?_
    simp only [vis]
    split <;> simp
   simp only [fz, vis, Qz hj]
   simp only [vis] at h
   split
   ·rename_i es hes
    simp only [hes] at h
    have := hL ((es.drop off).take len) (fun j' hj' => h j' (by simp at hj' ⊢; exact .inr hj'))
    exact ⟨by rw [this.1], by rw [this.2]⟩
   ·exact ⟨rfl, rfl⟩
  | agg cs => simp only [fz, vis] at h ⊢; have := hL cs h; exact ⟨by rw [this.1], this.2⟩
  | tup cs => simp only [fz, vis] at h ⊢; have := hL cs h; exact ⟨by rw [this.1], this.2⟩
  | fn f cs => simp only [fz, vis] at h ⊢; have := hL cs h; exact ⟨by rw [this.1], this.2⟩
  | _ => exact ⟨by simp [fz], by simp [vis]⟩
theorem nS (out : Bool) {H H2 : Heap} (n : Nat) (vs : List AV) (h : ∀ j ∈ vs.flatMap (vis n H), H2 j = H j) : vs.map (fz out n H2) = vs.map (fz out n H) ∧ vs.flatMap (vis n H2) = vs.flatMap (vis n H) := by
 constructor
 ·exact Bk fun c hc => (Aql out n c fun j hj => h j (Dg.2 ⟨c, hc, hj⟩)).1
 ·simp only [Jv]
  congr 1
  exact Bk fun c hc => (Aql out n c fun j hj => h j (Dg.2 ⟨c, hc, hj⟩)).2
end Go.AI
namespace Go.AI
section
variable {cf : Dk} {xf : ExtF} {base : Nat} {T : Tmps} {H H' : Heap} {v : AV} {fp : FP}
theorem Aet {x : Option AV} (h : x.bind (rv · H) = some (v, H', fp)) : Rd (fun H => x.bind (rv · H)) H v H' fp := by
 cases x with
 | none => simp at h
 | some u =>
  simp only [Ab, rv, Ag, Am] at h
  obtain ⟨rfl, rfl, rfl⟩ := h
  exact Hz rfl rfl fun H2 _ => rfl
theorem Rj {s : Nat} {x : AV} {es : List AV} {js : List Nat} (h : Cy H s x = some (es, js)) {H2 : Heap} (ha : ∀ j ∈ js, H2 j = H j) : Cy H2 s x = some (es, js) := by
 unfold Cy at h ⊢
 split at h
 ·exact h
 ·rename_i j g ver s' off len cap
  split at h
  ·rename_i es0 hes
   split at h
   ·rename_i hc
    simp at h
    obtain ⟨rfl, rfl⟩ := h
    simp only [Qz (ha j (by simp)), hes, if_pos hc]
   ·simp at h
  ·simp at h
 ·exact h
 ·simp at h
theorem aD {site s : Nat} {x : AV} {ys : List AV} (h : Dv H site s x ys = some (v, H', fp)) : fp.top = false ∧ Rd (fun H => Dv H site s x ys) H v H' fp := by
 unfold Dv at h
 split at h
 ·rename_i tt full s' es
  split at h
  ·rename_i hn
   simp only [rv, Ag, Am, FP.z] at h
   obtain ⟨rfl, rfl, rfl⟩ := h
   exact ⟨rfl, Hz rfl rfl fun H2 _ => by simp [Dv, hn, FP.z]⟩
  ·rename_i hn
   split at h
   ·rename_i hc
    simp only [Ag, Am] at h
    obtain ⟨rfl, rfl, rfl⟩ := h
    refine ⟨rfl, ⟨fun j hj => ?_, fun H2 ha => ⟨H2.newRow site s ys, ?_, fun j hj => ?_, fun j hj => ?_⟩⟩⟩
    ·simp at hj; simp [Heap.newRow, Df _ _ hj]
    ·simp [Dv, hn, hc, ha site (.inr (by simp))]
    ·simp at hj; subst hj; simp [Heap.newRow, ha j (.inr (by simp))]
    ·simp at hj; simp [Heap.newRow, Df _ _ hj]
   ·simp at h
 ·rename_i j g ver s' off len cap
  split at h
  ·rename_i hn
   simp only [rv, Ag, Am, FP.z] at h
   obtain ⟨rfl, rfl, rfl⟩ := h
   exact ⟨rfl, Hz rfl rfl fun H2 _ => by simp [Dv, hn, FP.z]⟩
  ·rename_i hn
   split at h
   ·simp at h
   ·rename_i es hes
    split at h
    ·rename_i hc
     split at h
     ·rename_i hin
      simp only [Ag, Am] at h
      obtain ⟨rfl, rfl, rfl⟩ := h
      refine ⟨rfl, ⟨fun i hi => ?_, fun H2 ha => ⟨H2.setRow j s (es.take (off + len) ++ ys ++ es.drop (off + len + ys.length)), ?_, fun i hi => ?_, fun i hi => ?_⟩⟩⟩
      ·simp at hi; simp [Heap.setRow, Df _ _ hi]
      ·simp only [Dv, if_neg hn, Og (ha j (.inl (by simp))), hes, if_pos hc, if_pos hin]
      ·simp at hi; subst hi; simp [Heap.setRow, ha i (.inl (by simp))]
      ·simp at hi; simp [Heap.setRow, Df _ _ hi]
     ·rename_i hin
      split at h
      ·split at h
       ·rename_i hc2
        simp only [Ag, Am] at h
        obtain ⟨rfl, rfl, rfl⟩ := h
        refine ⟨rfl, ⟨fun i hi => ?_, fun H2 ha => ⟨H2.setRow j s (es ++ ys), ?_, fun i hi => ?_, fun i hi => ?_⟩⟩⟩
        ·simp at hi; simp [Heap.setRow, Df _ _ hi]
        ·simp only [Dv, if_neg hn, Og (ha j (.inl (by simp))), hes, if_pos hc, if_neg hin, if_pos hc2]
        ·simp at hi; subst hi; simp [Heap.setRow, ha i (.inl (by simp))]
        ·simp at hi; simp [Heap.setRow, Df _ _ hi]
       ·simp at h
      ·split at h
       ·rename_i hc2
        simp only [Ag, Am] at h
        obtain ⟨rfl, rfl, rfl⟩ := h
        refine ⟨rfl, ⟨fun i hi => ?_, fun H2 ha => ⟨H2.newRow site s ((es.drop off).take len ++ ys), ?_, fun i hi => ?_, fun i hi => ?_⟩⟩⟩
        ·simp at hi; simp [Heap.newRow, Df _ _ hi]
        ·simp only [Dv, if_neg hn, Og (ha j (.inl (by simp))), hes, if_pos hc, if_neg hin, if_pos hc2, ha site (.inr (by simp))]
        ·simp at hi; subst hi; simp [Heap.newRow, ha i (.inr (by simp))]
        ·simp at hi; simp [Heap.newRow, Df _ _ hi]
       ·simp at h
    ·simp at h
 ·simp at h
theorem Aaw {ys ys' : List AV} {H1 : Heap} {K : List Nat} (h : Fe H ys = some (ys', H1, K)) :
  (∀ j, j ∉ K → H1 j = H j) ∧ ∀ G : Heap, (∀ j ∈ K, G j = H j) → ∃ G1, Fe G ys = some (ys', G1, K) ∧ (∀ j, j ∈ K → G1 j = H1 j) ∧ (∀ j, j ∉ K → G1 j = G j) := by
 unfold Fe at h
 split at h
 ·rename_i hn
  cases h
  exact ⟨fun j _ => rfl, fun G _ => ⟨G, by simp [Fe, hn], fun j hj => by simp at hj, fun j _ => rfl⟩⟩
 ·rename_i hn
  cases h
  refine ⟨fun j hj => by rw [Qy, if_neg hj], fun G ha => ⟨Xh G (ys.flatMap (vis deep H)), ?_, fun j hj => by rw [Qy, Qy, if_pos hj, if_pos hj, ha j hj], fun j hj => by rw [Qy, if_neg hj]⟩⟩
  obtain ⟨z1, z2⟩ := nS true deep ys ha
  simp only [Fe, if_neg hn, z1, z2]
theorem cX {Hc : Heap} {site : Nat} {u u' : AV} {r r' : List AV} (h : Pj H Hc site u r = some (u', r', H')) :
  (∀ j, j ≠ site → H' j = H j) ∧ ∀ H2 : Heap, H2 site = H site → ∃ H2', Pj H2 Hc site u r = some (u', r', H2') ∧ H2' site = H' site ∧ (∀ j, j ≠ site → H2' j = H2 j) := by
 unfold Pj at h
 split at h
 ·rename_i j g ver s off len cap
  split at h
  ·rename_i es hes
   split at h
   ·rename_i hc
    simp only [Ag, Am] at h
    obtain ⟨rfl, rfl, rfl⟩ := h
    refine ⟨fun i hi => by simp [Heap.newRow, Df _ _ hi], fun H2 ha => ⟨H2.newRow site s (es.map (fz true deep Hc)), ?_, by simp [Heap.newRow, ha], fun i hi => by simp [Heap.newRow, Df _ _ hi]⟩⟩
    simp [Pj, hes, hc, ha]
   ·simp at h
  ·simp at h
 ·rename_i hx
  split at h
  ·rename_i hc
   simp only [Ag, Am] at h
   obtain ⟨rfl, rfl, rfl⟩ := h
   refine ⟨fun i hi => rfl, fun H2 ha => ⟨H2, ?_, ha, fun i hi => rfl⟩⟩
   unfold Pj
   split
   ·exact absurd rfl (hx _ _ _ _ _ _ _)
   ·rw [if_pos hc]
  ·simp at h
theorem uL {Hc : Heap} {site : Nat} {u u' : AV} (h : Qc H Hc site u = some (u', H')) :
  (∀ j, j ≠ site → H' j = H j) ∧ ∀ H2 : Heap, H2 site = H site → ∃ H2', Qc H2 Hc site u = some (u', H2') ∧ H2' site = H' site ∧ (∀ j, j ≠ site → H2' j = H2 j) := by
 unfold Qc at h
 split at h
 ·rename_i u0 r0
  split at h
  ·rename_i u1 r1 H3 e3
   simp only [Ag, Am] at h
   obtain ⟨rfl, rfl⟩ := h
   obtain ⟨k1, k2⟩ := cX e3
   refine ⟨k1, fun H2 ha => ?_⟩
   obtain ⟨H2', m1, m2, m3⟩ := k2 H2 ha
   exact ⟨H2', by simp [Qc, m1], m2, m3⟩
  ·simp at h
 ·simp at h
 ·rename_i h1 h2
  split at h
  ·rename_i v3 r3 H3 e3
   simp only [Ag, Am] at h
   obtain ⟨rfl, rfl⟩ := h
   obtain ⟨k1, k2⟩ := cX e3
   refine ⟨k1, fun H2 ha => ?_⟩
   obtain ⟨H2', m1, m2, m3⟩ := k2 H2 ha
   refine ⟨H2', ?_, m2, m3⟩
   unfold Qc
   split
   ·exact absurd rfl (h1 _ _)
   ·exact absurd rfl h2
   ·rw [m1]
  ·simp at h
theorem fU {m : Mode} {f : Nat} {args : List AV} (h : Hj cf xf base m f args H = some (v, H', fp)) (ht : fp.top = false) : Rd (fun H => Hj cf xf base m f args H) H v H' fp := by
 cases m with
 | pure =>
  simp only [Hj] at h
  cases e1 : cf f 0 (args.map (fz false deep H)) Heap.none with
  | none => simp [e1] at h
  | some p =>
   simp only [e1, Ad, Ab, Ag, Am] at h
   obtain ⟨rfl, rfl, rfl⟩ := h
   refine Hz rfl rfl fun H2 ha => ?_
   have := nS false deep args (fun j hj => ha j (.inl hj))
   simp only [Hj, this.1, this.2, e1, Ad, Ab]
 | fresh site =>
  simp only [Hj] at h
  cases e1 : cf f 0 (args.map (fz false deep H)) Heap.none with
  | none => simp [e1] at h
  | some p =>
   simp only [e1, Ad, Ab] at h
   cases e2 : Qc H p.2 (base + site) p.1 with
   | none => simp [e2] at h
   | some q =>
    simp only [e2, Ab, Ag, Am] at h
    obtain ⟨rfl, rfl, rfl⟩ := h
    obtain ⟨k1, k2⟩ := uL e2
    refine ⟨fun j hj => k1 j (by simpa using hj), fun H2 ha => ?_⟩
    have := nS false deep args (fun j hj => ha j (.inl hj))
    obtain ⟨H2', m1, m2, m3⟩ := k2 H2 (ha _ (.inr (by simp)))
    refine ⟨H2', ?_, fun j hj => ?_, fun j hj => m3 j (by simpa using hj)⟩
    ·simp only [Hj, this.1, this.2, e1, Ad, Ab, m1]
    ·simp at hj; subst hj; exact m2
 | inl b =>
  simp only [Hj] at h
  cases e1 : cf f (base + b) args H with
  | none => simp [e1] at h
  | some p =>
   simp only [e1, Ad, Ab, Ag, Am] at h
   obtain ⟨_, _, rfl⟩ := h
   simp at ht
 | ext =>
  simp only [Hj] at h
  cases e1 : xf f (args.map (fz false deep H)) with
  | none => simp [e1] at h
  | some p =>
   simp only [e1, Ad, Ab, Ag, Am] at h
   obtain ⟨rfl, rfl, rfl⟩ := h
   refine Hz rfl rfl fun H2 ha => ?_
   have := nS false deep args (fun j hj => ha j (.inl hj))
   simp only [Hj, this.1, this.2, e1, Ad, Ab]
 | peek b =>
  simp only [Hj] at h ⊢
  unfold rY at h
  split at h
  ·rename_i j g ver s off len cap rest
   split at h
   ·rename_i s' es hst
    split at h
    ·rename_i hn
     split at h
     ·rename_i j' g' ver' s2 off' len' cap' Hc e1
      split at h
      ·rename_i hc
       simp only [Ag, Am] at h
       obtain ⟨rfl, rfl, rfl⟩ := h
       refine Hz rfl rfl fun H2 ha => ?_
       have hj : H2 j = H j := ha j (.inl (by simp))
       have hp : Wh H2 j s' es = Wh H j s' es := by unfold Wh; rw [hj]
       simp only [rY, hj, hst, if_pos hn, hp, e1, if_pos hc]
      ·simp at h
     ·simp at h
    ·simp at h
   ·simp at h
  ·rename_i t f0 s es rest
   split at h
   ·rename_i hn
    split at h
    ·rename_i f' s' es' Hc e1
     split at h
     ·rename_i hp2
      simp only [Ag, Am] at h
      obtain ⟨rfl, rfl, rfl⟩ := h
      refine Hz rfl rfl fun H2 ha => ?_
      simp only [rY, if_pos hn, e1, if_pos hp2]
     ·simp at h
    ·simp at h
   ·simp at h
  ·simp at h
theorem Nc {f : Heap → R} {k s : Nat} {es : List AV} {w : Nat → AV} (hf : ∀ H2 : Heap, f H2 = some (w ((H2 k).gen + 1), H2.newRow k s es, ⟨[], [k], false⟩)) (h : f H = some (v, H', fp)) : Rd f H v H' fp := by
 rw [hf] at h
 simp only [Ag, Am] at h
 obtain ⟨rfl, rfl, rfl⟩ := h
 refine ⟨fun j hj => ?_, fun H2 ha => ⟨H2.newRow k s es, ?_, fun j hj => ?_, fun j hj => ?_⟩⟩
 ·simp at hj; simp [Heap.newRow, Df _ _ hj]
 ·rw [hf, ha k (.inr (by simp))]
 ·simp at hj; subst hj; simp [Heap.newRow, ha j (.inr (by simp))]
 ·simp at hj; simp [Heap.newRow, Df _ _ hj]
theorem lU {H H2 : Heap} : ∀ (n b : Nat), (∀ j ∈ Zh b n, H2 j = H j) → Ko H2 b n = Ko H b n
 | 0, b, _ => rfl
 | n + 1, b, h => by
  unfold Ko
  rw [h b (by simp [Zh]), lU n (b + 1) (fun j hj => h j (by simp [Zh, hj]))]
theorem cS {f : Heap → R} {b s : Nat} {es : List AV} {w : Nat → Nat → AV} (hf : ∀ H2 : Heap, f H2 = some (w (Ko H2 b many) ((H2 (Ko H2 b many)).gen + 1), H2.newRow (Ko H2 b many) s es, ⟨Zh b many, [Ko H2 b many], false⟩)) (h : f H = some (v, H', fp)) : Rd f H v H' fp := by
 rw [hf] at h
 simp only [Ag, Am] at h
 obtain ⟨rfl, rfl, rfl⟩ := h
 generalize hk : Ko H b many = k
 refine ⟨fun j hj => ?_, fun H2 ha => ⟨H2.newRow k s es, ?_, fun j hj => ?_, fun j hj => ?_⟩⟩
 ·simp at hj; simp [Heap.newRow, Df _ _ hj]
 ·have e : Ko H2 b many = k := by rw [lU many b (fun j hj => ha j (.inl hj)), hk]
  rw [hf, e, ha k (.inr (by simp))]
 ·simp at hj; subst hj; simp [Heap.newRow, ha j (.inr (by simp))]
 ·simp at hj; simp [Heap.newRow, Df _ _ hj]
theorem Sm {f : Heap → R} {k s : Nat} {es : List AV} {rd : List Nat} (hf : ∀ H2 : Heap, Zz ⟨rd, [k], false⟩ H H2 → f H2 = some (v, H2.setRow k s es, ⟨rd, [k], false⟩)) (h : f H = some (v, H', fp)) : Rd f H v H' fp := by
 rw [hf H (fun _ _ => rfl)] at h
 simp only [Ag, Am] at h
 obtain ⟨_, rfl, rfl⟩ := h
 refine ⟨fun j hj => ?_, fun H2 ha => ⟨H2.setRow k s es, hf H2 ha, fun j hj => ?_, fun j hj => ?_⟩⟩
 ·simp at hj; simp [Heap.setRow, Df _ _ hj]
 ·simp at hj; subst hj; simp [Heap.setRow, ha j (.inr (by simp))]
 ·simp at hj; simp [Heap.setRow, Df _ _ hj]
def laid : SOp → Bool
 | .clear .. => false
 | _ => true
def vB : SOp → Bool
 | .mv .. | .pick .. | .build .. | .empty .. | .nilc .. | .bin .. | .eqnil .. | .eqb .. | .eqagg .. | .un .. | .cvi .. | .mkfn .. | .slcStr .. | .slcArr .. | .faddr .. | .field .. | .iaddrA .. | .indexS .. | .indexA .. | .extract .. | .len .. | .lenS .. | .cap .. | .mnmx .. => true
 | _ => false
theorem zC {op : SOp} (hq : vB op = true) : aop cf xf base T H op = ((aop cf xf base T Heap.none op).map (·.1)).bind (rv · H) := by
 cases op
 case build z ps =>
  simp only [aop]
  cases Ma z (ps.map fun (o, k, x) => (o, k, SArg.ev T x)) <;> rfl
 case bin op x y =>
  simp only [aop]
  cases abin op (x.ev T) (y.ev T) <;> rfl
 case eqnil neg x =>
  simp only [aop]
  cases Aea (x.ev T) <;> rfl
 case eqagg neg n x y =>
  simp only [aop]
  (repeat' split) <;> first | rfl | (cases xQ _ _ <;> rfl)
 case un op x =>
  simp only [aop]
  cases aun op (x.ev T) <;> rfl
 case slcStr x lo hi =>
  simp only [aop]
  cases Fu T lo with
  | none => rfl
  | some l => cases Fu T hi with
   | none => rfl
   | some hh =>
    simp only [Ad, Ab]
    (repeat' split) <;> first | rfl | (simp_all; done)
 case iaddrA n s x i =>
  simp only [aop]
  cases Fz (i.ev T) with
  | none => rfl
  | some l =>
   simp only [Ad, Ab]
   (repeat' split) <;> first | rfl | (simp_all; done)
 case indexS x i =>
  simp only [aop]
  cases Fz (i.ev T) with
  | none => rfl
  | some l =>
   simp only [Ad, Ab]
   (repeat' split) <;> first | rfl | (simp_all; done)
 case indexA n s b x i =>
  simp only [aop]
  cases Fz (i.ev T) with
  | none => rfl
  | some l =>
   simp only [Ad, Ab]
   (repeat' split) <;> first | rfl | (simp_all; done)
 all_goals first
  | (simp [vB] at hq; done)
  | (simp only [aop]; rfl)
  | (simp only [aop]; (repeat' split) <;> first | rfl | (simp_all; done))
theorem Aez {op : SOp} (hq : vB op = true) (h : aop cf xf base T H op = some (v, H', fp)) : Rd (fun H => aop cf xf base T H op) H v H' fp := by
 have hf : (fun H => aop cf xf base T H op) = fun H => ((aop cf xf base T Heap.none op).map (·.1)).bind (rv · H) := funext fun H => zC hq
 rw [hf]
 rw [zC hq] at h
 exact Aet h
theorem Up {H H2 : Heap} {j : Nat} (h : H2 j = H j) (g : Nat) : H2.mapAt j g = H.mapAt j g := by
 unfold Heap.mapAt; rw [h]
theorem wD {op : SOp} (hl : laid op = true) (h : aop cf xf base T H op = some (v, H', fp)) (ht : fp.top = false) : Rd (fun H => aop cf xf base T H op) H v H' fp := by
 cases op
 case clear => simp [laid] at hl
 case bad => simp [aop] at h
 case mkmap site =>
  simp only [aop, Ag, Am] at h ⊢
  obtain ⟨rfl, rfl, rfl⟩ := h
  refine jC (k := base + site) (fun H2 => ⟨(H2 (base + site)).gen + 1, false, .map []⟩) rfl (fun H2 ha => ?_) (fun H2 ha => ?_)
  ·simp only [ha _ (.inr (Bg.2 rfl))]
  ·simp only [aop, ha _ (.inr (Bg.2 rfl))]
 case lookup z m k ok =>
  simp only [aop] at h ⊢
  split at h
  ·rename_i j g n hq1 hq2
   cases hes : H.mapAt j g with
   | none => simp [hes] at h
   | some es =>
    simp only [hes, Ad, Ab, Ag, Am] at h
    obtain ⟨rfl, rfl, rfl⟩ := h
    refine Hz rfl rfl fun H2 ha => ?_
    simp only [Up (ha j (.inl (by simp))), hes, Ad, Ab]
  ·simp at h
 case maplen m =>
  simp only [aop] at h ⊢
  split at h
  ·rename_i j g hq1
   cases hes : H.mapAt j g with
   | none => simp [hes] at h
   | some es =>
    simp only [hes, Ad, Ab, Ag, Am] at h
    obtain ⟨rfl, rfl, rfl⟩ := h
    refine Hz rfl rfl fun H2 ha => ?_
    simp only [Up (ha j (.inl (by simp))), hes, Ad, Ab]
  ·simp at h
 case mapset m k y =>
  simp only [aop] at h ⊢
  split at h
  ·rename_i j g n hq1 hq2
   cases hes : H.mapAt j g with
   | none => simp [hes] at h
   | some es =>
    simp only [hes, Ad, Ab] at h
    split at h
    ·rename_i hc
     simp only [Ag, Am] at h
     obtain ⟨rfl, rfl, rfl⟩ := h
     refine jC (k := j) (fun H2 => ⟨(H2 j).gen, false, .map (Pi n (y.ev T) es)⟩) rfl (fun H2 ha => ?_) (fun H2 ha => ?_)
     ·simp only [ha _ (.inr (Bg.2 rfl))]
     ·simp only [Up (ha j (.inl (by simp))), hes, Ad, Ab, if_pos hc]
    ·simp at h
  ·simp at h
 case mapdel m k =>
  simp only [aop] at h ⊢
  split at h
  ·rename_i j g n hq1 hq2
   cases hes : H.mapAt j g with
   | none => simp [hes] at h
   | some es =>
    simp only [hes, Ad, Ab, Ag, Am] at h
    obtain ⟨rfl, rfl, rfl⟩ := h
    refine jC (k := j) (fun H2 => ⟨(H2 j).gen, false, .map (Qf n es)⟩) rfl (fun H2 ha => ?_) (fun H2 ha => ?_)
    ·simp only [ha _ (.inr (Bg.2 rfl))]
    ·simp only [Up (ha j (.inl (by simp))), hes, Ad, Ab]
  ·simp at h
 case call m f args => simp only [aop] at h ⊢; exact fU h ht
 case callv m x args =>
  simp only [aop] at h ⊢
  split at h
  ·rename_i f caps hq
   exact fU h ht
  ·simp at h
 case box site x =>
  simp only [aop] at h ⊢
  split at h
  ·simp at h
  ·rename_i hc
   simp only [if_neg hc]
   refine Nc (w := fun g => .ptr (base + site) g 1 (x.ev T).cells.length 0 0) (fun H2 => rfl) h
 case boxF site x =>
  simp only [aop] at h ⊢
  split at h
  ·simp at h
  ·rename_i hc
   simp only [if_neg hc]
   refine Nc (w := fun g => .ptr (base + site) g (x.ev T).cells.length 1 0 0) (fun H2 => rfl) h
 case copy s x y =>
  simp only [aop, rG] at h ⊢
  cases e1 : Cy H s (y.ev T) with
  | none => simp [e1] at h
  | some p =>
   obtain ⟨ys, js⟩ := p
   simp only [e1, Ad, Ab] at h
   cases e2 : Ca ys with
   | false => simp [e2] at h
   | true =>
   simp only [e2, Ka, Az, Cn] at h
   split at h
   ·rename_i tt full s' es hq
    split at h
    ·rename_i hc
     simp only [Ag, Am] at h
     obtain ⟨rfl, rfl, rfl⟩ := h
     refine Hz rfl rfl fun H2 ha => ?_
     simp only [Rj e1 (fun j hj => ha j (.inl hj)), Ad, Ab, e2, Ka, Az, Cn, if_pos hc]
    ·simp at h
   ·rename_i j g ver s' off len cap hq
    split at h
    ·simp at h
    ·rename_i es hes
     split at h
     ·rename_i hc
      have h0 := h
      simp only [Ag, Am] at h0
      obtain ⟨rfl, _, rfl⟩ := h0
      refine Sm (rd := j :: js) (k := j) (s := s) (es := es.take off ++ ys.take (min ys.length len) ++ es.drop (off + min ys.length len)) (fun H2 ha => ?_) (by simp only [e1, Ad, Ab, e2, Ka, Az, Cn, hes, if_pos hc]; exact h)
      simp only [Rj e1 (fun i hi => ha i (.inl (by simp [hi]))), Ad, Ab, e2, Ka, Az, Cn, Og (ha j (.inl (by simp))), hes, if_pos hc]
     ·simp at h
   ·simp at h
 case nilrow site s =>
  simp only [aop] at h ⊢
  exact Nc (w := fun g => .slc (base + site) g 0 s 0 0 .none) (fun H2 => rfl) h
 case buildS site s n z ps =>
  simp only [aop] at h ⊢
  split at h
  ·simp at h
  ·rename_i hc
   simp only [if_neg hc]
   split at h
   ·simp at h
   ·rename_i es hes
    exact Nc (w := fun g => .slc (base + site) g n s 0 n .none) (fun H2 => rfl) h
 case buildSN site s n z ps =>
  simp only [aop] at h ⊢
  split at h
  ·simp at h
  ·rename_i hc
   simp only [if_neg hc]
   split at h
   ·simp at h
   ·rename_i es hes
    exact cS (w := fun j g => .slc j g n s 0 n .none) (fun H2 => rfl) h
 case s2b site x =>
  simp only [aop] at h ⊢
  split at h
  ·rename_i b hq
   split at h
   ·rename_i hc
    simp only [if_pos hc]
    exact Nc (w := fun g => .slc (base + site) g b.size 1 0 b.size .none) (fun H2 => rfl) h
   ·simp at h
  ·simp at h
 case mksN site s z l c =>
  simp only [aop] at h ⊢
  cases e1 : Fz (l.ev T) with
  | none => simp [e1] at h
  | some l0 =>
  cases e2 : Fz (c.ev T) with
  | none => simp [e1, e2] at h
  | some c0 =>
  simp only [e1, e2, Ad, Ab] at h ⊢
  split at h
  ·rename_i hc
   simp only [if_pos hc]
   exact cS (w := fun j g => .slc j g c0 s 0 l0 .none) (fun H2 => rfl) h
  ·simp at h
 case mks site s z l c =>
  simp only [aop] at h ⊢
  cases e1 : Fz (l.ev T) with
  | none => simp [e1] at h
  | some l0 =>
  cases e2 : Fz (c.ev T) with
  | none => simp [e1, e2] at h
  | some c0 =>
  simp only [e1, e2, Ad, Ab] at h ⊢
  split at h
  ·rename_i hc
   simp only [if_pos hc]
   exact Nc (w := fun g => .slc (base + site) g c0 s 0 l0 .none) (fun H2 => rfl) h
  ·simp at h
 case load k agg x =>
  simp only [aop] at h ⊢
  split at h
  ·rename_i j g ver s i off hq
   split at h
   ·rename_i es hes
    split at h
    ·rename_i e he
     split at h
     ·rename_i hc
      simp only [Ag, Am] at h
      obtain ⟨rfl, rfl, rfl⟩ := h
      refine Hz rfl rfl fun H2 ha => ?_
      simp only [Qz (ha j (.inl (by simp))), hes, he, if_pos hc]
     ·rename_i hn
      split at h
      ·rename_i hc
       simp only [Ag, Am] at h
       obtain ⟨rfl, rfl, rfl⟩ := h
       refine Hz rfl rfl fun H2 ha => ?_
       simp only [Qz (ha j (.inl (by simp))), hes, he, if_neg hn, if_pos hc]
      ·simp at h
    ·simp at h
   ·simp at h
  ·rename_i tt cs hq
   split at h
   ·rename_i hc
    simp only [rv, Ag, Am] at h
    obtain ⟨rfl, rfl, rfl⟩ := h
    exact Hz rfl rfl fun H2 ha => by simp only [if_pos hc, rv]
   ·simp at h
  ·simp at h
 case store k x y =>
  simp only [aop] at h ⊢
  split at h
  ·rename_i j g ver s i off hq
   split at h
   ·rename_i es hes
    split at h
    ·rename_i e he
     split at h
     ·rename_i hc
      have h0 := h
      simp only [Ag, Am] at h0
      obtain ⟨rfl, _, _⟩ := h0
      refine Sm (rd := [j]) (k := j) (s := s) (es := es.set i (e.rewrap (e.cells.take off ++ (y.ev T).cells ++ e.cells.drop (off + k)))) (fun H2 ha => ?_) (by simp only [hes, he, if_pos hc]; exact h)
      simp only [Og (ha j (.inl (by simp))), hes, he, if_pos hc]
     ·rename_i hn
      split at h
      ·rename_i hc
       have h0 := h
       simp only [Ag, Am] at h0
       obtain ⟨rfl, _, _⟩ := h0
       refine Sm (rd := [j]) (k := j) (s := s) (es := es.take (i + off) ++ (y.ev T).cells ++ es.drop (i + off + k)) (fun H2 ha => ?_) (by simp only [hes, he, if_neg hn, if_pos hc]; exact h)
       simp only [Og (ha j (.inl (by simp))), hes, he, if_neg hn, if_pos hc]
      ·simp at h
    ·simp at h
   ·simp at h
  ·simp at h
 case app site s x y =>
  simp only [aop, Jo] at h ⊢
  cases e1 : Cy H s (y.ev T) with
  | none => simp [e1] at h
  | some p =>
   obtain ⟨ys, js⟩ := p
   simp only [e1, Ad, Ab] at h
   cases e3 : Fe H ys with
   | none => simp [e3] at h
   | some p3 =>
   obtain ⟨ys', H1, K⟩ := p3
   simp only [e3, Ab] at h
   cases e2 : Dv H1 (base + site) s (x.ev T) ys' with
   | none => simp [e2] at h
   | some q =>
    obtain ⟨v2, H2, f2⟩ := q
    simp only [e2, Ab, Ag, Am] at h
    obtain ⟨rfl, rfl, rfl⟩ := h
    obtain ⟨_, k1, k2⟩ := aD e2
    obtain ⟨b1, b2⟩ := Aaw e3
    refine ⟨fun j hj => ?_, fun G ha => ?_⟩
    ·simp only [Bi, not_or] at hj
     rw [k1 j hj.2, b1 j hj.1]
    obtain ⟨G1, m4, m5, m6⟩ := b2 G (fun j hj => ha j (.inr (by simp [hj])))
    have hG1 : ∀ j, (j ∈ f2.rd ∨ j ∈ f2.wr) → G1 j = H1 j := fun j hj => by
     by_cases hk : j ∈ K
     ·exact m5 j hk
     ·rw [m6 j hk, b1 j hk]
      exact ha j (by rcases hj with hj | hj <;> simp [hj])
    obtain ⟨G', m1, m2, m3⟩ := k2 G1 hG1
    refine ⟨G', ?_, fun j hj => ?_, fun j hj => ?_⟩
    ·have e1' := Rj e1 (H2 := G) (fun j hj => ha j (.inl (by simp [hj])))
     simp only [e1', Ad, Ab, m4, m1]
    ·by_cases hw : j ∈ f2.wr
     ·exact m2 j hw
     ·have hk : j ∈ K := by simpa [hw] using hj
      rw [m3 j hw, m5 j hk, k1 j hw]
    ·simp only [Bi, not_or] at hj
     rw [m3 j hj.2, m6 j hj.1]
 case appZ site s z x y =>
  simp only [aop] at h ⊢
  cases e1 : Fz (y.ev T) with
  | none => simp [e1] at h
  | some m =>
   simp only [e1, Ad, Ab] at h ⊢
   split at h
   ·rename_i hc
    simp only [if_pos hc]
    exact (aD h).2
   ·simp at h
 case b2s x =>
  simp only [aop] at h ⊢
  split at h
  ·simp at h
  ·rename_i hn
   cases e1 : Cy H 1 (x.ev T) with
   | none => simp [e1] at h
   | some p =>
    obtain ⟨ys, js⟩ := p
    simp only [e1, Ad, Ab] at h
    cases e2 : Rh ys with
    | none => simp [e2] at h
    | some bs =>
     simp only [e2, Ab, Ag, Am] at h
     obtain ⟨rfl, rfl, rfl⟩ := h
     refine Hz rfl rfl fun G ha => ?_
     have e1' := Rj e1 (H2 := G) (fun j hj => ha j (.inl hj))
     simp [if_neg hn, e1', e2]
 case slice s x lo hi mx =>
  simp only [aop] at h ⊢
  cases e1 : Fu T lo with
  | none => simp [e1] at h
  | some l =>
  cases e2 : Fu T hi with
  | none => simp [e1, e2] at h
  | some hh =>
  cases e3 : Fu T mx with
  | none => simp [e1, e2, e3] at h
  | some m =>
  simp only [e1, e2, e3, Ad, Ab, eR] at h ⊢
  split at h
  ·rename_i tt full s' es hq
   split at h
   ·simp at h
   ·rename_i hc
    split at h
    ·rename_i hc2
     simp only [Ag, Am] at h
     obtain ⟨rfl, rfl, rfl⟩ := h
     refine Hz rfl rfl fun G ha => ?_
     simp only [if_neg hc, if_pos hc2]
    ·simp at h
  ·rename_i j g ver s' off len cap hq
   split at h
   ·simp at h
   ·rename_i hc
    split at h
    ·simp at h
    ·rename_i es hes
     split at h
     ·rename_i hc2
      simp only [Ag, Am] at h
      obtain ⟨rfl, rfl, rfl⟩ := h
      refine Hz rfl rfl fun G ha => ?_
      simp only [if_neg hc, Qz (ha j (.inl (by simp))), hes, if_pos hc2]
     ·simp at h
  ·simp at h
 case iaddr s x i =>
  simp only [aop] at h ⊢
  cases e1 : Fz (i.ev T) with
  | none => simp [e1] at h
  | some i0 =>
   simp only [e1, Ad, Ab] at h ⊢
   split at h
   ·rename_i j g ver s' off len cap hq
    cases hes : H.row j g ver s' with
    | none => simp [hes] at h
    | some es =>
     simp only [hes, Ab] at h
     split at h
     ·rename_i hc
      simp only [Ag, Am] at h
      obtain ⟨rfl, rfl, rfl⟩ := h
      refine Hz rfl rfl fun G ha => ?_
      simp only [Qz (ha j (.inl (by simp))), hes, Ab, if_pos hc]
     ·simp at h
   ·rename_i tt f s' es hq
    split at h
    ·simp at h
    ·rename_i hc
     split at h
     ·rename_i e he
      simp only [rv, Ag, Am] at h
      obtain ⟨rfl, rfl, rfl⟩ := h
      exact Hz rfl rfl fun G ha => by simp only [if_neg hc, he, rv]
     ·simp at h
   ·simp at h
 case ss x =>
  simp only [aop] at h ⊢
  split at h
  ·rename_i j g ver s off len cap hq
   split at h
   ·rename_i es hes
    split at h
    ·rename_i hc
     simp only [Ag, Am] at h
     obtain ⟨rfl, rfl, rfl⟩ := h
     refine Sm (k := j) (s := s) (es := es) (rd := [j]) (fun G ha => ?_) (by simp only [hes, if_pos hc])
     simp only [Og (ha j (.inl (by simp))), hes, if_pos hc]
    ·simp at h
   ·simp at h
  ·simp at h
 all_goals exact Aez rfl h
end
end Go.AI
namespace Go.AI
def Py {α : Type} (p : Nat → Bool) (v : Nat → α) (d : α) : Nat → α
 | 0 => d
 | n + 1 => if p n then v n else Py p v d n
theorem Kl {α : Type} {p q : Nat → Bool} {v : Nat → α} {d : α} : ∀ {n : Nat}, (∀ k, k < n → p k = q k) → Py p v d n = Py q v d n
 | 0, _ => rfl
 | n + 1, h => by
  simp only [Py, h n (by omega)]
  rw [Kl (n := n) fun k hk => h k (by omega)]
theorem Od {α : Type} {p : Nat → Bool} {v : Nat → α} {d : α} {i : Nat} : ∀ {n : Nat}, i ≤ n → (∀ k, i ≤ k → k < n → p k = false) → Py p v d n = Py p v d i
 | 0, h, _ => by simp at h; subst h; rfl
 | n + 1, h, hp => by
  rcases Nat.lt_or_ge i (n + 1) with h1 | h1
  ·rw [← Od (n := n) (by omega) fun k h1 h2 => hp k h1 (by omega)]
   simp only [Py, hp n (by omega) (by omega), Az, Cn]
  ·have : i = n + 1 := by omega
   subst this; rfl
structure Trace (cf : Dk) (xf : ExtF) (base : Nat) (l : List SOper) (T : Tmps) (H : Heap) (T' : Tmps) (H' : Heap) (Ts : Nat → Tmps) (Hs : Nat → Heap) (vs : Nat → AV) (fps : Nat → FP) (log : List FP) : Prop where
 t0 : Ts 0 = T
 h0 : Hs 0 = H
 tn : Ts l.length = T'
 hn : Hs l.length = H'
 step : ∀ i o, l[i]? = some o → Ts (i + 1) = (Ts i).put o.dst (vs i) ∧
  ((Aj (Ts i) o.guard = some false ∧ vs i = .undef ∧ Hs (i + 1) = Hs i ∧ fps i = .z) ∨
   (Aj (Ts i) o.guard = some true ∧ aop cf xf base (Ts i) (Hs i) o.op = some (vs i, Hs (i + 1), fps i) ∧ Bn (log ++ (List.range i).map fps) (fps i) o.un = true))
theorem oT {cf : Dk} {xf : ExtF} {base : Nat} : ∀ {l : List SOper} {log : List FP} {T : Tmps} {H : Heap} {T' : Tmps} {H' : Heap}, aops cf xf base l log T H = some (T', H') →
  ∃ Ts Hs vs fps, Trace cf xf base l T H T' H' Ts Hs vs fps log
 | [], log, T, H, T', H', h => by
  simp [aops] at h
  obtain ⟨rfl, rfl⟩ := h
  exact ⟨fun _ => T, fun _ => H, fun _ => .undef, fun _ => .z, rfl, rfl, rfl, rfl, fun i o h => by simp at h⟩
 | o :: l, log, T, H, T', H', h => by
  have key : ∀ (v : AV) (H1 : Heap) (fp : FP), aops cf xf base l (log ++ [fp]) (T.put o.dst v) H1 = some (T', H') →
    ((Aj T o.guard = some false ∧ v = .undef ∧ H1 = H ∧ fp = .z) ∨ (Aj T o.guard = some true ∧ aop cf xf base T H o.op = some (v, H1, fp) ∧ Bn log fp o.un = true)) →
    ∃ Ts Hs vs fps, Trace cf xf base (o :: l) T H T' H' Ts Hs vs fps log := by
   intro v H1 fp h1 h2
   obtain ⟨Ts, Hs, vs, fps, ht⟩ := oT h1
   refine ⟨fun | 0 => T | i + 1 => Ts i, fun | 0 => H | i + 1 => Hs i, fun | 0 => v | i + 1 => vs i, fun | 0 => fp | i + 1 => fps i, rfl, rfl, by simpa using ht.tn, by simpa using ht.hn, fun i o' ho => ?_⟩
   cases i with
   | zero =>
    simp at ho; subst ho
    refine ⟨ht.t0, ?_⟩
    rcases h2 with h2 | h2
    ·exact .inl ⟨h2.1, h2.2.1, ht.h0.trans h2.2.2.1, h2.2.2.2⟩
    ·refine .inr ⟨h2.1, ?_, by simpa using h2.2.2⟩
     show aop cf xf base T H o.op = some (v, Hs 0, fp)
     rw [ht.h0]; exact h2.2.1
   | succ i =>
    simp at ho
    obtain ⟨k1, k2⟩ := ht.step i o' ho
    refine ⟨k1, ?_⟩
    rcases k2 with k2 | k2
    ·exact .inl k2
    ·refine .inr ⟨k2.1, k2.2.1, ?_⟩
     have : log ++ [fp] ++ (List.range i).map fps = log ++ (List.range (i + 1)).map (fun | 0 => fp | i + 1 => fps i) := by
      rw [Vm, Aw, Ha, Cf]
      rfl
     rw [← this]
     exact k2.2.2
  simp only [aops] at h
  split at h
  ·simp at h
  ·rename_i hw
   exact key .undef H .z h (.inl ⟨hw, rfl, rfl, rfl⟩)
  ·rename_i hw
   split at h
   ·simp at h
   ·rename_i v H1 fp hop
    split at h
    ·rename_i hlog
     exact key v H1 fp h (.inr ⟨hw, hop, hlog⟩)
    ·simp at h
def NC (a b : FP) : Prop := (a.rd = [] ∧ a.wr = [] ∧ a.top = false) ∨ (b.rd = [] ∧ b.wr = [] ∧ b.top = false) ∨ (a.wr = [] ∧ b.wr = [] ∧ a.top = false ∧ b.top = false) ∨ a.apart b = true
def FP.writes (f : FP) (j : Nat) : Bool := f.top || f.wr.contains j
def FP.looks (f : FP) (j : Nat) : Bool := f.top || f.wr.contains j || f.rd.contains j
theorem NC.spec {a b : FP} (h : NC a b) (j : Nat) : ¬ (a.writes j = true ∧ b.looks j = true) ∧ ¬ (b.writes j = true ∧ a.looks j = true) := by
 unfold FP.writes FP.looks
 rcases h with ⟨h1, h2, h3⟩ | ⟨h1, h2, h3⟩ | ⟨h1, h2, h3, h4⟩ | h
 ·simp [h1, h2, h3]
 ·simp [h1, h2, h3]
 ·simp [h1, h2, h3, h4]
 ·simp only [FP.apart, Cl, Vl, Hb] at h
  obtain ⟨⟨⟨h1, h2⟩, h3⟩, h4⟩ := h
  simp only [h1, h2, Azi, Ow, List.contains_iff_mem]
  constructor
  ·rintro ⟨k1, k2⟩
   have := h3 j k1
   simp at this
   rcases k2 with k2 | k2
   ·exact this.2 k2
   ·exact this.1 k2
  ·rintro ⟨k1, k2⟩
   rcases k2 with k2 | k2
   ·have := h3 j k2
    simp at this
    exact this.2 k1
   ·have := h4 j k1
    simp at this
    exact this k2
theorem Apr {cf : Dk} {xf : ExtF} {base : Nat} {T : Tmps} {H H' : Heap} {op : SOp} {v : AV} {fp : FP} (hl : laid op = true) (h : aop cf xf base T H op = some (v, H', fp)) :
  (cls op = 0 → fp.rd = [] ∧ fp.wr = [] ∧ fp.top = false) ∧ (cls op = 1 → fp.wr = [] ∧ fp.top = false) := by
 by_cases hq : vB op = true
 ·rw [zC hq] at h
  have hz : fp = .z := by
   cases hx : (aop cf xf base T Heap.none op).map (·.1) with
   | none => rw [hx] at h; simp at h
   | some u => rw [hx] at h; simp [rv] at h; exact h.2.2.symm
  subst hz
  exact ⟨fun _ => ⟨rfl, rfl, rfl⟩, fun _ => ⟨rfl, rfl⟩⟩
 ·have one : ∀ {m : Mode} {f : Nat} {args : List AV}, (m matches .pure | .ext) = true → Hj cf xf base m f args H = some (v, H', fp) → fp.wr = [] ∧ fp.top = false := by
   intro m f args hm h
   cases m with
   | pure =>
    simp only [Hj] at h
    cases e1 : cf f 0 (args.map (fz false deep H)) Heap.none with
    | none => simp [e1] at h
    | some p => simp [e1] at h; obtain ⟨_, _, rfl⟩ := h; exact ⟨rfl, rfl⟩
   | ext =>
    simp only [Hj] at h
    cases e1 : xf f (args.map (fz false deep H)) with
    | none => simp [e1] at h
    | some p => simp [e1] at h; obtain ⟨_, _, rfl⟩ := h; exact ⟨rfl, rfl⟩
   | _ => simp at hm
  refine ⟨fun hc => ?_, fun hc => ?_⟩
  ·exfalso
   cases op <;> first
    | (simp [vB] at hq; done)
    | (simp [cls] at hc; done)
    | (simp [laid] at hl; done)
    | (rename_i m _ _; cases m <;> simp [cls] at hc)
  ·cases op
   case call m f args =>
    simp only [aop] at h
    cases m <;> simp [cls] at hc
    ·exact one (by rfl) h
    ·exact one (by rfl) h
   case callv m x args =>
    simp only [aop] at h
    split at h
    ·cases m <;> simp [cls] at hc
     ·exact one (by rfl) h
     ·exact one (by rfl) h
    ·simp at h
   case lookup z m k ok =>
    simp only [aop] at h
    split at h
    ·rename_i j g n hq1 hq2
     cases hes : H.mapAt j g with
     | none => simp [hes] at h
     | some es => simp [hes] at h; obtain ⟨_, _, rfl⟩ := h; exact ⟨rfl, rfl⟩
    ·simp at h
   case maplen m =>
    simp only [aop] at h
    split at h
    ·rename_i j g hq1
     cases hes : H.mapAt j g with
     | none => simp [hes] at h
     | some es => simp [hes] at h; obtain ⟨_, _, rfl⟩ := h; exact ⟨rfl, rfl⟩
    ·simp at h
   case load k agg x =>
    simp only [aop] at h
    (repeat' split at h) <;> simp [rv, FP.z] at h <;> obtain ⟨_, _, rfl⟩ := h <;> exact ⟨rfl, rfl⟩
   case slice s x lo hi mx =>
    simp only [aop] at h
    cases e1 : Fu T lo with
    | none => simp [e1] at h
    | some l =>
    cases e2 : Fu T hi with
    | none => simp [e1, e2] at h
    | some hh =>
    cases e3 : Fu T mx with
    | none => simp [e1, e2, e3] at h
    | some m =>
    simp only [e1, e2, e3, Ad, Ab, eR] at h
    (repeat' split at h) <;> simp [rv, FP.z] at h <;> obtain ⟨_, _, rfl⟩ := h <;> exact ⟨rfl, rfl⟩
   case iaddr s x i =>
    simp only [aop] at h
    cases e1 : Fz (i.ev T) with
    | none => simp [e1] at h
    | some i0 =>
     simp only [e1, Ad, Ab] at h
     split at h
     ·rename_i j g ver s' off len cap hq
      cases hes : H.row j g ver s' with
      | none => simp [hes] at h
      | some es =>
       simp only [hes, Ab] at h
       split at h
       ·simp at h; obtain ⟨_, _, rfl⟩ := h; exact ⟨rfl, rfl⟩
       ·simp at h
     ·(repeat' split at h) <;> simp [rv, FP.z] at h <;> obtain ⟨_, _, rfl⟩ := h <;> exact ⟨rfl, rfl⟩
     ·simp at h
   case b2s x =>
    simp only [aop] at h
    split at h
    ·simp at h
    ·cases e1 : Cy H 1 (x.ev T) with
     | none => simp [e1] at h
     | some p =>
      obtain ⟨ys, js⟩ := p
      simp only [e1, Ad, Ab] at h
      cases e2 : Rh ys with
      | none => simp [e2] at h
      | some bs => simp [e2] at h; obtain ⟨_, _, rfl⟩ := h; exact ⟨rfl, rfl⟩
   all_goals first
    | (simp [vB] at hq; done)
    | (simp [cls] at hc; done)
    | (simp [laid] at hl; done)
end Go.AI
namespace Go.AI
section perm
variable {cf : Dk} {xf : ExtF} {base : Nat} {l : List SOper} {T T' : Tmps} {H H' : Heap} {Ts : Nat → Tmps} {Hs : Nat → Heap} {vs : Nat → AV} {fps : Nat → FP}
 {bef : Nat → List Nat}
def Us (l : List SOper) (k : Nat) : Option Nat := (l[k]?).bind (·.dst)
structure Checked (l : List SOper) (bef : Nat → List Nat) : Prop where
 laid : ∀ (i : Nat) (o : SOper), l[i]? = some o → AI.laid o.op = true
 pair : ∀ (k i : Nat) (x y : SOper), k < i → l[k]? = some x → l[i]? = some y → k ∈ bef i ∨ (Ou x y = true ∧ (fM x.op y.op = true → k ∈ y.un))
def TD (l : List SOper) (vs : Nat → AV) (T : Tmps) (D : Nat → Bool) : Tmps := fun t => Py (fun k => D k && Us l k == some t) vs (T t) l.length
def HD (l : List SOper) (Hs : Nat → Heap) (fps : Nat → FP) (H : Heap) (D : Nat → Bool) : Heap := fun j => Py (fun k => D k && (fps k).writes j) (fun k => Hs (k + 1) j) (H j) l.length
variable (ht : Trace cf xf base l T H T' H' Ts Hs vs fps []) (hc : Checked l bef)
include ht
theorem Ajo (t : Nat) : ∀ i, i ≤ l.length → Ts i t = Py (fun k => Us l k == some t) vs (T t) i
 | 0, _ => by rw [ht.t0]; rfl
 | i + 1, h => by
  have ho : l[i]? = some l[i] := Aa (by omega)
  obtain ⟨h1, _⟩ := ht.step i _ ho
  rw [h1]
  simp only [Py, Us, ho, Ab]
  cases hd : l[i].dst with
  | none => simp only [Tmps.put]; rw [Ajo t i (by omega)]; rfl
  | some d =>
   simp only [Tmps.put, Tmps.upd_eq]
   by_cases hdt : t = d
   ·subst hdt; simp
   ·rw [if_neg hdt, Ajo t i (by omega)]
    have : (some d == some t) = false := by simpa using (Ne.symm hdt)
    rw [this]; rfl
include hc
theorem Anw (j : Nat) : ∀ i, i ≤ l.length → Hs i j = Py (fun k => (fps k).writes j) (fun k => Hs (k + 1) j) (H j) i
 | 0, _ => by rw [ht.h0]; rfl
 | i + 1, h => by
  have ho : l[i]? = some l[i] := Aa (by omega)
  obtain ⟨_, h2⟩ := ht.step i _ ho
  simp only [Py]
  split
  ·rfl
  ·rename_i hw
   simp only [FP.writes, Ow, List.contains_iff_mem, not_or, nP] at hw
   rw [← Anw j i (by omega)]
   rcases h2 with ⟨_, _, h3, _⟩ | ⟨_, h3, _⟩
   ·rw [h3]
   ·exact (wD (hc.laid i _ ho) h3 hw.1).1 j hw.2
omit ht hc in
theorem Aax (op : SOp) : cls op = 0 ∨ cls op = 1 ∨ cls op = 2 := by
 cases op
 case call m _ _ => cases m <;> simp [cls]
 case callv m _ _ => cases m <;> simp [cls]
 all_goals simp [cls]
theorem nc {k i : Nat} {x y : SOper} (hki : k < i) (hx : l[k]? = some x) (hy : l[i]? = some y) (hb : k ∉ bef i) : NC (fps k) (fps i) ∧ Ou x y = true := by
 obtain ⟨h1, h2⟩ := (hc.pair k i x y hki hx hy).resolve_left hb
 refine ⟨?_, h1⟩
 obtain ⟨_, s1⟩ := ht.step k x hx
 obtain ⟨_, s2⟩ := ht.step i y hy
 rcases s1 with ⟨_, _, _, e1⟩ | ⟨_, e1, _⟩
 ·exact .inl (by rw [e1]; exact ⟨rfl, rfl, rfl⟩)
 rcases s2 with ⟨_, _, _, e2⟩ | ⟨_, e2, e3⟩
 ·exact .inr (.inl (by rw [e2]; exact ⟨rfl, rfl, rfl⟩))
 have c1 := Apr (hc.laid k x hx) e1
 have c2 := Apr (hc.laid i y hy) e2
 by_cases hw : fM x.op y.op = true
 ·have hu := h2 hw
  simp only [Bn, Dd, Hb] at e3
  have := e3 k hu
  rw [Bp, List.getElem?_range hki] at this
  exact .inr (.inr (.inr this))
 ·simp only [fM, Cl, Ow, bne_iff_ne, beq_iff_eq, Dl, not_and, not_or] at hw
  rcases Aax x.op with a1 | a1 | a1
  ·exact .inl (c1.1 a1)
  ·rcases Aax y.op with a2 | a2 | a2
   ·exact .inr (.inl (c2.1 a2))
   ·exact .inr (.inr (.inl ⟨(c1.2 a1).1, (c2.2 a2).1, (c1.2 a1).2, (c2.2 a2).2⟩))
   ·simp [a1, a2] at hw
  ·rcases Aax y.op with a2 | a2 | a2
   ·exact .inr (.inl (c2.1 a2))
   ·simp [a1, a2] at hw
   ·simp [a1, a2] at hw
theorem Akl {D : Nat → Bool} {i : Nat} {o : SOper} (ho : l[i]? = some o) (hi : D i = false) (hup : ∀ k ∈ bef i, D k = true) (hcl : ∀ m, D m = true → m < l.length → ∀ k ∈ bef m, D k = true)
  {D' : Nat → Bool} (hD' : ∀ k, D' k = (D k || k == i)) :
  TD l vs T D' = (TD l vs T D).put o.dst (vs i) ∧
   ((Aj (TD l vs T D) o.guard = some false ∧ vs i = .undef ∧ HD l Hs fps H D' = HD l Hs fps H D) ∨
    (Aj (TD l vs T D) o.guard = some true ∧ aop cf xf base (TD l vs T D) (HD l Hs fps H D) o.op = some (vs i, HD l Hs fps H D', fps i))) := by
 have hil : i < l.length := (Em.1 ho).1
 have hlater : ∀ k, i < k → k < l.length → D k = true → NC (fps i) (fps k) ∧ ∀ y, l[k]? = some y → Ou o y = true := by
  intro k h1 h2 h3
  have hk : l[k]? = some l[k] := Aa h2
  have hb : i ∉ bef k := fun hb => by have := hcl k h3 h2 i hb; rw [hi] at this; simp at this
  have := nc ht hc h1 ho hk hb
  refine ⟨this.1, fun y hy => ?_⟩
  rw [hk] at hy; cases hy
  exact this.2
 have hearlier : ∀ k, k < i → D k = false → NC (fps k) (fps i) ∧ ∀ x, l[k]? = some x → Ou x o = true := by
  intro k h1 h3
  have hk : l[k]? = some l[k] := Aa (by omega)
  have hb : k ∉ bef i := fun hb => by have := hup k hb; rw [h3] at this; simp at this
  have := nc ht hc h1 hk ho hb
  refine ⟨this.1, fun x hx => ?_⟩
  rw [hk] at hx; cases hx
  exact this.2
 have hread : ∀ t ∈ pQ o, TD l vs T D t = Ts i t := by
  intro t htr
  rw [Ajo ht t i (by omega)]
  unfold TD
  have e1 : Py (fun k => D k && Us l k == some t) vs (T t) l.length = Py (fun k => decide (k < i) && Us l k == some t) vs (T t) l.length := by
   refine Kl fun k hk => ?_
   by_cases hd : Us l k = some t
   ·have hdb : (Us l k == some t) = true := by simpa using hd
    rw [hdb, Yu, Yu]
    have hkk : l[k]? = some l[k] := Aa hk
    have hdk : l[k].dst = some t := by simpa [Us, hkk] using hd
    rcases Nat.lt_trichotomy k i with h1 | h1 | h1
    ·cases hDk : D k with
     | true => simp [h1]
     | false =>
      have := (hearlier k h1 hDk).2 _ hkk
      simp [Ou, hdk, htr] at this
    ·subst h1; simp [hi]
    ·cases hDk : D k with
     | false => simp; omega
     | true =>
      have := (hlater k h1 hk hDk).2 _ hkk
      simp [Ou, hdk, htr] at this
   ·have hdb : (Us l k == some t) = false := by simpa using hd
    rw [hdb, Vn, Vn]
  rw [e1, Od (i := i) (by omega) fun k h1 _ => by simp; omega]
  exact Kl fun k hk => by simp [hk]
 have hlook : ∀ j, (fps i).looks j = true → HD l Hs fps H D j = Hs i j := by
  intro j hj
  rw [Anw ht hc j i (by omega)]
  unfold HD
  have e1 : Py (fun k => D k && (fps k).writes j) (fun k => Hs (k + 1) j) (H j) l.length = Py (fun k => decide (k < i) && (fps k).writes j) (fun k => Hs (k + 1) j) (H j) l.length := by
   refine Kl fun k hk => ?_
   cases hw : (fps k).writes j with
   | false => simp
   | true =>
    rw [Yu, Yu]
    rcases Nat.lt_trichotomy k i with h1 | h1 | h1
    ·cases hDk : D k with
     | true => simp [h1]
     | false => exact absurd ⟨hw, hj⟩ ((hearlier k h1 hDk).1.spec j).1
    ·subst h1; simp [hi]
    ·cases hDk : D k with
     | false => simp; omega
     | true => exact absurd ⟨hw, hj⟩ ((hlater k h1 hk hDk).1.spec j).2
  rw [e1, Od (i := i) (by omega) fun k h1 _ => by simp; omega]
  exact Kl fun k hk => by simp [hk]
 have hTD : TD l vs T D' = (TD l vs T D).put o.dst (vs i) := by
  funext t
  have hput : (TD l vs T D).put o.dst (vs i) t = if o.dst = some t then vs i else TD l vs T D t := by
   cases hd : o.dst with
   | none => simp [Tmps.put]
   | some d =>
    simp only [Tmps.put, Tmps.upd_eq, Ag]
    by_cases h : t = d
    ·subst h; simp
    ·rw [if_neg h, if_neg (Ne.symm h)]
  rw [hput]
  by_cases hd : o.dst = some t
  ·rw [if_pos hd]
   unfold TD
   rw [Od (i := i + 1) (by omega) fun k h1 h2 => ?_]
   ·have : (D' i && Us l i == some t) = true := by simp [hD', Us, ho, hd]
    simp only [Py, this, if_true]
   ·refine jA.2 fun hne => ?_
    simp only [Cl, beq_iff_eq] at hne
    obtain ⟨n1, n2⟩ := hne
    rw [hD'] at n1
    have hDk : D k = true := by
     have : (k == i) = false := by simp; omega
     simpa [this] using n1
    have hkk : l[k]? = some l[k] := Aa h2
    have hdk : l[k].dst = some t := by simpa [Us, hkk] using n2
    have := (hlater k (by omega) h2 hDk).2 _ hkk
    simp [Ou, hd, hdk] at this
  ·rw [if_neg hd]
   unfold TD
   refine Kl fun k hk => ?_
   rw [hD']
   by_cases hki : k = i
   ·subst hki
    have : (Us l k == some t) = false := by simp [Us, ho, hd]
    rw [this, Vn, Vn]
   ·have : (k == i) = false := by simpa using hki
    rw [this, lM]
 have hHD : ∀ j, HD l Hs fps H D' j = if (fps i).writes j = true then Hs (i + 1) j else HD l Hs fps H D j := by
  intro j
  by_cases hw : (fps i).writes j = true
  ·rw [if_pos hw]
   unfold HD
   rw [Od (i := i + 1) (by omega) fun k h1 h2 => ?_]
   ·have : (D' i && (fps i).writes j) = true := by simp [hD', hw]
    simp only [Py, this, if_true]
   ·refine jA.2 fun hne => ?_
    simp only [Cl] at hne
    obtain ⟨n1, n2⟩ := hne
    rw [hD'] at n1
    have hDk : D k = true := by
     have : (k == i) = false := by simp; omega
     simpa [this] using n1
    have hl : (fps i).looks j = true := by
     unfold FP.writes at hw; unfold FP.looks; simp only [Ow] at hw ⊢; exact .inl hw
    exact ((hlater k (by omega) h2 hDk).1.spec j).2 ⟨n2, hl⟩
  ·rw [if_neg hw]
   unfold HD
   refine Kl fun k hk => ?_
   rw [hD']
   by_cases hki : k = i
   ·subst hki
    have : (fps k).writes j = false := by simpa using hw
    rw [this, Vn, Vn]
   ·have : (k == i) = false := by simpa using hki
    rw [this, lM]
 refine ⟨hTD, ?_⟩
 have hg : Aj (TD l vs T D) o.guard = Aj (Ts i) o.guard := by
  cases hgu : o.guard with
  | none => rfl
  | some g =>
   obtain ⟨t, b⟩ := g
   have := hread t (by simp [pQ, hgu])
   simp only [Aj, this]
 obtain ⟨_, hs⟩ := ht.step i o ho
 rcases hs with ⟨s1, s2, s3, s4⟩ | ⟨s1, s2, _⟩
 ·refine .inl ⟨hg.trans s1, s2, ?_⟩
  funext j
  rw [hHD j, if_neg (by rw [s4]; simp [FP.z, FP.writes])]
 ·refine .inr ⟨hg.trans s1, ?_⟩
  rw [Alz cf xf base (T := Ts i) (T2 := TD l vs T D) (HD l Hs fps H D) (fun x hx => ?_)]
  ·cases htop : (fps i).top with
   | true =>
    have e1 : HD l Hs fps H D = Hs i := funext fun j => hlook j (by simp [FP.looks, htop])
    have e2 : HD l Hs fps H D' = Hs (i + 1) := funext fun j => by rw [hHD j, if_pos (by simp [FP.writes, htop])]
    rw [e1, e2]; exact s2
   | false =>
    obtain ⟨_, k2⟩ := wD (hc.laid i o ho) s2 htop
    obtain ⟨H2', m1, m2, m3⟩ := k2 (HD l Hs fps H D) (fun j hj => hlook j (by simp [FP.looks, htop]; rcases hj with h | h <;> simp [h]))
    have : HD l Hs fps H D' = H2' := by
     funext j
     rw [hHD j]
     by_cases hw : j ∈ (fps i).wr
     ·rw [if_pos (by simp [FP.writes, hw]), m2 j hw]
     ·rw [if_neg (by simp [FP.writes, htop, hw]), m3 j hw]
    rw [this]; exact m1
  ·cases x with
   | c v => rfl
   | t n => exact hread n (by simp only [pQ, Bi, List.mem_filterMap]; exact .inl ⟨_, hx, rfl⟩)
end perm
end Go.AI
