/- Lemmas. -/
import Derived.Test.YtkaiiopoilpjeaaMA
import Derived.Laws.BytesString
import Derived.Great.BuildSlice
import Derived.Laws.Append
set_option linter.unusedSimpArgs false
set_option linter.unusedVariables false
namespace Go.AI
def Es (w : World) (b : Nat) (x : Obj) : World := { w with heap := w.heap.modify b (fun _ => x) }
theorem Xw {α : Type} (l vs : List α) (k : Nat) (v : α) (h : k + vs.length < l.length) :
  (l.set k v).take (k + 1) ++ vs ++ (l.set k v).drop (k + 1 + vs.length) = l.take k ++ (v :: vs) ++ l.drop (k + (vs.length + 1)) := by
 rw [List.set_eq_take_append_cons_drop, if_pos (by omega)]
 have e1 : (l.take k ++ v :: l.drop (k + 1)).take (k + 1) = l.take k ++ [v] := by
  rw [List.take_append]
  have : (l.take k).length = k := by simp; omega
  rw [this, Aj (by omega), Nat.add_sub_cancel_left]
  simp
 have e2 : (l.take k ++ v :: l.drop (k + 1)).drop (k + 1 + vs.length) = l.drop (k + (vs.length + 1)) := by
  rw [Ii]
  have : (l.take k).length = k := by simp; omega
  rw [this, Bm (by omega), show k + 1 + vs.length - k = vs.length + 1 by omega]
  simp [pG]
  congr 1; omega
 rw [e1, e2]
 simp
section ops
variable {P : Program} {o : Oper} {a : Act} {C : Ctx} {n : Nat} {T : Tmps} {cf : Cx} {xf : ExtF} {base : Nat} {v : AV} {H' : Heap} {fp : FP}
theorem jP {α : Type} (h : Array α) (b : Nat) (x y : α) : (h.modify b (fun _ => x)).modify b (fun _ => y) = h.modify b (fun _ => y) := by
 apply Array.ext
 ·simp
 ·intro i h1 h2
  simp only [Sq]
  split <;> simp_all
theorem rE {α : Type} (h : Array α) (b : Nat) (x : α) (hx : h[b]? = some x) : h.modify b (fun _ => x) = h := by
 apply Array.ext
 ·simp
 ·intro i h1 h2
  simp only [Sq]
  split
  ·rename_i e; subst e
   obtain ⟨_, h3⟩ := Fe.1 hx
   exact h3.symm
  ·rfl
theorem Gm {b off : Nat} {el : TypeId} {fz : Nat × Nat} : ∀ (vs : List Value) (i : Nat) (c : Array Value) (w : World), w.heap[b]? = some (.cells c el fz) → unfrozen fz c.size →
  off + i + vs.length ≤ c.size → (∀ u ∈ vs, u.oneCell' = true) →
  (storeCells ⟨b, off, none⟩ vs i).run P w = .ok () (Es w b (.cells (c.toList.take (off + i) ++ vs ++ c.toList.drop (off + i + vs.length)).toArray el fz))
 | [], i, c, w, hb, hf, hl, _ => by
  have e : (c.toList.take (off + i) ++ [] ++ c.toList.drop (off + i + ([] : List Value).length)).toArray = c := by simp
  rw [e]
  simp only [storeCells, Es, rE _ _ _ hb]
  rfl
 | u :: vs, i, c, w, hb, hf, hl, h1 => by
  simp only [As] at hl
  have hlt : off + i < c.size := by omega
  have hcell : w.cell? ⟨b, off + i, none⟩ = some c[off + i] := by simp [World.cell?, hb, hlt]
  have hfro : w.frozen? ⟨b, off + i, none⟩ = false := by
   simp only [World.frozen?, hb]
   have := hf.not hlt
   simpa using this
  have hset : w.setCell ⟨b, off + i, none⟩ u = Es w b (.cells (c.setIfInBounds (off + i) u) el fz) := by
   unfold World.setCell Es
   congr 1
   apply Array.ext
   ·simp
   ·intro k k1 k2
    simp only [Sq]
    split
    ·rename_i e
     subst e
     obtain ⟨_, h3⟩ := Fe.1 hb
     rw [h3]; simp
    ·rfl
  have hst : (store ((⟨b, off, none⟩ : Addr).add i) u).run P w = .ok () (Es w b (.cells (c.setIfInBounds (off + i) u) el fz)) := by
   rw [Ls, run_store P w _ u _ (h1 u (by simp)), hcell]
   simp [hfro, hset]
  have hb' : (Es w b (.cells (c.setIfInBounds (off + i) u) el fz)).heap[b]? = some (.cells (c.setIfInBounds (off + i) u) el fz) := by
   simp [Es, Eu, hb]
  have ih := Gm (off := off) vs (i + 1) _ _ hb' (by simpa using hf) (by simp; omega) (fun x hx => h1 x (by simp [hx]))
  simp only [storeCells, Ku, hst, Gs, ih]
  congr 1
  unfold Es
  simp only [jP]
  congr 4
  have := Xw c.toList vs (off + i) u (by simp; omega)
  simp only [Array.toList_setIfInBounds, As]
  rw [show off + (i + 1) = off + i + 1 by omega, this, show off + i + (vs.length + 1) = off + i + (vs.length + 1) from rfl]
theorem Ig {r t : Bool} {e : AV} {u : Value} (hs : Dq e = true) (h : VR C r t e u) : VRL C r t e.cells u.cells.toList := by
 cases e with
 | agg cs =>
  simp only [VR] at h
  obtain ⟨vs, rfl, h⟩ := h
  exact h
 | junk => simp [Dq] at hs
 | undef => simp [Dq] at hs
 | tup l => simp [Dq] at hs
 | int k m => have hv := h; simp only [VR] at h; subst h; exact ⟨_, [], rfl, rfl, hv, rfl⟩
 | bool b => have hv := h; simp only [VR] at h; subst h; exact ⟨_, [], rfl, rfl, hv, rfl⟩
 | str b => have hv := h; simp only [VR] at h; subst h; exact ⟨_, [], rfl, rfl, hv, rfl⟩
 | nilp => have hv := h; simp only [VR] at h; subst h; exact ⟨_, [], rfl, rfl, hv, rfl⟩
 | nilf => have hv := h; simp only [VR] at h; subst h; exact ⟨_, [], rfl, rfl, hv, rfl⟩
 | ptr j g ver s i off => have hv := h; simp only [VR] at h; obtain ⟨_, _, ad, rfl, _⟩ := h; exact ⟨_, [], rfl, rfl, hv, rfl⟩
 | iptr tt cs => have hv := h; simp only [VR] at h; obtain ⟨_, b, off, vs, rfl, _⟩ := h; exact ⟨_, [], rfl, rfl, hv, rfl⟩
 | slc j g ver s off len cap => have hv := h; simp only [VR] at h; obtain ⟨_, _, ad, cap', rfl, _⟩ := h; exact ⟨_, [], rfl, rfl, hv, rfl⟩
 | islc tt full s es => have hv := h; simp only [VR] at h; obtain ⟨_, ad, cap', rfl, _⟩ := h; exact ⟨_, [], rfl, rfl, hv, rfl⟩
 | fn f cs => have hv := h; simp only [VR] at h; obtain ⟨vs, rfl, _⟩ := h; exact ⟨_, [], rfl, rfl, hv, rfl⟩
 | mp j g => have hv := h; simp only [VR] at h; obtain ⟨_, _, b, rfl, _⟩ := h; exact ⟨_, [], rfl, rfl, hv, rfl⟩
theorem wN {r t : Bool} {s : Nat} {e : AV} {u : Value} (hs : Dq e = true) (hl : e.cells.length = s) (h : VR C r t e u) : EL C r t s e u.cells.toList := ⟨hl, Ig hs h⟩
theorem gF {C' : Ctx} {j s g : Nat} {es : List AV} {b : Nat} {c : Array Value} {el : TypeId} {fz : Nat × Nat} {cap' len : Nat} (hH : C'.H j = ⟨g, false, .row s es⟩) (hμ : C'.μ j = b)
  (hb : C'.w.heap[b]? = some (.cells c el fz)) (hc : cap' * s ≤ c.size) (hl : es.length ≤ cap') (hlen : len ≤ cap') (h0 : es.length = 0 → cap' = 0) {r : Bool} (hr : r = true) {t : Bool} :
  VR C' r t (.slc j g es.length s 0 len none) (.slice (some ⟨b, 0, none⟩) len cap') := by
 simp only [VR]
 refine ⟨hr, ⟨by rw [hH]; exact Ao _, fun _ s' es' hs => ?_⟩, _, cap', rfl, hlen, fun es' hes => ⟨h0, by simpa using hl, fun ho hc0 => ⟨by simp [hμ], el, c.size, ?_, by simpa using hc⟩⟩⟩
 ·rw [hH] at hs; cases hs; exact Ao _
 ·rw [hμ]; simp [World.shape?, hb]
theorem Aao {e : TypeId} {sx : SArg} {site : Nat} {x' : Value} (hrun : ∀ w, (execOp a.eval o).run P w = .ok (.value (.pointer (some ⟨w.heap.size, 0, none⟩))) (w.alloc (.cells x'.cells e)))
  (hx : VR C true true (sx.ev T) x') (hR : Rel C)
  (h : aop cf xf base T C.H (.box site sx) = some (v, H', fp)) : Dd P o a C v H' := by
 simp only [aop] at h
 split at h
 ·simp at h
 ·rename_i hst
  simp at hst
  simp only [Ae, Ah] at h
  obtain ⟨rfl, rfl, _⟩ := h
  have hcs := Ig hst hx
  have hl := VRL.length hcs
  have hlx : x'.cells.size = (SArg.ev T sx).cells.length := by simpa using hl
  obtain ⟨hE, hR'⟩ := Ms hR (base + site) (SArg.ev T sx).cells.length [SArg.ev T sx] x'.cells e (0, 0) (.inl rfl) (by simp [hlx])
   (by
    have := Xp (wN (C := C) (s := (SArg.ev T sx).cells.length) hst rfl hx)
    rwa [Aj (by simp [hlx])])
  refine ⟨_, _, _, .inl (hrun C.w), hE, hR', ?_⟩
  simp only [VR]
  refine ⟨trivial, ⟨by simp [Heap.newRow], fun _ s es hs => ?_⟩, _, rfl, fun es _ _ => by simp⟩
  simp [Heap.newRow] at hs
  obtain ⟨_, rfl⟩ := hs
  simp
theorem vU {e : TypeId} {sx : SArg} {site : Nat} {x' : Value} (hrun : ∀ w, (execOp a.eval o).run P w = .ok (.value (.pointer (some ⟨w.heap.size, 0, none⟩))) (w.alloc (.cells x'.cells e)))
  (hx : VR C true true (sx.ev T) x') (hR : Rel C)
  (h : aop cf xf base T C.H (.boxF site sx) = some (v, H', fp)) : Dd P o a C v H' := by
 simp only [aop] at h
 split at h
 ·simp at h
 ·rename_i hst
  simp at hst
  simp only [Ae, Ah] at h
  obtain ⟨rfl, rfl, _⟩ := h
  have hcs := Ig hst.1 hx
  have hl := VRL.length hcs
  have hlx : x'.cells.size = (SArg.ev T sx).cells.length := by simpa using hl
  obtain ⟨hE, hR'⟩ := Ms hR (base + site) 1 (SArg.ev T sx).cells x'.cells e (0, 0) (.inl rfl) (by simp [hlx])
   (by
    have := Zv hcs (Yl hcs)
    rwa [Aj (by simp [hlx])])
  refine ⟨_, _, _, .inl (hrun C.w), hE, hR', ?_⟩
  simp only [VR]
  refine ⟨trivial, ⟨by simp [Heap.newRow], fun _ s es hs => ?_⟩, _, rfl, fun es _ _ => by simp⟩
  simp [Heap.newRow] at hs
  obtain ⟨_, rfl⟩ := hs
  simp
theorem sL {e : TypeId} {x : Operand} {sx : SArg} {site : Nat} (ho : o.op = .box e x) (hR : Rel C) (hT : TR C n T a.tmps) (hx : sarg x = some sx)
  (h : aop cf xf base T C.H (.boxF site sx) = some (v, H', fp)) : Dd P o a C v H' :=
 vU (e := e) (x' := a.eval x) (fun w => by simp [execOp, ho, Instr.box, newVar, newRow]) (Ct hT hx) hR h
theorem jW {e : TypeId} {site : Nat} {z : AV} (ho : o.op = .alloc e) (hz : zeroOf? P e = some z) (hR : Rel C)
  (h : aop cf xf base T C.H (.boxF site (.c z)) = some (v, H', fp)) : Dd P o a C v H' := by
 unfold zeroOf? at hz
 cases hi : P.info? e with
 | none => simp [hi] at hz
 | some i =>
  cases hzz : i.zero with
  | none => simp [hi, hzz] at hz
  | some z' =>
   simp [hi, hzz] at hz
   refine vU (e := e) (x' := z') (sx := .c z) (fun w => ?_) (bS hz) hR h
   simp [execOp, ho, Instr.alloc, zeroValue, typeInfo, hi, hzz, newVar, newRow]
theorem uJ {e : TypeId} {x : Operand} {sx : SArg} {site : Nat} (ho : o.op = .box e x) (hR : Rel C) (hT : TR C n T a.tmps) (hx : sarg x = some sx)
  (h : aop cf xf base T C.H (.box site sx) = some (v, H', fp)) : Dd P o a C v H' :=
 Aao (e := e) (x' := a.eval x) (fun w => by simp [execOp, ho, Instr.box, newVar, newRow]) (Ct hT hx) hR h
theorem oM {e : TypeId} {site : Nat} {z : AV} (ho : o.op = .alloc e) (hz : zeroOf? P e = some z) (hR : Rel C)
  (h : aop cf xf base T C.H (.box site (.c z)) = some (v, H', fp)) : Dd P o a C v H' := by
 unfold zeroOf? at hz
 cases hi : P.info? e with
 | none => simp [hi] at hz
 | some i =>
  cases hzz : i.zero with
  | none => simp [hi, hzz] at hz
  | some z' =>
   simp [hi, hzz] at hz
   refine Aao (e := e) (x' := z') (sx := .c z) (fun w => ?_) (bS hz) hR h
   simp [execOp, ho, Instr.alloc, zeroValue, typeInfo, hi, hzz, newVar, newRow]
theorem Jg {e : TypeId} {s : Nat} {z : AV} (h : Fv P e = some (s, z)) :
  ∃ i z', P.info? e = some i ∧ i.zero = some z' ∧ cvt z' = some z ∧ i.size = s ∧ 0 < s ∧ 0 < i.bytes ∧ i.bytes ≤ 1024 ∧ z.cells.length = s ∧ z'.cells.size = s ∧ Dq z = true := by
 unfold Fv at h
 split at h
 ·rename_i i hi
  split at h
  ·rename_i z' hz
   split at h
   ·rename_i a' ha
    split at h
    ·rename_i hc
     simp at h
     obtain ⟨rfl, rfl⟩ := h
     exact ⟨i, z', hi, hz, ha, rfl, hc.1, hc.2.1, hc.2.2.1, hc.2.2.2.1, hc.2.2.2.2.1, hc.2.2.2.2.2⟩
    ·simp at h
   ·simp at h
  ·simp at h
 ·simp at h
theorem Hq {t e : TypeId} (h : elemOf? P t = some e) : P.underlying t = some (.slice e) := by
 unfold elemOf? at h
 split at h
 ·rename_i e' he; simp at h; subst h; exact he
 ·simp at h
theorem xT {x : Operand} {site s : Nat} (ho : o.op = .assign x) (hn : Mr x = true) (hR : Rel C)
  (h : aop cf xf base T C.H (.nilrow site s) = some (v, H', fp)) : Dd P o a C v H' := by
 simp only [aop, Ae, Ah] at h
 obtain ⟨rfl, rfl, _⟩ := h
 obtain ⟨hE, hR'⟩ := Aeb hR (base + site) s
 have hx : a.eval x = .slice none 0 0 := by
  unfold Mr at hn
  split at hn
  ·rfl
  ·simp at hn
 refine ⟨.slice none 0 0, C.μ, C.w, .inl (by simp [execOp, ho, hx]), hE, hR', ?_⟩
 simp only [VR]
 refine ⟨trivial, ⟨by simp [Heap.newRow], fun _ s' es hs => by simp⟩, none, 0, rfl, Ao _, fun es _ => ⟨fun _ => rfl, by simp, fun h => by simp at h⟩⟩
theorem bM {α : Type} [Inhabited α] (z : Array α) (k : Nat) (hk : z.size = k) : ∀ m, (List.range (m * k)).map (fun i => z[i % k]!) = (List.replicate m z.toList).flatten
 | 0 => by simp
 | m + 1 => by
  rw [Cp, Ady, List.range_add, Br, bM z k hk m, List.replicate_succ', List.flatten_append]
  congr 1
  simp only [Fh, List.flatten_singleton]
  apply List.ext_getElem
  ·simp [hk]
  ·intro i h1 h2
   simp at h1 h2
   simp [Nat.mod_eq_of_lt h1, hk, h1]
theorem wC {s m : Nat} {z : AV} {z' : Value} (h3 : cvt z' = some z) (hl : z.cells.length = s) (hs : z'.cells.size = s) (hst : Dq z = true) :
  CRL C true true s (List.replicate m z) ((Array.range (m * s)).map (z'.cells[· % z'.cells.size]!)).toList := by
 have := CRL.replicate (wN (C := C) (r := true) (t := true) hst hl (bS h3)) m
 rw [Array.toList_map, Array.toList_range, hs, bM _ _ hs]
 exact this
theorem Adb {t e : TypeId} {l c : Operand} {sl sc : SArg} {site s : Nat} {z : AV} (ho : o.op = .makeSlice t l c) (hu : elemOf? P t = some e) (hi : Fv P e = some (s, z)) (hR : Rel C) (hT : TR C n T a.tmps) (hl : sarg l = some sl) (hc : sarg c = some sc)
  (h : aop cf xf base T C.H (.mks site s z sl sc) = some (v, H', fp)) : Dd P o a C v H' := by
 obtain ⟨i, z', i1, i2, i3, i4, i5, i6, i7, i8, i9, i10⟩ := Jg hi
 have hl' := Ct hT hl
 have hc' := Ct hT hc
 simp only [aop] at h
 cases e1 : Fb (sl.ev T) with
 | none => simp [e1] at h
 | some l0 =>
 cases e2 : Fb (sc.ev T) with
 | none => simp [e1, e2] at h
 | some c0 =>
 obtain ⟨k1, hl'⟩ := Ot hl' e1
 obtain ⟨k2, hc'⟩ := Ot hc' e2
 simp only [e1, e2, Ac, Aa] at h
 split at h
 ·rename_i hcnd
  obtain ⟨b1, b2, _⟩ := hcnd
  simp only [Ae, Ah] at h
  obtain ⟨rfl, rfl, _⟩ := h
  unfold Gz at b2
  have hbytes : i.bytes * c0 ≤ 1024 * 68719476736 := pH i7 b2
  have hrun : (execOp a.eval o).run P C.w = .ok (.value (.slice (some ⟨C.w.heap.size, 0, none⟩) l0 c0)) (C.w.alloc (.cells ((Array.range (c0 * s)).map (z'.cells[· % z'.cells.size]!)) e)) := by
   have w1 : IntKind.i64.wrap (l0 : Int) = l0 := by simp [IntKind.wrap, IntKind.bits, IntKind.signed]; omega
   have w2 : IntKind.i64.wrap (c0 : Int) = c0 := by simp [IntKind.wrap, IntKind.bits, IntKind.signed]; omega
   have hb : ¬ ((i.bytes : Int) * (c0 : Int) > 2 ^ 48) := by
    have : ((i.bytes * c0 : Nat) : Int) ≤ ((1024 * 68719476736 : Nat) : Int) := Int.ofNat_le.2 hbytes
    simp at this ⊢; omega
   have hne : ¬ ((l0 : Int) > (c0 : Int)) := by omega
   by_cases hz : c0 = 0
   ·subst hz
    have : l0 = 0 := by omega
    subst this
    simp [execOp, ho, Instr.makeSlice, Am (Hq hu), hl', hc', asInt, asIntOf, typeInfo, i1, sizeOf, newRow, IntKind.wrap, IntKind.bits, IntKind.signed]
    congr 2
    rw [show Array.range 0 = #[] from rfl]; simp
   ·have hnz : c0 * i.size ≠ 0 := by
     rw [i4]; exact Nat.mul_ne_zero hz (by omega)
    simp [execOp, ho, Instr.makeSlice, Am (Hq hu), hl', hc', asInt, asIntOf, typeInfo, i1, sizeOf, newRow, w1, w2, zeroValue, i2, hne, hnz]
    rw [if_neg (by simp at hb; omega)]
    simp [i4]
  have hcr := wC (C := C) (m := c0) i3 i8 i9 i10
  obtain ⟨hE, hR'⟩ := Ms hR (base + site) s (List.replicate c0 z) ((Array.range (c0 * s)).map (z'.cells[· % z'.cells.size]!)) e (0, 0) (.inl rfl) (by simp)
   (by rw [Aj (by simp)]; exact hcr)
  refine ⟨_, _, _, .inl hrun, hE, hR', ?_⟩
  have := gF (C' := ⟨C.F, updN C.μ (base + site) C.w.heap.size, C.H.newRow (base + site) s (List.replicate c0 z), C.w.alloc (.cells ((Array.range (c0 * s)).map (z'.cells[· % z'.cells.size]!)) e)⟩)
   (j := base + site) (es := List.replicate c0 z) (s := s) (g := (C.H (base + site)).gen + 1) (cap' := c0) (len := l0) (by simp [Heap.newRow]) (by simp) (Gj _ _) (by simp) (by simp) b1 (by simp) (r := true) rfl (t := true)
  simpa using this
 ·simp at h
theorem Afj {t e : TypeId} {l c : Operand} {sl sc : SArg} {site s : Nat} {z : AV} (ho : o.op = .makeSlice t l c) (hu : elemOf? P t = some e) (hi : Fv P e = some (s, z)) (hR : Rel C) (hT : TR C n T a.tmps) (hl : sarg l = some sl) (hc : sarg c = some sc)
  (h : aop cf xf base T C.H (.mksN site s z sl sc) = some (v, H', fp)) : Dd P o a C v H' := by
 have h2 : ∃ fp', aop cf xf 0 T C.H (.mks (Im C.H (base + site) many) s z sl sc) = some (v, H', fp') := by
  simp only [aop] at h ⊢
  cases e1 : Fb (sl.ev T) with
  | none => simp [e1] at h
  | some l0 =>
  cases e2 : Fb (sc.ev T) with
  | none => simp [e1, e2] at h
  | some c0 =>
  simp only [e1, e2, Ac, Aa, Da] at h ⊢
  split at h
  ·rename_i hcnd
   rw [if_pos hcnd]
   simp only [Ae, Ah] at h
   obtain ⟨rfl, rfl, _⟩ := h
   exact ⟨_, rfl⟩
  ·simp at h
 obtain ⟨fp', h3⟩ := h2
 exact Adb ho hu hi hR hT hl hc h3
theorem bA {r t : Bool} : ∀ l : List UInt8, CRL C r t 1 (l.map fun c => AV.int .u8 c.toNat) (l.map fun c => Value.int .u8 c.toNat)
 | [] => rfl
 | c :: l => by
  simp only [Bc, CRL]
  refine ⟨⟨rfl, by simp, .int .u8 c.toNat, by simp [VR], by simp [Value.cells], by simp [Value.oneCell']⟩, by simpa using bA l⟩
theorem Xe {x : AV} {x' : Value} {s : Nat} {es : List AV} {js : List Nat} (hR : Rel C) (hx : VR C true true x x') (h : Ch C.H s x = some (es, js)) :
  (∃ ad cap vs, x' = .slice ad es.length cap ∧ CRL C true true s es vs ∧ (es ≠ [] → ∃ b off, ad = some ⟨b, off, none⟩ ∧ rowAt C.w b off vs)) ∨
  (∃ b, x' = .string b ∧ s = 1 ∧ es = b.data.toList.map fun c => .int .u8 c.toNat) := by
 unfold Ch at h
 split at h
 ·rename_i tt full s' es0
  split at h
  ·rename_i hc
   simp at h
   obtain ⟨rfl, rfl⟩ := h
   simp only [VR] at hx
   obtain ⟨htt, ad, cap', rfl, h1, h2, h3⟩ := hx
   left
   by_cases hne : es0 = []
   ·subst hne
    exact ⟨ad, cap', [], rfl, rfl, fun h => absurd rfl h⟩
   ·have hs : s' = s := hc.elim (fun h0 => absurd (isNil_iff.1 h0) hne) id
    subst hs
    obtain ⟨b, off, vs, rfl, k1, k2, k3⟩ := h3 hne
    exact ⟨_, cap', vs, rfl, CRL.weak (by simp) (by simp) k3, fun _ => ⟨b, off, rfl, k2⟩⟩
  ·simp at h
 ·rename_i j g ver s' off len cap
  split at h
  ·rename_i es0 hes
   split at h
   ·rename_i hc
    obtain ⟨rfl, hle⟩ := hc
    simp at h
    obtain ⟨rfl, rfl⟩ := h
    simp only [VR] at hx
    obtain ⟨_, _, ad, cap', rfl, hcap, hk⟩ := hx
    obtain ⟨k1, k2, k3⟩ := hk es0 hes
    have hes' := row_some.1 hes
    have hlen : ((es0.drop off).take len).length = len := by simp; omega
    left
    rw [hlen]
    by_cases hne : es0 = []
    ·subst hne
     exact ⟨ad, cap', [], rfl, by simp [CRL], fun h => by simp at h⟩
    ·obtain ⟨_, c, el, fz, hobj, hok⟩ := hR.mem hes'.2.1 hne
     refine ⟨ad, cap', _, rfl, (hok.cells.drop off).take len, fun hne' => ?_⟩
     have hl : 0 < len := by rw [← hlen]; exact Fp.2 hne'
     obtain ⟨k4, _⟩ := k3 (by omega) (by omega)
     refine ⟨C.μ j, off * s', k4, ?_⟩
     have := ((Hv (w := C.w) hobj (es0.length * s')).drop (off * s')).take (len * s')
     simpa using this
   ·simp at h
  ·simp at h
 ·rename_i b
  split at h
  ·rename_i hs
   simp at h
   obtain ⟨rfl, rfl⟩ := h
   simp only [VR] at hx
   exact .inr ⟨b, hx, hs, rfl⟩
  ·simp at h
 ·simp at h
theorem Aho {s d e : TypeId} {x : Operand} {sx : SArg} (ho : o.op = .convert s d x) (hs : P.underlying s = some (.slice e)) (hd : P.underlying d = some .string) (he : isU8 P e = true) (hR : Rel C) (hT : TR C n T a.tmps) (hx : sarg x = some sx)
  (h : aop cf xf base T C.H (.b2s sx) = some (v, H', fp)) : Dd P o a C v H' := by
 have hx' := Ct hT hx
 have he' : P.underlying e = some (.int .u8) := by
  unfold isU8 at he
  split at he
  ·assumption
  ·simp at he
 simp only [aop] at h
 split at h
 ·simp at h
 rename_i hnstr
 cases e1 : Ch C.H 1 (sx.ev T) with
 | none => simp [e1] at h
 | some p =>
  obtain ⟨es, js⟩ := p
  simp only [e1, Ac, Aa] at h
  cases e2 : Ng es with
  | none => simp [e2] at h
  | some bs =>
   simp only [e2, Aa, Ae, Ah] at h
   obtain ⟨rfl, rfl, _⟩ := h
   rcases Xe hR hx' e1 with ⟨ad, cap, vs, hv, hc, hm⟩ | ⟨b, hv, _, _⟩
   ·have hkey : ∀ {es : List AV} {vs : List Value} {bs : List UInt8}, CRL C true true 1 es vs → Ng es = some bs →
      ∃ ns : List Int, vs = ns.map (Value.int .u8) ∧ bs = ns.map (fun n => UInt8.ofNat n.toNat) := by
     intro es
     induction es with
     | nil => intro vs bs h1 h2; simp only [CRL] at h1; subst h1; simp [Ng] at h2; exact ⟨[], rfl, by simp [h2]⟩
     | cons e es ih =>
      intro vs bs h1 h2
      rw [Jd] at h1
      unfold Ng at h2
      split at h2
      ·rename_i h9; simp at h9
      ·rename_i m r h9
       simp only [List.cons.injEq] at h9
       obtain ⟨rfl, rfl⟩ := h9
       simp only [Al] at h2
       obtain ⟨bs', e3, rfl⟩ := h2
       obtain ⟨ns, k1, k2⟩ := ih h1.2 e3
       have h3 := h1.1.2
       simp only [AV.cells, VRL] at h3
       obtain ⟨u, vs', k3, _, k4, rfl⟩ := h3
       simp only [VR] at k4
       subst k4
       refine ⟨m :: ns, ?_, by simp [k2]⟩
       have := Iy 1 vs
       rw [k3, k1] at this
       rw [← this]; rfl
      ·simp at h2
    obtain ⟨ns, k1, k2⟩ := hkey hc e2
    have hfold : ∀ (ns : List Int) (s : ByteArray), ns.foldl (fun r n => r.push (UInt8.ofNat n.toNat)) s = ⟨s.data ++ (ns.map fun n => UInt8.ofNat n.toNat).toArray⟩ := by
     intro ns
     induction ns with
     | nil => intro s; simp
     | cons m ns ih =>
      intro s
      rw [Cz, ih]
      simp [ByteArray.push]
    refine Bk hR (v' := .string ⟨bs.toArray⟩) ?_ (by simp [VR])
    have hl := CRL.length hc
    by_cases hne : es = []
    ·subst hne
     simp only [CRL] at hc
     subst hc
     have : ns = [] := by simpa using k1.symm
     subst this
     simp at k2; subst k2
     cases ad with
     | none =>
      simp [execOp, ho, hv, run_convert_bytes_string C.w s d e none 0 cap hs he' hd, Conv.bytesToString]
      rfl
     | some ad =>
      have := run_bytesToString (P := P) C.w ad 0 cap [] (by simp [loadCells, loadCellsFrom])
      simp [execOp, ho, hv, run_convert_bytes_string C.w s d e (some ad) 0 cap hs he' hd, this]
      rfl
    ·obtain ⟨b, off, rfl, hrow⟩ := hm hne
     have hll : es.length = vs.length := by omega
     have := run_bytesToString (P := P) C.w ⟨b, off, none⟩ es.length cap ns (by rw [hll, Kx C.w hrow, k1])
     simp only [execOp, ho, hv, Ku, run_convert_bytes_string C.w s d e _ _ _ hs he' hd, this, Gs, zX, hfold, k2]
     show Result.ok (Next.value (Value.string ⟨#[] ++ _⟩)) C.w = _
     simp
   ·exfalso
    unfold Ch at e1
    split at e1
    ·rename_i hq; rw [hq] at hx'; simp only [VR] at hx'; obtain ⟨_, _, _, h9, _⟩ := hx'; rw [hv] at h9; cases h9
    ·rename_i hq; rw [hq] at hx'; simp only [VR] at hx'; obtain ⟨_, _, _, _, h9, _⟩ := hx'; rw [hv] at h9; cases h9
    ·rename_i hq; rw [hq] at hnstr; simp [uB] at hnstr
    ·simp at e1
end ops
end Go.AI
namespace Go.AI
theorem Tm {α : Type} (l u : List α) (A s off k N : Nat) (hu : u.length = k) (h1 : off + k ≤ s) (h2 : A + s ≤ N) (h3 : N ≤ l.length) :
  (l.take (A + off) ++ u ++ l.drop (A + off + k)).take N = (l.take N).take A ++ ((((l.take N).drop A).take s).take off ++ u ++ (((l.take N).drop A).take s).drop (off + k)) ++ (l.take N).drop (A + s) := by
 apply List.ext_getElem?
 intro m
 simp only [vS, List.getElem?_append, List.getElem?_drop, Ar, Cf, Ea, hu]
 have x1 : min (A + off) l.length = A + off := by omega
 have x2 : min A (min N l.length) = A := by omega
 have x3 : min off (min s (min N l.length - A)) = off := by omega
 have x4 : min s (min N l.length - A) - (off + k) = s - (off + k) := by omega
 simp only [x1, x2, x3, x4]
 by_cases c1 : m < A
 ·simp only [show m < N by omega, show m < A + off + k by omega, show m < A + off by omega, c1, if_true, show m < A + (off + k + (s - (off + k))) by omega]
 by_cases c2 : m < A + off
 ·simp only [show m < N by omega, show m < A + off + k by omega, c2, c1, if_true, Bx, show m < A + (off + k + (s - (off + k))) by omega, show m - A < off + k by omega, show m - A < off by omega, show m - A < s by omega, show A + (m - A) = m by omega]
 by_cases c3 : m < A + off + k
 ·simp only [show m < N by omega, c3, c2, c1, if_true, Bx, show m < A + (off + k + (s - (off + k))) by omega, show m - A < off + k by omega, show ¬ m - A < off by omega, show m - (A + off) = m - A - off by omega]
 by_cases c4 : m < A + s
 ·simp only [show m < N by omega, c3, c2, c1, if_true, Bx, show m < A + (off + k + (s - (off + k))) by omega, show ¬ m - A < off + k by omega, show off + k + (m - A - (off + k)) < s by omega, show A + off + k + (m - (A + off + k)) = m by omega, show A + (off + k + (m - A - (off + k))) = m by omega]
 by_cases c5 : m < N
 ·simp only [c5, c3, c2, c1, if_true, Bx, show ¬ m < A + (off + k + (s - (off + k))) by omega, show A + off + k + (m - (A + off + k)) = m by omega, show A + s + (m - (A + (off + k + (s - (off + k))))) = m by omega]
 ·simp only [c5, c3, c2, c1, Bx, show ¬ m < A + (off + k + (s - (off + k))) by omega, show A + s + (m - (A + (off + k + (s - (off + k))))) = m by omega]
theorem qM (off : Nat) : ∀ (l : List Value) (k : Nat) (cs : Array Value), off + k + l.length ≤ cs.size →
  ((l.zipIdx k).foldl (fun cs (x : Value × Nat) => cs.setIfInBounds (off + x.2) x.1) cs).toList = cs.toList.take (off + k) ++ l ++ cs.toList.drop (off + k + l.length)
 | [], k, cs, h => by simp
 | v :: l, k, cs, h => by
  simp only [As] at h
  simp only [List.zipIdx_cons, Cz]
  rw [qM off l (k + 1) _ (by simp; omega)]
  have := Xw cs.toList l (off + k) v (by simp; omega)
  simp only [Array.toList_setIfInBounds, As]
  rw [show off + (k + 1) = off + k + 1 by omega, this]
theorem lE (vs cs : Array Value) (off : Nat) (h : off + vs.size ≤ cs.size) :
  (vs.zipIdx.foldl (fun cs (x : Value × Nat) => cs.setIfInBounds (off + x.2) x.1) cs).toList = cs.toList.take off ++ vs.toList ++ cs.toList.drop (off + vs.size) := by
 rw [← Array.foldl_toList, Array.toList_zipIdx]
 have := qM off vs.toList 0 cs (by simpa using h)
 simpa using this
section ops
variable {P : Program} {o : Oper} {a : Act} {C : Ctx} {n : Nat} {T : Tmps} {cf : Cx} {xf : ExtF} {base : Nat} {v : AV} {H' : Heap} {fp : FP}
theorem Ym {r t : Bool} {places : List (Nat × Nat)} (hT : TR C n T a.tmps) (hrt : r = true ∧ t = true) : ∀ {parts : List (Nat × Operand)} {sp : List (Nat × Nat × SArg)} {z cs : List AV} {zs : Array Value}, aN places parts = some sp →
  VRL C r t z zs.toList → Jf z (sp.map fun (o, k, x) => (o, k, x.ev T)) = some cs →
  ∃ cells, Instr.fill (fun i => places[i]?) zs (parts.map fun (i, x) => (i, a.eval x)) = some cells ∧ VRL C r t cs cells.toList
 | [], sp, z, cs, zs, h1, h2, h3 => by
  simp [aN] at h1; subst h1
  simp [Jf] at h3; subst h3
  exact ⟨zs, by simp [Instr.fill], h2⟩
 | (i, x) :: parts, sp, z, cs, zs, h1, h2, h3 => by
  obtain ⟨rfl, rfl⟩ := hrt
  simp only [aN] at h1
  split at h1
  ·rename_i o k s l e1 e2 e3
   simp at h1; subst h1
   simp only [Bc, Jf] at h3
   split at h3
   ·rename_i hc
    obtain ⟨c1, c2, c3⟩ := hc
    have hv := Ct hT e2
    have hcs := Ig c1 hv
    have hl := VRL.length hcs
    have hl2 := VRL.length h2
    have hsz : (a.eval x).cells.size = k := by simpa [c2] using hl
    have hzs : zs.size = z.length := by simpa using hl2
    have hnew : VRL C true true (z.take o ++ (s.ev T).cells ++ z.drop (o + k)) (zs.toList.take o ++ (a.eval x).cells.toList ++ zs.toList.drop (o + k)) :=
     ((h2.take o).append hcs).append (h2.drop (o + k))
    have hf := lE (a.eval x).cells zs o (by omega)
    rw [hsz] at hf
    rw [← hf] at hnew
    obtain ⟨cells, k1, k2⟩ := Ym hT ⟨rfl, rfl⟩ e3 hnew h3
    refine ⟨cells, ?_, k2⟩
    simp only [Bc, Instr.fill, e1]
    rw [if_neg (by simp [hsz]; omega)]
    exact k1
   ·simp at h3
  ·simp at h1
theorem cS {t : TypeId} {z : AV} (h : zeroOf? P t = some z) : ∃ i z', P.info? t = some i ∧ i.zero = some z' ∧ cvt z' = some z := by
 unfold zeroOf? at h
 cases hi : P.info? t with
 | none => simp [hi] at h
 | some i =>
  cases hzz : i.zero with
  | none => simp [hi, hzz] at h
  | some z' =>
   simp [hi, hzz] at h
   exact ⟨i, z', rfl, hzz, h⟩
theorem wG {v : Value} {z : List AV} (h : cvt v = some (.agg z)) : ∃ cs, v = .agg cs ∧ cvtL cs.toList = some z := by
 unfold cvt at h
 split at h
 ·rename_i cs
  simp only [Al] at h
  obtain ⟨l, h1, h2⟩ := h
  cases h2
  exact ⟨cs, rfl, h1⟩
 ·split at h <;> simp at h
 ·unfold Yq at h
  split at h <;> simp at h
theorem Acj {t : TypeId} {parts : Array (Nat × Operand)} {sp : List (Nat × Nat × SArg)} {z : List AV} {places : List (Nat × Nat)} (ho : o.op = .build t parts) (hz : zeroOf? P t = some (.agg z)) (hp : fQ P t = some places)
  (hsp : aN places parts.toList = some sp) (hR : Rel C) (hT : TR C n T a.tmps)
  (h : aop cf xf base T C.H (.build z sp) = some (v, H', fp)) : Dd P o a C v H' := by
 obtain ⟨i, z', h1, h2, h3⟩ := cS hz
 obtain ⟨cs, rfl, h4⟩ := wG h3
 simp only [aop] at h
 cases hf : Jf z (sp.map fun (o, k, x) => (o, k, x.ev T)) with
 | none => simp [hf] at h
 | some fs =>
  simp only [hf, Ac, Aa] at h
  obtain ⟨rfl, rfl⟩ := Dx h
  obtain ⟨cells, k1, k2⟩ := Ym (a := a) hT ⟨rfl, rfl⟩ hsp (Yt h4) hf
  unfold fQ at hp
  split at hp
  ·rename_i fields hu
   have hb : P.built t (parts.map fun (i, x) => (i, a.eval x)).toList = some cells := by
    unfold Program.built
    simp only [h1, hu, h2, hp, Value.cells]
    simpa using k1
   refine Bk hR (v' := .agg cells) ?_ (by simp only [VR]; exact ⟨cells, rfl, k2⟩)
   simp only [execOp, ho, Ku, run_build C.w t _ cells hb, Gs]
   rfl
  ·simp at hp
theorem zT {t e : TypeId} {m : Nat} {parts : Array (Nat × Operand)} {z : List AV} (ho : o.op = .build t parts) (hz : zeroOf? P t = some (.agg z)) (hu : P.underlying t = some (.array m e)) (hp : parts.size = 0) (hi : (P.info? e).isSome = true)
  (hR : Rel C) (h : aop cf xf base T C.H (.build z []) = some (v, H', fp)) : Dd P o a C v H' := by
 obtain ⟨i, z', h1, h2, h3⟩ := cS hz
 obtain ⟨cs, rfl, h4⟩ := wG h3
 obtain ⟨ie, hie⟩ := Ol.1 hi
 simp only [aop, jA, Jf, Ac, Aa] at h
 obtain ⟨rfl, rfl⟩ := Dx h
 have : parts = #[] := Ke hp
 subst this
 have hb : P.built t ((#[] : Array (Nat × Operand)).map fun (i, x) => (i, a.eval x)).toList = some cs := by
  unfold Program.built
  simp [h1, hu, h2, hie, Value.cells, Instr.fill]
 refine Bk hR (v' := .agg cs) ?_ (by simp only [VR]; exact ⟨cs, rfl, Yt h4⟩)
 simp only [execOp, ho, Ku, run_build C.w t _ cs hb, Gs]
 rfl
theorem Yb {s : Nat} (hT : TR C n T a.tmps) : ∀ {parts : List (Nat × Operand)} {sp : List (Nat × SArg)} {z es : List AV} {zs : Array Value}, Rz parts = some sp →
  CRL C true true s z zs.toList → Je s z (sp.map fun (i, x) => (i, x.ev T)) = some es →
  ∃ cells, Instr.fill (fun i => some (i * s, s)) zs (parts.map fun (i, x) => (i, a.eval x)) = some cells ∧ CRL C true true s es cells.toList ∧ es.length = z.length
 | [], sp, z, cs, zs, h1, h2, h3 => by
  simp [Rz] at h1; subst h1
  simp [Je] at h3; subst h3
  exact ⟨zs, by simp [Instr.fill], h2, rfl⟩
 | (i, x) :: parts, sp, z, cs, zs, h1, h2, h3 => by
  simp only [Rz] at h1
  split at h1
  ·rename_i sa l e2 e3
   simp at h1; subst h1
   simp only [Bc, Je] at h3
   split at h3
   ·rename_i hc
    obtain ⟨c1, c2, c3⟩ := hc
    have hv := Ct hT e2
    have hcs := wN c1 c2 hv
    have hl := EL.length hcs
    have hl2 := CRL.length h2
    have hsz : (a.eval x).cells.size = s := by simpa using hl
    have hzs : zs.size = z.length * s := by simpa using hl2
    have hle : i * s + s ≤ zs.size := by
     rw [hzs, ← jB]
     exact Ef _ c3
    have hnew := CRL.set i h2 c3 hcs
    have hf := lE (a.eval x).cells zs (i * s) (by omega)
    rw [hsz, show i * s + s = (i + 1) * s by rw [Cp]; omega] at hf
    rw [← hf] at hnew
    obtain ⟨cells, k1, k2, k3⟩ := Yb hT e3 hnew h3
    refine ⟨cells, ?_, k2, by simpa using k3⟩
    simp only [Bc, Instr.fill]
    rw [if_neg (by simp [hsz]; omega)]
    exact k1
   ·simp at h3
  ·simp at h1
theorem kK {t e : TypeId} {m : Nat} {parts : Array (Nat × Operand)} {sp : List (Nat × SArg)} {z : AV} {site s : Nat} (ho : o.op = .buildSlice t m parts) (hu : elemOf? P t = some e) (hi : Fv P e = some (s, z)) (hsm : m * s ≤ 16777216) (hm : 0 < m)
  (hsp : Rz parts.toList = some sp) (hR : Rel C) (hT : TR C n T a.tmps)
  (h : aop cf xf base T C.H (.buildS site s m z sp) = some (v, H', fp)) : Dd P o a C v H' := by
 obtain ⟨i, z', i1, i2, i3, i4, i5, i6, i7, i8, i9, i10⟩ := Jg hi
 simp only [aop] at h
 split at h
 ·simp at h
 ·cases hf : Je s (List.replicate m z) (sp.map fun (i, x) => (i, x.ev T)) with
  | none => simp [hf] at h
  | some es =>
   simp only [hf, Ae, Ah] at h
   obtain ⟨rfl, rfl, _⟩ := h
   have hcr := wC (C := C) (m := m) i3 i8 i9 i10
   obtain ⟨cells, k1, k2, k3⟩ := Yb (a := a) hT hsp hcr hf
   simp at k3
   have hcl := CRL.length k2
   have hrun := run_buildSlice (P := P) C.w t e m (parts.map fun (i, x) => (i, a.eval x)) cells i z' (Hq hu) i1 i2 (by rw [i4]; simp; omega) (by rw [i4]; exact Nat.mul_ne_zero (by omega) (by omega)) (by rw [i4]; simpa using k1)
   have hsz : cells.size = m * s := by simp [k3] at hcl; exact hcl
   obtain ⟨hE, hR'⟩ := Ms hR (base + site) s es cells e (0, 0) (.inl rfl) (by rw [k3]; omega)
    (by rw [Aj (by simp [k3]; omega)]; exact k2)
   refine ⟨.slice (some ⟨C.w.heap.size, 0, none⟩) m m, _, _, .inl ?_, hE, hR', ?_⟩
   ·simp only [execOp, ho, Ku, hrun, Gs]
    rfl
   ·have := gF (C' := ⟨C.F, updN C.μ (base + site) C.w.heap.size, C.H.newRow (base + site) s es, C.w.alloc (.cells cells e)⟩)
     (j := base + site) (es := es) (s := s) (g := (C.H (base + site)).gen + 1) (cap' := m) (len := m) (by simp [Heap.newRow]) (by simp) (Gj _ _) (by omega) (by omega) (Ao _) (by omega) (r := true) rfl (t := true)
    rw [k3] at this
    exact this
theorem uV {t e : TypeId} {m : Nat} {parts : Array (Nat × Operand)} {sp : List (Nat × SArg)} {z : AV} {site s : Nat} (ho : o.op = .buildSlice t m parts) (hu : elemOf? P t = some e) (hi : Fv P e = some (s, z)) (hsm : m * s ≤ 16777216) (hm : 0 < m)
  (hsp : Rz parts.toList = some sp) (hR : Rel C) (hT : TR C n T a.tmps)
  (h : aop cf xf base T C.H (.buildSN site s m z sp) = some (v, H', fp)) : Dd P o a C v H' := by
 have h2 : ∃ fp', aop cf xf 0 T C.H (.buildS (Im C.H (base + site) many) s m z sp) = some (v, H', fp') := by
  simp only [aop, Da] at h ⊢
  split at h
  ·simp at h
  ·rename_i hz
   rw [if_neg hz]
   split at h
   ·simp at h
   ·simp only [Ae, Ah] at h
    obtain ⟨rfl, rfl, _⟩ := h
    exact ⟨_, rfl⟩
 obtain ⟨fp', h3⟩ := h2
 exact kK ho hu hi hsm hm hsp hR hT h3
theorem Ach {t e : TypeId} {parts : Array (Nat × Operand)} {z : AV} {s : Nat} (ho : o.op = .buildSlice t 0 parts) (hu : elemOf? P t = some e) (hi : Fv P e = some (s, z)) (hp : parts.size = 0) (hR : Rel C)
  (h : aop cf xf base T C.H (.empty s) = some (v, H', fp)) : Dd P o a C v H' := by
 obtain ⟨i, z', i1, i2, i3, i4, i5, i6, i7, i8, i9, i10⟩ := Jg hi
 simp only [aop] at h
 obtain ⟨rfl, rfl⟩ := Dx h
 have : parts = #[] := Ke hp
 subst this
 obtain ⟨hE, hR'⟩ := Ms hR 0 1 [] #[] e (0, 0) (.inl rfl) (by simp) (by simp [CRL])
 have hrun : (execOp a.eval o).run P C.w = .ok (.value (.slice (some ⟨C.w.heap.size, 0, none⟩) 0 0)) (C.w.alloc (.cells #[] e)) := by
  simp [execOp, ho, Instr.buildSlice, Am (Hq hu), sizeOf, typeInfo, i1, newRow, Instr.fill]
  rw [show Array.range 0 = #[] from rfl]; simp
 have hμ : Evo C { C with w := C.w.alloc (.cells #[] e) } ∧ Rel { C with w := C.w.alloc (.cells #[] e) } := by
  have hE2 : Evo C { C with w := C.w.alloc (.cells #[] e) } :=
   ⟨rfl, by simp, fun b hb _ => Kh _ _ hb, fun b h => .inl h, fun _ _ _ h => h, fun _ _ _ _ es' _ h => ⟨⟨es', h⟩, fun _ => rfl⟩,
    fun _ _ es' _ h => ⟨⟨es', h⟩, rfl⟩, fun b e n h => Po _ _ _ _ _ h, rfl, rfl, rfl⟩
  exact ⟨hE2, ⟨fun b hb => Iw (hR.fsz b hb) (by simp), fun j => BR.mono hE2 rfl (fun _ => rfl) (fun hl => Kh _ _ (hR.lt hl).1) (hR.blk j), hR.inj, hR.glm hE2⟩⟩
 refine ⟨_, C.μ, _, .inl hrun, hμ.1, hμ.2, ?_⟩
 simp only [VR]
 exact ⟨fun _ => trivial, _, 0, rfl, Ao _, fun _ => rfl, fun h => absurd rfl h⟩
theorem lS {r t : Bool} : ∀ {cs : List AV} {vs : List Value}, VRL C r t cs vs → ∀ c ∈ cs, c.cells = [c]
 | [], _, _, c, hc => by simp at hc
 | c :: cs, _, h, c', hc => by
  simp only [VRL] at h
  obtain ⟨v, vs', rfl, h1, h2, h3⟩ := h
  rcases Au.1 hc with rfl | hc
  ·cases c' with
   | agg cs => simp only [VR] at h2; obtain ⟨vs, rfl, _⟩ := h2; simp [Value.oneCell'] at h1
   | _ => rfl
  ·exact lS h3 c' hc
theorem oT {e : AV} {cs' : List AV} (h : cs'.length = e.cells.length) (h1 : ∀ c ∈ cs', c.cells = [c]) : (e.rewrap cs').cells = cs' := by
 cases e with
 | agg cs => rfl
 | _ =>
  simp only [AV.cells, List.length_singleton] at h
  obtain ⟨u, rfl⟩ := Qi.1 h
  exact h1 u (by simp)
theorem Aan {t : TypeId} {x y : Operand} {sx sy : SArg} {k : Nat} (ho : o.op = .store t x y) (hR : Rel C) (hT : TR C n T a.tmps) (hx : sarg x = some sx) (hy : sarg y = some sy) (hk : sizeOf? P t = some k)
  (h : aop cf xf base T C.H (.store k sx sy) = some (v, H', fp)) : Dd P o a C v H' := by
 have hv := Ct hT hx
 have hu := Ct hT hy
 simp only [aop] at h
 split at h
 ·rename_i j g ver s i off hq
  rw [hq] at hv
  split at h
  ·rename_i es hes
   split at h
   ·rename_i e he
    split at h
    ·rename_i hc
     obtain ⟨c0, c1, c2⟩ := hc
     simp only [Ae, Ah] at h
     obtain ⟨rfl, rfl, _⟩ := h
     obtain ⟨hes1, hro⟩ := rowW_some.1 hes
     have hes' := row_some.1 hes1
     have hi : i < es.length := (Dg.1 he).1
     have hne : es ≠ [] := by intro h; subst h; simp at hi
     obtain ⟨_, c, el, fzz, hobj, hok⟩ := hR.mem hes'.2.1 hne
     simp only [VR] at hv
     obtain ⟨_, _, ad, hv', hk'⟩ := hv
     have had := hk' es hes1 (by omega)
     subst had
     have hel := CRL.get i hok.cells he
     have hell := EL.length hel
     have hsc := Ig c0 hu
     have hlu := VRL.length hsc
     have husz : (a.eval y).cells.size = k := by simpa [c1] using hlu
     have hle := hok.le
     have hbig : i * s + s ≤ es.length * s := by rw [← jB]; exact Ef _ hi
     have hes_s : e.cells.length = s := hel.1
     have hrun := Gm (P := P) (off := i * s + off) (a.eval y).cells.toList 0 c C.w hobj hok.uf (by simp [husz]; omega) (VRL.one hsc)
     simp only [El, Jz, husz] at hrun
     have hnewel : EL C true true s (e.rewrap (e.cells.take off ++ (sy.ev T).cells ++ e.cells.drop (off + k)))
       (((c.toList.take (es.length * s)).drop (i * s)).take s |>.take off |> (· ++ (a.eval y).cells.toList ++ (((c.toList.take (es.length * s)).drop (i * s)).take s).drop (off + k))) := by
      have hcells : (e.rewrap (e.cells.take off ++ (sy.ev T).cells ++ e.cells.drop (off + k))).cells = e.cells.take off ++ (sy.ev T).cells ++ e.cells.drop (off + k) := by
       refine oT (by simp [c1]; omega) (lS (((hel.2.take off).append hsc).append (hel.2.drop (off + k))))
      refine ⟨?_, ?_⟩
      ·rw [hcells]; simp [c1]; omega
      ·rw [hcells]
       exact ((hel.2.take off).append hsc).append (hel.2.drop (off + k))
     have hset := CRL.set i hok.cells hi hnewel
     have hlist : (c.toList.take (i * s + off) ++ (a.eval y).cells.toList ++ c.toList.drop (i * s + off + k)).take (es.length * s) =
       (c.toList.take (es.length * s)).take (i * s) ++ ((((c.toList.take (es.length * s)).drop (i * s)).take s).take off ++ (a.eval y).cells.toList ++ (((c.toList.take (es.length * s)).drop (i * s)).take s).drop (off + k)) ++ (c.toList.take (es.length * s)).drop ((i + 1) * s) := by
      rw [show (i + 1) * s = i * s + s by rw [Cp]; omega]
      exact Tm c.toList (a.eval y).cells.toList (i * s) s off k (es.length * s) (by simp [husz]) (by omega) hbig (by simpa using hle)
     obtain ⟨hE, hR'⟩ := eB hR (j := j) (s := s) (es := es) (es' := es.set i (e.rewrap (e.cells.take off ++ (sy.ev T).cells ++ e.cells.drop (off + k)))) hes'.2.1 hro (by simp) (c := c) (c' := (c.toList.take (i * s + off) ++ (a.eval y).cells.toList ++ c.toList.drop (i * s + off + k)).toArray) (el := el) (fz := fzz)
      (Es C.w (C.μ j) (.cells (c.toList.take (i * s + off) ++ (a.eval y).cells.toList ++ c.toList.drop (i * s + off + k)).toArray el fzz)) (fun _ => hobj) hok.uf (by simp [husz]; omega) hle
      (fun _ => rfl) (fun h => absurd h hne) rfl rfl rfl (by simp only [Oq]; rw [hlist]; exact hset)
     refine ⟨Go.undef, C.μ, _, .inr ⟨?_, rfl⟩, hE, hR', by simp [VR]⟩
     simp [execOp, ho, hv', Instr.storeAt, Instr.sureAddr, storeVar, husz, Gq hk, hrun]
    ·split at h
     ·rename_i hc
      obtain ⟨rfl, c0, c1, c2⟩ := hc
      simp only [Ae, Ah] at h
      obtain ⟨rfl, rfl, _⟩ := h
      obtain ⟨hes1, hro⟩ := rowW_some.1 hes
      have hes' := row_some.1 hes1
      have hi : i < es.length := (Dg.1 he).1
      have hne : es ≠ [] := by intro h; subst h; simp at hi
      obtain ⟨_, c, el, fzz, hobj, hok⟩ := hR.mem hes'.2.1 hne
      simp only [VR] at hv
      obtain ⟨_, _, ad, hv', hk'⟩ := hv
      have had := hk' es hes1 (by omega)
      subst had
      have hsc := Ig c0 hu
      have hlu := VRL.length hsc
      have husz : (a.eval y).cells.size = k := by simpa [c1] using hlu
      have hle := hok.le
      have hrun := Gm (P := P) (off := i * 1 + off) (a.eval y).cells.toList 0 c C.w hobj hok.uf (by simp [husz]; omega) (VRL.one hsc)
      simp only [El, Jz, husz] at hrun
      have hnew := ((hok.cells.take (i + off)).append (Zv hsc (Yl hsc))).append (hok.cells.drop (i + off + k))
      have hlist : (c.toList.take (i * 1 + off) ++ (a.eval y).cells.toList ++ c.toList.drop (i * 1 + off + k)).take (es.length * 1) =
        (c.toList.take (es.length * 1)).take ((i + off) * 1) ++ (a.eval y).cells.toList ++ (c.toList.take (es.length * 1)).drop ((i + off + k) * 1) := by
       have := Tm c.toList (a.eval y).cells.toList (i * 1 + off) k 0 k (es.length * 1) (by simp [husz]) (by omega) (by omega) (by simpa using hle)
       simp at this ⊢
       rw [this]
      have hlen : (es.take (i + off) ++ (SArg.ev T sy).cells ++ es.drop (i + off + k)).length = es.length := by simp [c1]; omega
      obtain ⟨hE, hR'⟩ := eB hR (j := j) (s := 1) (es := es) (es' := es.take (i + off) ++ (SArg.ev T sy).cells ++ es.drop (i + off + k)) hes'.2.1 hro hlen (c := c) (c' := (c.toList.take (i * 1 + off) ++ (a.eval y).cells.toList ++ c.toList.drop (i * 1 + off + k)).toArray) (el := el) (fz := fzz)
       (Es C.w (C.μ j) (.cells (c.toList.take (i * 1 + off) ++ (a.eval y).cells.toList ++ c.toList.drop (i * 1 + off + k)).toArray el fzz)) (fun _ => hobj) hok.uf (by simp [husz]; omega) hle
       (fun _ => rfl) (fun h => absurd h hne) rfl rfl rfl (by rw [hlen]; rw [hlist]; exact hnew)
      refine ⟨Go.undef, C.μ, _, .inr ⟨?_, rfl⟩, hE, hR', by simp [VR]⟩
      simp [execOp, ho, hv', Instr.storeAt, Instr.sureAddr, storeVar, husz, Gq hk]
      simp at hrun
      simp [hrun]
     ·simp at h
   ·simp at h
  ·simp at h
 ·simp at h
end ops
end Go.AI
namespace Go.AI
theorem kW (m : Nat) : ∀ (r c : Nat), Builtin.growBy m r c ≤ max c (2 * m + 768)
 | 0, c => by simp [Builtin.growBy]; omega
 | r + 1, c => by
  unfold Builtin.growBy
  split
  ·omega
  ·have := kW m r (c + (c + 768) / 4)
   omega
theorem nextslicecap_le (m c : Nat) (h : c ≤ m) : Builtin.nextslicecap m c ≤ 2 * m + 768 := by
 unfold Builtin.nextslicecap
 split
 ·omega
 ·split
  ·omega
  ·have := kW m 4 c; omega
section ops
variable {P : Program} {o : Oper} {a : Act} {C : Ctx} {n : Nat} {T : Tmps} {cf : Cx} {xf : ExtF} {base : Nat} {v : AV} {H' : Heap} {fp : FP}
structure Behind (P : Program) (w : World) (u : TypeId) (e : TypeId) (s : Nat) (vx : Value) (m : Nat) (vs : List Value) : Prop where
 len : vs.length = m * s
 one : ∀ x ∈ vs, x.oneCell' = true
 src : (rY P u = true ∧ ∃ k, vx = .int k (m : Int) ∧ m ≤ Gz ∧ ∃ i z, P.info? e = some i ∧ i.zero = some z ∧ vs = (List.replicate m z.cells.toList).flatten ∧ z.cells.size = s) ∨
  (((∃ e', P.underlying u = some (.slice e')) ∨ P.underlying u = some .string) ∧ (∀ w' : World, w'.heap = w.heap → (Builtin.lenOf vx).run P w' = .ok m w' ∧ (Builtin.firstCells s m vx).run P w' = .ok vs.toArray w'))
theorem Vr {z : Value} {m s : Nat} (h : z.cells.size = s) : Builtin.zeroCells z.cells m = (List.replicate m z.cells.toList).flatten.toArray := by
 unfold Builtin.zeroCells
 apply Jp
 rw [Array.toList_map, Array.toList_range, h, bM _ _ h]
theorem On {m : Nat} (h : m ≤ Gz) : IntKind.i64.wrap (m : Int) = m := by
 unfold Gz at h
 simp [IntKind.wrap, IntKind.bits, IntKind.signed]; omega
theorem Pz {t u ty e : TypeId} {s m sLen sCap : Nat} {ad : Option Addr} {vx : Value} {vs : List Value} {w w2 : World} {i : TypeInfo} (hu : P.underlying t = some (.slice e)) (hi : P.info? e = some i) (his : i.size = s) (hb : i.bytes ≤ 1024)
  (hx : Behind P w u e s vx m vs) (hn : sLen + m ≤ sCap) (hst : match ad with | some a => (storeCells (a.add (sLen * s)) vs).run P w = .ok () w2 | none => w2 = w) :
  (Builtin.append_ #[t, u] ty #[.slice ad sLen sCap, vx]).run P w = .ok (.slice ad (sLen + m) sCap) w2 := by
 rcases hx.src with ⟨h1, k, rfl, hm, i', z, h2, h3, hvs, h5⟩ | ⟨h1, h3⟩
 ·rw [hi] at h2; cases h2
  have hui : ∃ k', P.underlying u = some (.int k') := by
   unfold rY at h1
   split at h1
   ·rename_i k' hk; exact ⟨k', hk⟩
   ·simp at h1
  obtain ⟨k', hui⟩ := hui
  have hbb : ¬ (281474976710656 < (m : Int) * (i.bytes : Int)) := by
   have : m * i.bytes ≤ 68719476736 * 1024 := pH hm hb
   have h9 : ((m * i.bytes : Nat) : Int) ≤ ((68719476736 * 1024 : Nat) : Int) := Int.ofNat_le.2 this
   simp at h9 ⊢; omega
  have hneg : ¬ ((m : Int) < 0) := by omega
  have hzr : ∀ w' : World, (zeroValue e).run P w' = .ok z w' := fun w' => by simp [zeroValue, typeInfo, hi, h3]
  have hnil : m * i.size = 0 → vs = [] := fun h0 => Sr (by rw [hx.len, ← his]; exact h0)
  have hzc : (Builtin.zeroCells z.cells m).toList = vs := by rw [Vr h5, hvs]
  cases ad with
  | none =>
   simp only at hst; subst hst
   by_cases h0 : m * i.size = 0
   ·simp [Builtin.append_, Am hu, Am hui, sizeOf, typeInfo, hi, asInt, asIntOf, On hm, hbb, hneg, hn, h0]
   ·simp [Builtin.append_, Am hu, Am hui, sizeOf, typeInfo, hi, asInt, asIntOf, On hm, hbb, hneg, hn, h0, hzr]
  | some ad =>
   simp only at hst
   subst his
   by_cases h0 : m * i.size = 0
   ·rw [hnil h0] at hst
    simp [Builtin.append_, Am hu, Am hui, sizeOf, typeInfo, hi, asInt, asIntOf, On hm, hbb, hneg, hn, h0, hst]
   ·simp [Builtin.append_, Am hu, Am hui, sizeOf, typeInfo, hi, asInt, asIntOf, On hm, hbb, hneg, hn, h0, hzr, hzc, hst]
 ·obtain ⟨k1, k2⟩ := h3 w rfl
  rcases h1 with ⟨e', hd⟩ | hd
  ·cases ad with
   | none =>
    simp only at hst; subst hst
    simp [Builtin.append_, Am hu, Am hd, sizeOf, typeInfo, hi, his, k1, k2, hn]
   | some ad =>
    simp only at hst
    simp [Builtin.append_, Am hu, Am hd, sizeOf, typeInfo, hi, his, k1, k2, hn, hst]
  ·cases ad with
   | none =>
    simp only at hst; subst hst
    simp [Builtin.append_, Am hu, Am hd, sizeOf, typeInfo, hi, his, k1, k2, hn]
   | some ad =>
    simp only at hst
    simp [Builtin.append_, Am hu, Am hd, sizeOf, typeInfo, hi, his, k1, k2, hn, hst]
theorem bB {t u ty e : TypeId} {s m sLen sCap : Nat} {ad : Option Addr} {vx : Value} {vs ov : List Value} {w : World} {i : TypeInfo} {z : Value} (hu : P.underlying t = some (.slice e)) (hi : P.info? e = some i) (his : i.size = s) (hb : i.bytes ≤ 1024) (hb0 : 0 < i.bytes) (hz : i.zero = some z)
  (hx : Behind P w u e s vx m vs) (hn : sCap < sLen + m) (hroom : sLen + m ≤ Gz)
  (hold : ∀ w' : World, w'.heap = w.heap → (Builtin.firstCells s sLen (.slice ad sLen sCap)).run P w' = .ok ov.toArray w') :
  (Builtin.append_ #[t, u] ty #[.slice ad sLen sCap, vx]).run P w =
   .ok (.slice (some ⟨w.heap.size, 0, none⟩) (sLen + m) (grownCap w (sLen + m) sCap e)) (w.drew.alloc (.cells (ov.toArray ++ vs.toArray ++ Builtin.zeroCells z.cells (grownCap w (sLen + m) sCap e - (sLen + m))) e)) := by
 have hroom' := hroom
 unfold Gz at hroom'
 have hle : ¬ (sLen + m ≤ sCap) := by omega
 have hfit : Builtin.nextslicecap (sLen + m) sCap * i.bytes ≤ 281474976710656 := by
  have h1 := AI.nextslicecap_le (sLen + m) sCap (by omega)
  have h2 : Builtin.nextslicecap (sLen + m) sCap * i.bytes ≤ (2 * 68719476736 + 768) * 1024 := pH (by omega) hb
  omega
 have hfit' : ¬ (281474976710656 < Builtin.nextslicecap (sLen + m) sCap * i.bytes) := by omega
 have hbig : ¬ (9223372036854775807 < (sLen : Int) + (m : Int)) := by omega
 obtain hold' := hold w.drew rfl
 rcases hx.src with ⟨h1, k, rfl, hm, i', z', h2, h3, hvs, h5⟩ | ⟨h1, h3⟩
 ·rw [hi] at h2; cases h2
  rw [hz] at h3; cases h3
  have hui : ∃ k', P.underlying u = some (.int k') := by
   unfold rY at h1
   split at h1
   ·rename_i k' hk; exact ⟨k', hk⟩
   ·simp at h1
  obtain ⟨k', hui⟩ := hui
  have hbb : ¬ (281474976710656 < (m : Int) * (i.bytes : Int)) := by
   have : m * i.bytes ≤ 68719476736 * 1024 := pH hm hb
   have h9 : ((m * i.bytes : Nat) : Int) ≤ ((68719476736 * 1024 : Nat) : Int) := Int.ofNat_le.2 this
   simp at h9 ⊢; omega
  have hneg : ¬ ((m : Int) < 0) := by omega
  have hzr : ∀ w' : World, (zeroValue e).run P w' = .ok z w' := fun w' => by simp [zeroValue, typeInfo, hi, hz]
  have hnil : m * i.size = 0 → vs = [] := fun h0 => Sr (by rw [hx.len, ← his]; exact h0)
  have hzc : Builtin.zeroCells z.cells m = vs.toArray := by rw [Vr h5, hvs]
  subst his
  by_cases h0 : m * i.size = 0
  ·rw [hnil h0]
   simp [Builtin.append_, Am hu, Am hui, sizeOf, typeInfo, hi, asInt, asIntOf, On hm, hbb, hneg, hle, hfit', hbig, h0, Question.forced, hold', hzr, newRow, grownCap]
  ·simp [Builtin.append_, Am hu, Am hui, sizeOf, typeInfo, hi, asInt, asIntOf, On hm, hbb, hneg, hle, hfit', hbig, h0, Question.forced, hold', hzr, hzc, newRow, grownCap]
   congr 2
   apply Jp
   simp
 ·obtain ⟨k1, _⟩ := h3 w rfl
  obtain ⟨_, k2⟩ := h3 w.drew rfl
  have hb1 : i.bytes ≠ 0 := by omega
  rcases h1 with ⟨e', hd⟩ | hd
  ·simp [Builtin.append_, Am hu, Am hd, sizeOf, typeInfo, hi, his, k1, hle, hfit', hbig, hb1, Question.forced, hold', k2, zeroValue, hz, newRow, grownCap]
   congr 2
   apply Jp
   simp
  ·simp [Builtin.append_, Am hu, Am hd, sizeOf, typeInfo, hi, his, k1, hle, hfit', hbig, hb1, Question.forced, hold', k2, zeroValue, hz, newRow, grownCap]
   congr 2
   apply Jp
   simp
theorem rQ (H : Heap) (j s : Nat) (es : List AV) (hst : (H j).st = .row s es) (hro : (H j).ro = false) : H.setRow j s es = H := by
 funext i
 unfold Heap.setRow; rw [Heap.upd_eq]
 by_cases h : i = j
 ·subst h
  rw [if_pos rfl, ← hst, ← hro]
 ·rw [if_neg h]
theorem vZ {α : Type} (l u : List α) (A k N : Nat) (hu : u.length = k) (h2 : A + k ≤ N) (h3 : N ≤ l.length) :
  (l.take A ++ u ++ l.drop (A + k)).take N = (l.take N).take A ++ u ++ (l.take N).drop (A + k) := by
 have := Tm l u A k 0 k N hu (by omega) h2 h3
 simp at this ⊢
 rw [this]
theorem iH (z : Value) (m : Nat) : (Builtin.zeroCells z.cells m).size = m * z.cells.size := by simp [Builtin.zeroCells]
set_option maxHeartbeats 1000000 in
theorem cH {t u ty e : TypeId} {site s m : Nat} {x : AV} {ys : List AV} {x' vx : Value} {vs : List Value} {i : TypeInfo} {z : Value} (hR : Rel C) (hu : P.underlying t = some (.slice e)) (hi : P.info? e = some i) (his : i.size = s)
  (hb : i.bytes ≤ 1024) (hb0 : 0 < i.bytes) (hz : i.zero = some z) (hzs : z.cells.size = s)
  (hx : VR C true true x x') (hB : Behind P C.w u e s vx m vs) (hm : ys.length = m) (hys : CRL C true true s ys vs)
  (h : Dc C.H site s x ys = some (v, H', fp)) :
  ∃ v' μ' w', (Builtin.append_ #[t, u] ty #[x', vx]).run P C.w = .ok v' w' ∧ Evo C ⟨C.F, μ', H', w'⟩ ∧ Rel ⟨C.F, μ', H', w'⟩ ∧ VR ⟨C.F, μ', H', w'⟩ true true v v' := by
 subst hm
 have hnilrun : ∀ (ad : Option Addr) (l c : Nat), ys = [] → l ≤ c → (Builtin.append_ #[t, u] ty #[.slice ad l c, vx]).run P C.w = .ok (.slice ad l c) C.w := by
  intro ad l c h0 hlc
  subst h0
  have hvs : vs = [] := by simpa [CRL] using hys
  subst hvs
  have := Pz (P := P) (t := t) (u := u) (ty := ty) (sLen := l) (sCap := c) (ad := ad) (w2 := C.w) hu hi his hb hB (by omega) (by cases ad <;> simp [storeCells])
  simpa using this
 have hnew : ∀ (ad : Option Addr) (l c : Nat) (ov : List Value), c < l + ys.length → l + ys.length ≤ Gz → ov.length = l * s → (∀ w' : World, w'.heap = C.w.heap → (Builtin.firstCells s l (.slice ad l c)).run P w' = .ok ov.toArray w') →
   ∃ cap cs, (Builtin.append_ #[t, u] ty #[.slice ad l c, vx]).run P C.w = .ok (.slice (some ⟨C.w.heap.size, 0, none⟩) (l + ys.length) cap) (C.w.drew.alloc (.cells cs e)) ∧ l + ys.length ≤ cap ∧ cs.size = cap * s ∧ cs.toList.take ((l + ys.length) * s) = ov ++ vs := by
  intro ad l c ov h1 h2 h3 h4
  have := bB (P := P) (t := t) (u := u) (ty := ty) (sLen := l) (sCap := c) (ad := ad) hu hi his hb hb0 hz hB h1 h2 h4
  have hc : l + ys.length ≤ grownCap C.w (l + ys.length) c e := Nat.le_add_right _ _
  refine ⟨_, _, this, hc, ?_, ?_⟩
  ·simp only [Array.size_append, List.size_toArray, iH, hzs, h3, hB.len]
   rw [← Cp, ← Cp]
   congr 1; omega
  ·simp only [Array.toList_append]
   rw [Cq (by simp [h3, hB.len, Cp]), Aj (by simp [h3, hB.len, Cp])]
 unfold Dc at h
 split at h
 ·rename_i tt full s' es
  have hx0 := hx
  simp only [VR] at hx
  obtain ⟨htt, ad, cap', rfl, hcap, hfull, hmem⟩ := hx
  split at h
  ·rename_i hn
   obtain ⟨rfl, rfl⟩ := Dx h
   exact ⟨_, C.μ, C.w, hnilrun _ _ _ (isNil_iff.1 hn) hcap, Evo.refl C, hR, hx0⟩
  ·rename_i hn
   split at h
   ·rename_i hc
    obtain ⟨c1, c2, c3⟩ := hc
    have c2' := isNil_iff.1 c2
    subst c2'
    simp only [Ae, Ah] at h
    obtain ⟨rfl, rfl, _⟩ := h
    have hc0 : cap' = 0 := by simpa using hfull c1
    subst hc0
    have hpos : 0 < ys.length := by exact Fp.2 (fun h0 => hn (isNil_iff.2 h0))
    obtain ⟨cap, cs, r1, r2, r3, r4⟩ := hnew ad 0 0 [] (by omega) (by omega) (by simp) (fun w' _ => by cases ad <;> simp [Builtin.firstCells, loadCells, loadCellsFrom])
    simp only [Da, Dk] at r1 r2 r4
    obtain ⟨hE0, hR0⟩ := Vi hR C.w.drew rfl rfl rfl rfl
    obtain ⟨hE, hR'⟩ := Ms hR0 site s ys cs e (0, 0) (.inl rfl) (by rw [r3]; exact Ef _ r2) (by rw [r4]; exact CRL.mono hE0 hys)
    refine ⟨_, _, _, r1, hE0.trans hE, hR', ?_⟩
    have := gF (C' := ⟨C.F, updN C.μ site C.w.drew.heap.size, C.H.newRow site s ys, C.w.drew.alloc (.cells cs e)⟩)
     (j := site) (es := ys) (s := s) (g := (C.H site).gen + 1) (cap' := cap) (len := ys.length) (by simp [Heap.newRow]) (by simp) (Gj _ _) (by omega) (by omega) (by omega) (by omega) (r := true) rfl (t := true)
    exact this
   ·simp at h
 ·rename_i j g ver s' off len cap
  have hx0 := hx
  simp only [VR] at hx
  obtain ⟨_, hpast, ad, cap', rfl, hcap, hk⟩ := hx
  split at h
  ·rename_i hn
   obtain ⟨rfl, rfl⟩ := Dx h
   exact ⟨_, C.μ, C.w, hnilrun _ _ _ (isNil_iff.1 hn) hcap, Evo.refl C, hR, hx0⟩
  ·rename_i hn
   have hpos : 0 < ys.length := by exact Fp.2 (fun h0 => hn (isNil_iff.2 h0))
   split at h
   ·simp at h
   ·rename_i es hes
    obtain ⟨hes1, hro⟩ := rowW_some.1 hes
    obtain ⟨hg, hst, hver⟩ := row_some.1 hes1
    obtain ⟨k1, k2, k3⟩ := hk es hes1
    split at h
    ·rename_i hc
     obtain ⟨rfl, hle, hroom⟩ := hc
     split at h
     ·
      rename_i hin
      simp only [Ae, Ah] at h
      obtain ⟨rfl, rfl, _⟩ := h
      have hcc : cap.getD (ver - off) ≤ cap' := by cases cap <;> simp_all
      have hoff : off < ver := by omega
      obtain ⟨rfl, el0, n0, hsh, hn0⟩ := k3 hoff (by omega)
      have hne : es ≠ [] := by intro h0; subst h0; simp at hver; omega
      obtain ⟨hF, c, el, fz, hobj, hok⟩ := hR.mem hst hne
      have hle2 := hok.le
      have hvl := hB.len
      have hmul : (off + len) * s' + ys.length * s' ≤ es.length * s' := by rw [← Cp]; exact Ef _ (by omega)
      have hst2 := Gm (P := P) (off := off * s' + len * s') vs 0 c C.w hobj hok.uf (by rw [hvl]; rw [Cp] at hmul; omega) hB.one
      rw [El, hvl, ← Cp] at hst2
      have hrun := Pz (P := P) (t := t) (u := u) (ty := ty) (sLen := len) (sCap := cap') (ad := some ⟨C.μ j, off * s', none⟩) hu hi his hb hB (by omega) (by simp only [Ls, ← Cp]; exact hst2)
      have hlen' : (es.take (off + len) ++ ys ++ es.drop (off + len + ys.length)).length = es.length := by simp; omega
      have hcells : CRL C true true s' (es.take (off + len) ++ ys ++ es.drop (off + len + ys.length)) ((c.toList.take ((off + len) * s') ++ vs ++ c.toList.drop ((off + len) * s' + ys.length * s')).take (es.length * s')) := by
       rw [vZ _ _ _ _ _ hvl hmul (by simpa using hle2), ← Cp]
       exact ((hok.cells.take (off + len)).append hys).append (hok.cells.drop (off + len + ys.length))
      obtain ⟨hE, hR'⟩ := eB hR hst hro hlen' (c := c) (c' := (c.toList.take ((off + len) * s') ++ vs ++ c.toList.drop ((off + len) * s' + ys.length * s')).toArray) (el := el) (fz := fz)
       (Es C.w (C.μ j) (.cells (c.toList.take ((off + len) * s') ++ vs ++ c.toList.drop ((off + len) * s' + ys.length * s')).toArray el fz)) (fun _ => hobj) hok.uf (by simp [hvl]; omega) hle2
       (fun _ => rfl) (fun h0 => absurd h0 hne) rfl rfl rfl (by rw [hlen']; exact hcells)
      refine ⟨_, _, _, hrun, hE, hR', ?_⟩
      simp only [VR]
      refine ⟨trivial, hE.pst _ _ _ hpast, _, cap', rfl, by omega, fun es' hes' => ⟨k1, k2, fun _ _ => ⟨rfl, el0, n0, hE.shape _ _ _ hsh, hn0⟩⟩⟩
     ·rename_i hnin
      split at h
      ·
       split at h
       ·rename_i hc2
        obtain ⟨rfl, rfl⟩ := hc2
        simp only [Ae, Ah] at h
        obtain ⟨rfl, rfl, _⟩ := h
        by_cases hcp : len + ys.length ≤ cap'
        ·have hver0 : 0 < len := by
          rcases vT len with h0 | h0
          ·have := k1 h0; omega
          ·exact h0
         obtain ⟨rfl, el0, n0, hsh, hn0⟩ := k3 hver0 (by omega)
         have hne : es ≠ [] := by intro h0; subst h0; simp at hver; omega
         obtain ⟨hF, c, el, fz, hobj, hok⟩ := hR.mem hst hne
         have hcs : n0 = c.size := by
          simp only [World.shape?, hobj] at hsh
          simp at hsh; exact hsh.2.symm
         have hvl := hB.len
         have hmul : len * s' + ys.length * s' ≤ c.size := by
          rw [← hcs]
          refine Ga ?_ hn0
          rw [← Cp]; exact Ef _ (by omega)
         have hst2 := Gm (P := P) (off := 0 * s' + len * s') vs 0 c C.w hobj hok.uf (by rw [hvl]; omega) hB.one
         rw [El, hvl, iZ, Da] at hst2
         have hrun := Pz (P := P) (t := t) (u := u) (ty := ty) (sLen := len) (sCap := cap') (ad := some ⟨C.μ j, 0 * s', none⟩) hu hi his hb hB hcp (by simp only [Ls, iZ, Da]; exact hst2)
         have hlen' : (es ++ ys).length = len + ys.length := by simp; omega
         have hcells : CRL C true true s' (es ++ ys) ((c.toList.take (len * s') ++ vs ++ c.toList.drop (len * s' + ys.length * s')).take ((es ++ ys).length * s')) := by
          rw [hlen', Cq (by simp [hvl, Cp]; omega), Aj (by simp [hvl, Cp]; omega)]
          have := hok.cells
          rw [hver] at this
          exact this.append hys
         obtain ⟨hE, hR'⟩ := zS hR hst hro hne (by simp) (c := c) (c' := (c.toList.take (len * s') ++ vs ++ c.toList.drop (len * s' + ys.length * s')).toArray) (el := el) (fz := fz)
          (Es C.w (C.μ j) (.cells (c.toList.take (len * s') ++ vs ++ c.toList.drop (len * s' + ys.length * s')).toArray el fz)) hobj hok.uf (by simp [hvl]; omega) (by rw [hlen', Cp]; exact hmul)
          rfl rfl rfl rfl hcells
         refine ⟨_, _, _, hrun, hE, hR', ?_⟩
         simp only [VR]
         refine ⟨trivial, ⟨by simp [Heap.setRow]; exact hpast.1, fun _ s2 es2 hs2 => ?_⟩, _, cap', rfl, hcp, fun es' hes' => ⟨fun h0 => by omega, by simp; omega, fun _ _ => ⟨rfl, el0, n0, hE.shape _ _ _ hsh, hn0⟩⟩⟩
         simp [Heap.setRow] at hs2
         rw [← hs2.2, hlen']; exact Ao _
        ·
         have hold : ∃ ov : List Value, ov.length = len * s' ∧ CRL C true true s' es ov ∧ ∀ w' : World, w'.heap = C.w.heap → (Builtin.firstCells s' len (.slice ad len cap')).run P w' = .ok ov.toArray w' := by
          by_cases hne : es = []
          ·subst hne
           simp at hver; subst hver
           refine ⟨[], by simp, by simp [CRL], fun w' _ => by cases ad <;> simp [Builtin.firstCells, loadCells, loadCellsFrom]⟩
          ·obtain ⟨hF, c, el, fz, hobj, hok⟩ := hR.mem hst hne
           have hver0 : 0 < len := by rw [← hver]; exact Fp.2 hne
           obtain ⟨rfl, el0, n0, hsh, hn0⟩ := k3 hver0 (by simp at k2; omega)
           have hcells := hok.cells
           rw [hver] at hcells
           have hcl := CRL.length hcells
           rw [hver] at hcl
           refine ⟨c.toList.take (len * s'), hcl, hcells, fun w' hw' => ?_⟩
           have hrow : rowAt w' (C.μ j) (0 * s') (c.toList.take (len * s')) := by
            rw [iZ]; exact Hv (by rw [hw']; exact hobj) _
           have := Kx (P := P) w' hrow
           rw [hcl] at this
           simpa [Builtin.firstCells] using this
         obtain ⟨ov, o1, o2, o3⟩ := hold
         obtain ⟨cap2, cs, r1, r2, r3, r4⟩ := hnew ad len cap' ov (by omega) (by omega) o1 o3
         obtain ⟨hE0, hR0⟩ := Vi hR C.w.drew rfl rfl rfl rfl
         have hlen' : (es ++ ys).length = len + ys.length := by simp; omega
         obtain ⟨hE, hR'⟩ := Adt hR0 (j := j) (s := s') (es := es) (es' := es ++ ys) hst (by simp; omega) cs e (0, 0) (.inl rfl) (by rw [hlen', r3]; exact Ef _ r2) (by rw [hlen', r4]; exact CRL.mono hE0 (o2.append hys))
         refine ⟨_, _, _, r1, hE0.trans hE, hR', ?_⟩
         have := gF (C' := ⟨C.F, updN C.μ j C.w.drew.heap.size, C.H.setRow j s' (es ++ ys), C.w.drew.alloc (.cells cs e)⟩)
          (j := j) (es := es ++ ys) (s := s') (g := g) (cap' := cap2) (len := len + ys.length) (by simp [Heap.setRow, hg]) (by simp) (Gj _ _) (by omega) (by omega) (by omega) (by omega) (r := true) rfl (t := true)
         rw [hlen'] at this
         exact this
       ·simp at h
      ·split at h
       ·rename_i c0 hc0
        simp only [Ae, Ah] at h
        obtain ⟨rfl, rfl, _⟩ := h
        simp only at k2
        subst k2
        have hold : ∃ ov : List Value, ov.length = len * s' ∧ CRL C true true s' ((es.drop off).take len) ov ∧ ∀ w' : World, w'.heap = C.w.heap → (Builtin.firstCells s' len (.slice ad len cap')).run P w' = .ok ov.toArray w' := by
         by_cases hl0 : len = 0
         ·subst hl0
          refine ⟨[], by simp, by simp [CRL], fun w' _ => by cases ad <;> simp [Builtin.firstCells, loadCells, loadCellsFrom]⟩
         ·have hne : es ≠ [] := by intro h0; subst h0; simp at hver; omega
          obtain ⟨hF, c, el, fz, hobj, hok⟩ := hR.mem hst hne
          obtain ⟨rfl, el0, n0, hsh, hn0⟩ := k3 (by omega) (by omega)
          have hcl := CRL.length ((hok.cells.drop off).take len)
          have hl1 : ((es.drop off).take len).length = len := by simp; omega
          rw [hl1] at hcl
          refine ⟨_, hcl, (hok.cells.drop off).take len, fun w' hw' => ?_⟩
          have hrow : rowAt w' (C.μ j) (off * s') (((c.toList.take (es.length * s')).drop (off * s')).take (len * s')) := by
           have := ((Hv (w := w') (b := C.μ j) (by rw [hw']; exact hobj) (es.length * s')).drop (off * s')).take (len * s')
           simpa using this
          have := Kx (P := P) w' hrow
          rw [hcl] at this
          simpa [Builtin.firstCells] using this
        obtain ⟨ov, o1, o2, o3⟩ := hold
        obtain ⟨cap2, cs, r1, r2, r3, r4⟩ := hnew ad len cap' ov (by omega) (by omega) o1 o3
        obtain ⟨hE0, hR0⟩ := Vi hR C.w.drew rfl rfl rfl rfl
        have hlen' : ((es.drop off).take len ++ ys).length = len + ys.length := by simp; omega
        obtain ⟨hE, hR'⟩ := Ms hR0 site s' ((es.drop off).take len ++ ys) cs e (0, 0) (.inl rfl) (by rw [hlen', r3]; exact Ef _ r2) (by rw [hlen', r4]; exact CRL.mono hE0 (o2.append hys))
        refine ⟨_, _, _, r1, hE0.trans hE, hR', ?_⟩
        have := gF (C' := ⟨C.F, updN C.μ site C.w.drew.heap.size, C.H.newRow site s' ((es.drop off).take len ++ ys), C.w.drew.alloc (.cells cs e)⟩)
         (j := site) (es := (es.drop off).take len ++ ys) (s := s') (g := (C.H site).gen + 1) (cap' := cap2) (len := len + ys.length) (by simp [Heap.newRow]) (by simp) (Gj _ _) (by omega) (by omega) (by omega) (by omega) (r := true) rfl (t := true)
        rw [hlen'] at this
        exact this
       ·simp at h
    ·simp at h
 ·simp at h
theorem eC {e : TypeId} {s : Nat} {z : AV} (h : Fv P e = some (s, z)) : ∃ i z', P.info? e = some i ∧ i.size = s ∧ i.bytes ≤ 1024 ∧ 0 < i.bytes ∧ i.zero = some z' ∧ z'.cells.size = s ∧ cvt z' = some z ∧ z.cells.length = s ∧ Dq z = true := by
 obtain ⟨i, z', i1, i2, i3, i4, i5, i6, i7, i8, i9, i10⟩ := Jg h
 exact ⟨i, z', i1, i4, i7, i6, i2, i9, i3, i8, i10⟩
theorem nS {u e : TypeId} {s : Nat} {y : AV} {y' : Value} {ys : List AV} {js : List Nat} (hR : Rel C) (hs : 0 < s) (hy : VR C true true y y') (h : Ch C.H s y = some (ys, js))
  (hu : (∃ e', P.underlying u = some (.slice e')) ∨ P.underlying u = some .string) : ∃ vs, Behind P C.w u e s y' ys.length vs ∧ CRL C true true s ys vs := by
 rcases Xe hR hy h with ⟨ad, cap, vs, rfl, hc, hm⟩ | ⟨b, rfl, hs1, rfl⟩
 ·have hl := CRL.length hc
  refine ⟨vs, ⟨hl, CRL.one hc, .inr ⟨hu, fun w' hw' => ⟨by simp [Builtin.lenOf], ?_⟩⟩⟩, hc⟩
  by_cases hne : ys = []
  ·subst hne
   simp only [CRL] at hc
   subst hc
   cases ad <;> simp [Builtin.firstCells, loadCells, loadCellsFrom]
  ·obtain ⟨b, off, rfl, hrow⟩ := hm hne
   have hrow' : rowAt w' b off vs := fun i v hv => by
    rw [cell?_of_block (w := C.w) (by rw [hw'])]; exact hrow i v hv
   have := Kx (P := P) w' hrow'
   rw [hl] at this
   simpa [Builtin.firstCells] using this
 ·subst hs1
  have hbs : b.data.toList.length = b.size := by rw [Jz]; rfl
  refine ⟨b.data.toList.map fun c => Value.int .u8 c.toNat, ⟨by simp, ?_, .inr ⟨hu, fun w' hw' => ⟨by simp [Builtin.lenOf], ?_⟩⟩⟩, bA _⟩
  ·intro x hx
   simp only [Ca] at hx
   obtain ⟨c, _, rfl⟩ := hx
   rfl
  ·rw [Ak, hbs]
   have e1 : b.extract 0 b.size = b := by simp
   simp only [Builtin.firstCells, e1, zX]
   congr 1
   apply Jp
   simp
theorem Mu : ∀ (K : List Nat) (H : Heap) (i : Nat), Se H K i = if i ∈ K then ⟨(H i).gen, true, (H i).st⟩ else H i
 | [], H, i => by simp [Se]
 | j :: K, H, i => by
  simp only [Se, Mu K, Au]
  by_cases hi : i = j
  ·subst hi
   simp only [upd_same, true_or, if_true]
   split <;> rfl
  ·simp only [Ck _ _ hi, hi, false_or]
theorem lQ : ∀ (K : List Nat) {C : Ctx}, Rel C → Evo C { C with H := Se C.H K } ∧ Rel { C with H := Se C.H K }
 | [], C, hR => ⟨Evo.refl C, hR⟩
 | j :: K, C, hR => by
  obtain ⟨h1, h2⟩ := Ahk hR j
  obtain ⟨h3, h4⟩ := lQ K h2
  exact ⟨h1.trans h3, h4⟩
theorem yZ {C : Ctx} (hR : Rel C) {s : Nat} {ys ys' : List AV} {H1 : Heap} {K : List Nat} {vs : List Value} (h : Du C.H ys = some (ys', H1, K)) (hc : CRL C true true s ys vs) :
  Evo C { C with H := H1 } ∧ Rel { C with H := H1 } ∧ CRL { C with H := H1 } true true s ys' vs ∧ ys'.length = ys.length := by
 unfold Du at h
 split at h
 ·cases h
  exact ⟨Evo.refl C, hR, hc, rfl⟩
 ·cases h
  obtain ⟨hE, hR'⟩ := lQ (ys.flatMap (vis deep C.H)) hR
  refine ⟨hE, hR', ?_, by simp⟩
  refine CRL.weak (r := false) (t := false) (fun h => by cases h) (fun h => by cases h) ?_
  refine fA true hR (D := { C with H := Se C.H (ys.flatMap (vis deep C.H)) }) rfl (fun tt b ht hib => ?_) (ys.flatMap (vis deep C.H)) (fun j hj s1 es hst hne => ?_) deep (fun j hj => hj) hc
  ·exact hE.ib hib
  ·have hlive := Pd hst hne
   have hl := hR.lt hlive
   refine ⟨hl.1, ?_, fun _ => hl.2⟩
   rintro ⟨i, hm, hi⟩
   simp only [Mu] at hm
   by_cases hik : i ∈ ys.flatMap (vis deep C.H)
   ·rw [if_pos hik] at hm
    simp [Blk.mut] at hm
   ·rw [if_neg hik] at hm
    exact hR.inj i j hm hlive (fun h => hik (h ▸ hj)) hi
theorem Aci {t u e : TypeId} {x y : Operand} {sx sy : SArg} {c : Call} {site s : Nat} {z : AV} (ho : o.op = .call c) (hc : c.callee = .builtin .append) (hts : c.argTypes = #[t, u]) (hxs : c.args = #[x, y])
  (hu : elemOf? P t = some e) (hi : Fv P e = some (s, z)) (hui : (∃ e', P.underlying u = some (.slice e')) ∨ P.underlying u = some .string)
  (hR : Rel C) (hT : TR C n T a.tmps) (hx : sarg x = some sx) (hy : sarg y = some sy)
  (h : aop cf xf base T C.H (.app site s sx sy) = some (v, H', fp)) : Dd P o a C v H' := by
 obtain ⟨i, z', i1, i2, i3, i4, i5, i6, i7, i8, i9⟩ := eC hi
 obtain ⟨_, _, _, _, _, _, hs0, _⟩ := Jg hi
 simp only [aop, Gv] at h
 cases e1 : Ch C.H s (sy.ev T) with
 | none => simp [e1] at h
 | some p =>
  obtain ⟨ys, js⟩ := p
  simp only [e1, Ac, Aa] at h
  cases e3 : Du C.H ys with
  | none => simp [e3] at h
  | some p3 =>
  obtain ⟨ys', H1, K⟩ := p3
  simp only [e3, Aa] at h
  cases e2 : Dc H1 (base + site) s (sx.ev T) ys' with
  | none => simp [e2] at h
  | some q =>
   obtain ⟨v2, H2, f2⟩ := q
   simp only [e2, Aa, Ae, Ah] at h
   obtain ⟨rfl, rfl, _⟩ := h
   obtain ⟨vs, hB, hcr⟩ := nS (P := P) (u := u) (e := e) hR hs0 (Ct hT hy) e1 hui
   obtain ⟨hE1, hR1, hcr1, hl1⟩ := yZ hR e3 hcr
   obtain ⟨v', μ', w', r1, r2, r3, r4⟩ := cH (P := P) (ty := o.type) (C := { C with H := H1 }) hR1 (Hq hu) i1 i2 i3 i4 i5 i6 (VR.mono hE1 (Ct hT hx)) hB hl1 hcr1 e2
   exact ⟨v', μ', w', .inl (by simp [Ee ho hc, hts, hxs, builtin, r1]), hE1.trans r2, r3, r4⟩
theorem Aeh {t u e : TypeId} {x y : Operand} {sx sy : SArg} {c : Call} {site s : Nat} {z : AV} (ho : o.op = .call c) (hc : c.callee = .builtin .append) (hts : c.argTypes = #[t, u]) (hxs : c.args = #[x, y])
  (hu : elemOf? P t = some e) (hi : Fv P e = some (s, z)) (hui : rY P u = true)
  (hR : Rel C) (hT : TR C n T a.tmps) (hx : sarg x = some sx) (hy : sarg y = some sy)
  (h : aop cf xf base T C.H (.appZ site s z sx sy) = some (v, H', fp)) : Dd P o a C v H' := by
 obtain ⟨i, z', i1, i2, i3, i4, i5, i6, i7, i8, i9⟩ := eC hi
 simp only [aop] at h
 cases e1 : Fb (sy.ev T) with
 | none => simp [e1] at h
 | some m =>
  obtain ⟨k, hk⟩ := Ot (Ct hT hy) e1
  simp only [e1, Ac, Aa] at h
  split at h
  ·rename_i hcnd
   have hel := wN (C := C) (r := true) (t := true) i9 i8 (bS i7)
   have hB : Behind P C.w u e s (a.eval y) m (List.replicate m z'.cells.toList).flatten := by
    refine ⟨by simp [i6], ?_, .inl ⟨hui, k, hk, hcnd.1, i, z', i1, i5, rfl, i6⟩⟩
    intro x hx
    simp only [List.mem_flatten, List.mem_replicate] at hx
    obtain ⟨l, ⟨_, rfl⟩, hx⟩ := hx
    exact VRL.one hel.2 x hx
   obtain ⟨v', μ', w', r1, r2, r3, r4⟩ := cH (P := P) (ty := o.type) hR (Hq hu) i1 i2 i3 i4 i5 i6 (Ct hT hx) hB (by simp) (CRL.replicate hel m) h
   exact ⟨v', μ', w', .inl (by simp [Ee ho hc, hts, hxs, builtin, r1]), r2, r3, r4⟩
  ·simp at h
set_option maxHeartbeats 1000000 in
theorem Aec {t u e : TypeId} {x y : Operand} {sx sy : SArg} {c : Call} {s : Nat} {z : AV} (ho : o.op = .call c) (hc : c.callee = .builtin .copy) (hts : c.argTypes = #[t, u]) (hxs : c.args = #[x, y])
  (hu : elemOf? P t = some e) (hi : Fv P e = some (s, z))
  (hR : Rel C) (hT : TR C n T a.tmps) (hx : sarg x = some sx) (hy : sarg y = some sy)
  (h : aop cf xf base T C.H (.copy s sx sy) = some (v, H', fp)) : Dd P o a C v H' := by
 obtain ⟨i, z', i1, i2, i3, i4, i5, i6, i7, i8, i9⟩ := eC hi
 obtain ⟨_, _, _, _, _, _, hs0, _⟩ := Jg hi
 have hx' := Ct hT hx
 have hy' := Ct hT hy
 have hsz : ∀ w : World, (sizeOf e).run P w = .ok s w := fun w => by simp [sizeOf, typeInfo, i1, i2]
 simp only [aop, kS] at h
 cases e1 : Ch C.H s (sy.ev T) with
 | none => simp [e1] at h
 | some p =>
  obtain ⟨ys, js⟩ := p
  simp only [e1, Ac, Aa] at h
  have hsrc : ∀ k, k ≤ ys.length → ∃ vs, vs.length = k * s ∧ CRL C true true s (ys.take k) vs ∧ (Builtin.lenOf (a.eval y)).run P C.w = .ok ys.length C.w ∧ (Builtin.firstCells s k (a.eval y)).run P C.w = .ok vs.toArray C.w := by
   intro k hk
   rcases Xe hR hy' e1 with ⟨ad, cap, vs, hv, hcr, hm⟩ | ⟨b, hv, hs1, hys⟩
   ·have hk0 : (ys.take k).length = k := by rw [Cf]; omega
    have hcl := CRL.length (hcr.take k)
    rw [hk0] at hcl
    refine ⟨vs.take (k * s), hcl, hcr.take k, by simp [hv, Builtin.lenOf], ?_⟩
    rw [hv]
    by_cases hne : ys = []
    ·subst hne
     have : k = 0 := by simpa using hk
     subst this
     cases ad <;> simp [Builtin.firstCells, loadCells, loadCellsFrom]
    ·obtain ⟨b, off, rfl, hrow⟩ := hm hne
     have := Kx (P := P) C.w (hrow.take (k * s))
     rw [hcl] at this
     simpa [Builtin.firstCells] using this
   ·subst hs1
    subst hys
    have hbs : b.data.toList.length = b.size := by rw [Jz]; rfl
    rw [Ak, hbs] at hk ⊢
    refine ⟨(b.data.toList.take k).map fun c => Value.int .u8 c.toNat, by rw [Ak, Cf, hbs]; omega, ?_, by rw [hv]; simp [Builtin.lenOf], ?_⟩
    ·rw [← bZ]; exact bA _
    ·rw [hv]
     simp only [Builtin.firstCells, zX]
     congr 1
     apply Jp
     simp [ByteArray.data_extract, Array.toList_extract, bZ]
  cases e2 : Bq ys with
  | false => simp [e2] at h
  | true =>
  simp only [e2, Jq, Ap, Bx] at h
  split at h
  ·rename_i tt full s' es hq
   split at h
   ·rename_i hcn
    simp only [Ae, Ah] at h
    obtain ⟨rfl, rfl, _⟩ := h
    rw [hq] at hx'
    simp only [VR] at hx'
    obtain ⟨_, ad, cap', hv, _⟩ := hx'
    obtain ⟨vs, hvl, _, hlen, hfirst⟩ := hsrc 0 (Eg _)
    have hv0 : vs = [] := by simpa using hvl
    subst hv0
    have hmin : Nat.min ys.length es.length = 0 := by rcases hcn with hcn | hcn <;> simp [isNil_iff.1 hcn]
    refine Bk hR (v' := .int .i64 0) ?_ (by simp [VR])
    cases ad <;> simp [Ee ho hc, hts, hxs, builtin, Builtin.copy_, Am (Hq hu), hv, hlen, hmin, hsz, hfirst, storeCells, goInt]
   ·simp at h
  ·rename_i j g ver s' off len cap hq
   rw [hq] at hx'
   split at h
   ·simp at h
   ·rename_i es hes
    split at h
    ·rename_i hcn
     obtain ⟨rfl, hle⟩ := hcn
     simp only [Ae, Ah] at h
     obtain ⟨rfl, rfl, _⟩ := h
     obtain ⟨hes1, hro⟩ := rowW_some.1 hes
     have hes' := row_some.1 hes1
     simp only [VR] at hx'
     obtain ⟨_, hp, ad, cap', hv, hcap, hk⟩ := hx'
     obtain ⟨k1, k2, k3⟩ := hk es hes1
     obtain ⟨m, hm⟩ : ∃ m, m = min ys.length len := ⟨_, rfl⟩
     have hmN : Nat.min ys.length len = m := hm.symm
     rw [← hm]
     obtain ⟨vs, hvl, hcr, hlen, hfirst⟩ := hsrc m (by omega)
     by_cases hm0 : m = 0
     ·have hv0 : vs = [] := by rw [hm0] at hvl; simpa using hvl
      subst hv0
      have hH : C.H.setRow j s' (es.take off ++ ys.take m ++ es.drop (off + m)) = C.H := by
       rw [hm0]
       simp only [Ix, Bt, El, Iy]
       exact rQ _ _ _ _ hes'.2.1 hro
      rw [hH]
      refine Bk hR (v' := .int .i64 0) ?_ (by rw [hm0]; simp [VR])
      rw [hm0] at hmN hfirst
      cases ad <;> simp [Ee ho hc, hts, hxs, builtin, Builtin.copy_, Am (Hq hu), hv, hlen, hmN, hsz, hfirst, storeCells, goInt]
     ·have hne : es ≠ [] := by intro h; subst h; simp at hes'; omega
      obtain ⟨_, cc, el, fzz, hobj, hok⟩ := hR.mem hes'.2.1 hne
      obtain ⟨k4, _⟩ := k3 (by omega) (by omega)
      subst k4
      have hle2 := hok.le
      have hml : (off + m) * s' ≤ es.length * s' := Ef _ (by omega)
      have hml2 : off * s' + m * s' ≤ es.length * s' := by rw [← Cp]; exact hml
      have hrun := Gm (P := P) (off := off * s') vs 0 cc C.w hobj hok.uf (by rw [hvl]; omega) (CRL.one hcr)
      simp only [El, hvl] at hrun
      have hnew := ((hok.cells.take off).append hcr).append (hok.cells.drop (off + m))
      have hlist := vZ cc.toList vs (off * s') (m * s') (es.length * s') hvl hml2 (by simpa using hle2)
      have hlen2 : (es.take off ++ ys.take m ++ es.drop (off + m)).length = es.length := by simp; omega
      obtain ⟨hE, hR'⟩ := eB hR (j := j) (s := s') (es := es) (es' := es.take off ++ ys.take m ++ es.drop (off + m)) hes'.2.1 hro hlen2 (c := cc) (c' := (cc.toList.take (off * s') ++ vs ++ cc.toList.drop (off * s' + m * s')).toArray) (el := el) (fz := fzz)
       (Es C.w (C.μ j) (.cells (cc.toList.take (off * s') ++ vs ++ cc.toList.drop (off * s' + m * s')).toArray el fzz)) (fun _ => hobj) hok.uf (by simp [hvl]; omega) hle2
       (fun _ => rfl) (fun h => absurd h hne) rfl rfl rfl (by rw [hlen2]; rw [hlist]; rw [Cp] at hnew; exact hnew)
      refine ⟨.int .i64 m, C.μ, _, .inl ?_, hE, hR', by simp [VR]⟩
      simp [Ee ho hc, hts, hxs, builtin, Builtin.copy_, Am (Hq hu), hv, hlen, hmN, hsz, hfirst, hrun, goInt]
    ·simp at h
  ·simp at h
end ops
end Go.AI
namespace Go.AI
theorem xG {C : Ctx} (hR : Rel C) (j : Nat) :
  Evo C ⟨C.F, updN C.μ j C.w.heap.size, C.H.upd j ⟨(C.H j).gen + 1, false, .map []⟩, C.w.alloc (.map #[] 0)⟩ ∧ Rel ⟨C.F, updN C.μ j C.w.heap.size, C.H.upd j ⟨(C.H j).gen + 1, false, .map []⟩, C.w.alloc (.map #[] 0)⟩ := by
 have hg : ¬ ((C.H j).gen + 1 = (C.H j).gen) := by omega
 obtain ⟨hE, hr⟩ := Oe hR j ⟨(C.H j).gen + 1, false, .map []⟩ C.w.heap.size (C.w.alloc (.map #[] 0)) (by simp) (fun h => absurd h hg) (fun h => absurd h hg)
  (by simp) (fun b hb _ => Kh _ _ hb) (fun b e n h => Po _ _ _ _ _ h) (fun _ => .inr (Ao _)) (fun _ => .inr (Ao _)) rfl rfl rfl
 refine ⟨hE, hr ?_⟩
 unfold BR
 simp only [upd_same, updN_same]
 exact ⟨fun hF => by have := hR.fsz _ hF; omega, #[], 0, Gj _ _, by simp [MapRel]⟩
theorem dS {C : Ctx} (hR : Rel C) {j : Nat} {es es' : List (Int × AV)} (hst : (C.H j).st = .map es) (hro : (C.H j).ro = false) {ents ents' : Array MapEntry} {clock clock' : Nat}
  (hobj : C.w.heap[C.μ j]? = some (.map ents clock)) (hc : MapRel C es' ents'.toList) :
  Evo C ⟨C.F, C.μ, C.H.upd j ⟨(C.H j).gen, false, .map es'⟩, Es C.w (C.μ j) (.map ents' clock')⟩ ∧ Rel ⟨C.F, C.μ, C.H.upd j ⟨(C.H j).gen, false, .map es'⟩, Es C.w (C.μ j) (.map ents' clock')⟩ := by
 have hμ : updN C.μ j (C.μ j) = C.μ := by funext i; by_cases h : i = j <;> simp [updN, h]
 have hk : ∀ b, b ≠ C.μ j → (Es C.w (C.μ j) (.map ents' clock')).heap[b]? = C.w.heap[b]? := fun b hb => by simp only [Es]; rw [Eu, if_neg (Ne.symm hb)]
 have hl := Ado hst
 have hmut : (C.H j).mut = true := by unfold Blk.mut; rw [hl, hro]; rfl
 obtain ⟨hE, hr⟩ := Oe hR j ⟨(C.H j).gen, false, .map es'⟩ (C.μ j) (Es C.w (C.μ j) (.map ents' clock')) (Ao _)
  (fun _ s1 es1 h1 => by cases h1) (fun _ es1 h1 _ => ⟨⟨es, hst⟩, hro, rfl⟩)
  (by simp [Es]) (fun b hb hn => hk b fun h2 => hn ⟨hmut, h2⟩)
  (fun b e n h => by
   by_cases hb : b = C.μ j
   ·subst hb
    unfold World.shape? at h
    rw [hobj] at h
    cases h
   ·unfold World.shape? at h ⊢
    rw [hk b hb]; exact h)
  (fun h => .inl ⟨rfl, hmut⟩) (fun h => .inl ⟨rfl, hl⟩) rfl rfl rfl
 rw [hμ] at hE hr
 refine ⟨hE, hr ?_⟩
 unfold BR
 simp only [upd_same]
 refine ⟨(hR.lt hl).2, ents', clock', ?_, MapRel.mono hE hc⟩
 simp only [Es]
 rw [Eu, if_pos rfl, hobj]; rfl
theorem dZ {C : Ctx} (n : Int) (k : IntKind) : ∀ {es : List (Int × AV)} {ents : List MapEntry} (i : Nat), MapRel C es ents →
  (Xn n es = none ∧ Instr.findNow (.int k) (.int .i64 n) ents i = some none ∧ Rk n es = es ∧ ∀ a v born, VR C true true a v → MapRel C (Rn n a es) (ents ++ [⟨.int .i64 n, v, born⟩])) ∨
  (∃ j u w e, Xn n es = some u ∧ Instr.findNow (.int k) (.int .i64 n) ents i = some (some (i + j, w)) ∧ VR C true true u w ∧ ents[j]? = some e ∧ e.key = .int .i64 n ∧ MapRel C (Rk n es) (ents.eraseIdx j) ∧
   ∀ a v, VR C true true a v → MapRel C (Rn n a es) (ents.modify j fun e => { e with key := .int .i64 n, val := v }))
 | [], ents, i, h => by
  simp only [MapRel] at h
  subst h
  refine .inl ⟨rfl, rfl, rfl, fun a v born hv => ?_⟩
  simp only [Rn, Dk, MapRel]
  exact ⟨_, _, rfl, rfl, hv, rfl⟩
 | (b, u) :: es, ents, i, h => by
  simp only [MapRel] at h
  obtain ⟨e, es', rfl, hk, hv, hr⟩ := h
  by_cases hb : n = b
  ·subst hb
   refine .inr ⟨0, u, e.val, e, by simp [Xn], by simp [Instr.findNow, Instr.sameNow, hk], hv, rfl, hk, by simpa [Rk] using hr, fun a v ha => ?_⟩
   simp only [Rn, if_true, List.modify_zero_cons, MapRel]
   exact ⟨_, _, rfl, rfl, ha, hr⟩
  ·have hf : Instr.findNow (.int k) (.int .i64 n) (e :: es') i = Instr.findNow (.int k) (.int .i64 n) es' (i + 1) := by
    simp [Instr.findNow, Instr.sameNow, hk, beq_eq_false_iff_ne.2 hb]
   rcases dZ n k (i + 1) hr with ⟨h1, h2, h3, h4⟩ | ⟨j, u', w, e', h1, h2, h3, h4, h5, h6, h7⟩
   ·refine .inl ⟨by simp [Xn, hb, h1], by rw [hf, h2], by simp [Rk, hb, h3], fun a v born ha => ?_⟩
    simp only [Rn, hb, Bx, Hf, MapRel]
    exact ⟨_, _, rfl, hk, hv, h4 a v born ha⟩
   ·refine .inr ⟨j + 1, u', w, e', by simp [Xn, hb, h1], by rw [hf, h2]; congr 3; omega, h3, by simpa using h4, h5, ?_, fun a v ha => ?_⟩
    ·simp only [Rk, hb, Bx, List.eraseIdx_cons_succ, MapRel]
     exact ⟨_, _, rfl, hk, hv, h6⟩
    ·simp only [Rn, hb, Bx, List.modify_succ_cons, MapRel]
     exact ⟨_, _, rfl, hk, hv, h7 a v ha⟩
theorem MapRel.length {C : Ctx} : ∀ {es : List (Int × AV)} {ents : List MapEntry}, MapRel C es ents → ents.length = es.length
 | [], _, h => by simp only [MapRel] at h; subst h; rfl
 | (_, _) :: es, _, h => by
  simp only [MapRel] at h
  obtain ⟨e, es', rfl, _, _, hr⟩ := h
  simp [MapRel.length hr]
section ops
variable {P : Program} {o : Oper} {a : Act} {C : Ctx} {n : Nat} {T : Tmps} {cf : Cx} {xf : ExtF} {base : Nat} {v : AV} {H' : Heap} {fp : FP}
theorem Wp {t : TypeId} (h : cR P t = true) : P.underlying t = some (.int .i64) := by
 unfold cR at h
 split at h
 ·assumption
 ·simp at h
theorem kA {t : TypeId} (h : P.underlying t = some (.int .i64)) (b : Bool) (d : Nat) (k : IntKind) (n : Int) (w : World) : (Instr.checkKey b (d + 1) t (.int k n)).run P w = .ok () w := by
 simp [Instr.checkKey, Am h]
theorem Jv {t : TypeId} (h : P.underlying t = some (.int .i64)) (b : Bool) (k : IntKind) (n : Int) (w : World) : (Instr.checkKey b 10000 t (.int k n)).run P w = .ok () w := kA h b 9999 k n w
theorem oS {j g : Nat} {es : List (Int × AV)} {v' : Value} (hR : Rel C) (hes : C.H.mapAt j g = some es) (hv : VR C true true (.mp j g) v') :
  v' = .map (some (C.μ j)) ∧ ∃ ents clock, C.w.heap[C.μ j]? = some (.map ents clock) ∧ MapRel C es ents.toList := by
 simp only [VR] at hv
 obtain ⟨_, _, b, rfl, hb⟩ := hv
 have hm := mapAt_some.1 hes
 have hblk := hR.blk j
 unfold BR at hblk
 rw [hm.2.2] at hblk
 obtain ⟨_, ents, clock, h1, h2⟩ := hblk
 exact ⟨by rw [hb es hes], ents, clock, h1, h2⟩
theorem Ra {b c : Nat} {x : Array MapEntry} {w : World} (h : w.heap[b]? = some (.map x c)) : (getObj b).run P w = .ok (.map x c) w := by
 simp [getObj, Sem.run, h]
theorem dT {b c : Nat} {x : Obj} {y : Array MapEntry} {w : World} (h : w.heap[b]? = some (.map y c)) : (setObj b x).run P w = .ok () (Es w b x) := by
 have e : w.heap.setIfInBounds b x = w.heap.modify b fun _ => x := by
  apply Array.ext
  ·simp
  ·intro k k1 k2
   rw [Sq, Array.getElem_setIfInBounds]
 simp [setObj, Sem.run, h, Es, e]
theorem Abj {t : TypeId} {site : Nat} (ho : o.op = .makeMap t none) (hR : Rel C)
  (h : aop cf xf base T C.H (.mkmap site) = some (v, H', fp)) : Dd P o a C v H' := by
 simp only [aop, Ae, Ah] at h
 obtain ⟨rfl, rfl, _⟩ := h
 obtain ⟨hE, hR'⟩ := xG hR (base + site)
 refine ⟨.map (some C.w.heap.size), _, _, .inl ?_, hE, hR', ?_⟩
 ·simp [execOp, ho, Instr.makeMap, newObj, Sem.run]
 ·simp only [VR]
  refine ⟨trivial, ⟨by simp, fun _ s es hs => by simp at hs⟩, _, rfl, fun es _ => by simp⟩
theorem zG {t k e : TypeId} {x i : Operand} {sx si : SArg} {z : AV} {ok : Bool} (ho : o.op = .lookup t x i ok) (hu : P.underlying t = some (.map k e)) (hk : cR P k = true) (hi : Fv P e = some (1, z))
  (hR : Rel C) (hT : TR C n T a.tmps) (hx : sarg x = some sx) (hy : sarg i = some si)
  (h : aop cf xf base T C.H (.lookup z sx si ok) = some (v, H', fp)) : Dd P o a C v H' := by
 obtain ⟨inf, z', i1, i2, i3, i4, i5, i6, i7, i8, i9⟩ := eC hi
 have hx' := Ct hT hx
 have hy' := Ct hT hy
 simp only [aop] at h
 split at h
 ·rename_i j g m hq1 hq2
  rw [hq1] at hx'; rw [hq2] at hy'
  cases hes : C.H.mapAt j g with
  | none => simp [hes] at h
  | some es =>
   simp only [hes, Ac, Aa, Ae, Ah] at h
   obtain ⟨rfl, rfl, _⟩ := h
   obtain ⟨hv, ents, clock, hobj, hrel⟩ := oS hR hes hx'
   simp only [VR] at hy'
   have hku := Wp hk
   rcases dZ m .i64 0 hrel with ⟨h1, h2, _, _⟩ | ⟨j', u, w, e', h1, h2, h3, _⟩
   ·have hzv := bS (C := C) (r := true) (t := true) i7
    refine Bk hR (v' := if ok then .tuple #[z', .bool false] else z') ?_ ?_
    ·cases ok <;> simp [execOp, ho, hv, hy', Instr.lookup, Am hu, Ra hobj, Jv hku, Instr.findKey, Am hku, h2, zeroValue, typeInfo, i1, i5]
    ·rw [h1]
     cases ok
     ·simpa using hzv
     ·simp only [if_true, VR, VRT]
      exact ⟨_, rfl, _, _, rfl, hzv, _, _, rfl, rfl, rfl⟩
   ·refine Bk hR (v' := if ok then .tuple #[w, .bool true] else w) ?_ ?_
    ·cases ok <;> simp [execOp, ho, hv, hy', Instr.lookup, Am hu, Ra hobj, Jv hku, Instr.findKey, Am hku, h2]
    ·rw [h1]
     cases ok
     ·simpa using h3
     ·simp only [if_true, VR, VRT]
      exact ⟨_, rfl, _, _, rfl, h3, _, _, rfl, rfl, rfl⟩
 ·simp at h
theorem xU {t k e : TypeId} {x i y : Operand} {sx si sy : SArg} (ho : o.op = .mapUpdate t x i y) (hu : P.underlying t = some (.map k e)) (hk : cR P k = true)
  (hR : Rel C) (hT : TR C n T a.tmps) (hx : sarg x = some sx) (hi : sarg i = some si) (hy : sarg y = some sy)
  (h : aop cf xf base T C.H (.mapset sx si sy) = some (v, H', fp)) : Dd P o a C v H' := by
 have hx' := Ct hT hx
 have hi' := Ct hT hi
 have hy' := Ct hT hy
 simp only [aop] at h
 split at h
 ·rename_i j g m hq1 hq2
  rw [hq1] at hx'; rw [hq2] at hi'
  cases hes : C.H.mapAt j g with
  | none => simp [hes] at h
  | some es =>
   simp only [hes, Ac, Aa] at h
   split at h
   ·simp only [Ae, Ah] at h
    obtain ⟨rfl, rfl, _⟩ := h
    obtain ⟨hv, ents, clock, hobj, hrel⟩ := oS hR hes hx'
    obtain ⟨m1, m2, m3⟩ := mapAt_some.1 hes
    simp only [VR] at hi'
    have hku := Wp hk
    rcases dZ m .i64 0 hrel with ⟨h1, h2, _, h4⟩ | ⟨j', u, w, e', h1, h2, h3, h5, h6, _, h7⟩
    ·obtain ⟨hE, hR'⟩ := dS hR m3 m2 hobj (ents' := ents.push ⟨.int .i64 m, a.eval y, clock⟩) (clock' := clock + 1) (by simpa using h4 _ _ clock hy')
     refine ⟨Go.undef, C.μ, _, .inr ⟨?_, rfl⟩, hE, hR', by simp [VR]⟩
     simp [execOp, ho, hv, hi', Instr.mapUpdate, Am hu, Ra hobj, Jv hku, Instr.findKey, Am hku, h2, dT hobj]
    ·obtain ⟨hE, hR'⟩ := dS hR m3 m2 hobj (ents' := ents.modify j' fun e => { e with key := .int .i64 m, val := a.eval y }) (clock' := clock) (by simpa [Array.toList_modify] using h7 _ _ hy')
     refine ⟨Go.undef, C.μ, _, .inr ⟨?_, rfl⟩, hE, hR', by simp [VR]⟩
     have h5' : ents[j']? = some e' := by simpa using h5
     simp [execOp, ho, hv, hi', Instr.mapUpdate, Am hu, Ra hobj, Jv hku, Instr.findKey, Am hku, h2, dT hobj, h5', h6, Instr.keyThatStays, Instr.sameBits]
   ·simp at h
 ·simp at h
theorem zW {t u k e : TypeId} {x y : Operand} {sx sy : SArg} {c : Call} (ho : o.op = .call c) (hc : c.callee = .builtin .delete) (hts : c.argTypes = #[t, u]) (hxs : c.args = #[x, y])
  (hu : P.underlying t = some (.map k e)) (hk : cR P k = true) (hR : Rel C) (hT : TR C n T a.tmps) (hx : sarg x = some sx) (hy : sarg y = some sy)
  (h : aop cf xf base T C.H (.mapdel sx sy) = some (v, H', fp)) : Dd P o a C v H' := by
 have hx' := Ct hT hx
 have hy' := Ct hT hy
 simp only [aop] at h
 split at h
 ·rename_i j g m hq1 hq2
  rw [hq1] at hx'; rw [hq2] at hy'
  cases hes : C.H.mapAt j g with
  | none => simp [hes] at h
  | some es =>
   simp only [hes, Ac, Aa, Ae, Ah] at h
   obtain ⟨rfl, rfl, _⟩ := h
   obtain ⟨hv, ents, clock, hobj, hrel⟩ := oS hR hes hx'
   obtain ⟨m1, m2, m3⟩ := mapAt_some.1 hes
   simp only [VR] at hy'
   have hku := Wp hk
   rcases dZ m .i64 0 hrel with ⟨h1, h2, h3, _⟩ | ⟨j', u, w, e', h1, h2, _, h5, h6, h7, _⟩
   ·obtain ⟨hE, hR'⟩ := dS hR m3 m2 hobj (es' := Rk m es) (ents' := ents) (clock' := clock) (by rw [h3]; exact hrel)
    refine ⟨.tuple #[], C.μ, _, .inl ?_, hE, hR', by simp [VR, Go.undef]⟩
    simp [Ee ho hc, hts, hxs, builtin, Builtin.delete_, hv, hy', Am hu, Ra hobj, Jv hku, Instr.findKey, Am hku, h2, dT hobj]
   ·obtain ⟨hE, hR'⟩ := dS hR m3 m2 hobj (ents' := ents.eraseIdxIfInBounds j') (clock' := clock) (by simpa using h7)
    refine ⟨.tuple #[], C.μ, _, .inl ?_, hE, hR', by simp [VR, Go.undef]⟩
    simp [Ee ho hc, hts, hxs, builtin, Builtin.delete_, hv, hy', Am hu, Ra hobj, Jv hku, Instr.findKey, Am hku, h2, dT hobj]
 ·simp at h
theorem xN {t k e : TypeId} {x : Operand} {sx : SArg} {c : Call} (ho : o.op = .call c) (hc : c.callee = .builtin .len) (hts : c.argTypes = #[t]) (hxs : c.args = #[x])
  (hu : P.underlying t = some (.map k e)) (hR : Rel C) (hT : TR C n T a.tmps) (hx : sarg x = some sx)
  (h : aop cf xf base T C.H (.maplen sx) = some (v, H', fp)) : Dd P o a C v H' := by
 have hx' := Ct hT hx
 simp only [aop] at h
 split at h
 ·rename_i j g hq1
  rw [hq1] at hx'
  cases hes : C.H.mapAt j g with
  | none => simp [hes] at h
  | some es =>
   simp only [hes, Ac, Aa, Ae, Ah] at h
   obtain ⟨rfl, rfl, _⟩ := h
   obtain ⟨hv, ents, clock, hobj, hrel⟩ := oS hR hes hx'
   have hl : ents.size = es.length := by simpa using hrel.length
   refine Bk hR (v' := .int .i64 es.length) ?_ (by simp [VR])
   simp [Ee ho hc, hts, hxs, builtin, Builtin.len_, hv, Am hu, Ra hobj, goInt, hl]
 ·simp at h
end ops
end Go.AI
namespace Go.AI
section ops
variable {P : Program} {o : Oper} {a : Act} {C : Ctx} {n : Nat} {T : Tmps} {cf : Cx} {xf : ExtF} {base : Nat} {v : AV} {H' : Heap} {fp : FP}
def Rt : SOp → Bool
 | .call .. | .callv .. => true
 | _ => false
theorem vP {h : Hint} {b : Builtin} {c : Call} {sop : SOp} (ho : o.op = .call c) (hc : c.callee = .builtin b) (hs : Lq P h b c.argTypes.toList c.args.toList = some sop) (hR : Rel C) (hT : TR C n T a.tmps)
  (hop : aop cf xf base T C.H sop = some (v, H', fp)) : Dd P o a C v H' := by
 have arr1 : ∀ {α : Type} {xs : Array α} {x : α}, xs.toList = [x] → xs = #[x] := fun h => Jp (by simpa using h)
 have arr2 : ∀ {α : Type} {xs : Array α} {x y : α}, xs.toList = [x, y] → xs = #[x, y] := fun h => Jp (by simpa using h)
 unfold Lq at hs
 split at hs
 ·rename_i t x h1 h2
  split at hs
  ·rename_i e hu
   simp only [Al] at hs
   obtain ⟨sx, hx, rfl⟩ := hs
   exact Ahc ho hc (arr1 h1) (arr1 h2) hR hT hx hu hop
  ·rename_i m e hu
   simp at hs; subst hs
   exact Aer ho hc (arr1 h1) (arr1 h2) hR hu hop
  ·rename_i k e hu
   simp only [Al] at hs
   obtain ⟨sx, hx, rfl⟩ := hs
   exact xN ho hc (arr1 h1) (arr1 h2) hu hR hT hx hop
  ·simp at hs
 ·rename_i t x h1 h2
  split at hs
  ·rename_i e hu
   simp only [Al] at hs
   obtain ⟨sx, hx, rfl⟩ := hs
   exact Ahm ho hc (arr1 h1) (arr1 h2) hR hT hx hu hop
  ·simp at hs
 ·rename_i t u x y h1 h2
  split at hs
  ·rename_i e he
   split at hs
   ·rename_i s z hi
    split at hs
    ·rename_i sx sy hx hy
     split at hs
     ·rename_i k hu
      simp at hs; subst hs
      exact Aeh ho hc (arr2 h1) (arr2 h2) he hi (by simp [rY, hu]) hR hT hx hy hop
     ·rename_i e' hu
      simp at hs; subst hs
      exact Aci ho hc (arr2 h1) (arr2 h2) he hi (.inl ⟨e', hu⟩) hR hT hx hy hop
     ·rename_i hu
      simp at hs; subst hs
      exact Aci ho hc (arr2 h1) (arr2 h2) he hi (.inr hu) hR hT hx hy hop
     ·simp at hs
    ·simp at hs
   ·simp at hs
  ·simp at hs
 ·rename_i t u x y h1 h2
  split at hs
  ·rename_i e he
   split at hs
   ·rename_i s z hi
    split at hs
    ·rename_i sx sy hx hy
     simp at hs; subst hs
     exact Aec ho hc (arr2 h1) (arr2 h2) he hi hR hT hx hy hop
    ·simp at hs
   ·simp at hs
  ·simp at hs
 ·rename_i t u x y h1 h2
  split at hs
  ·rename_i k e hu
   split at hs
   ·rename_i hk
    split at hs
    ·rename_i sx sy hx hy
     simp at hs; subst hs
     exact zW ho hc (arr2 h1) (arr2 h2) hu hk hR hT hx hy hop
    ·simp at hs
   ·simp at hs
  ·simp at hs
 ·rename_i t1 t2 x y h1 h2
  split at hs
  ·rename_i sx sy hx hy
   simp at hs; subst hs
   exact xC (mx := false) ho hc (arr2 h2) hR hT hx hy hop
  ·simp at hs
 ·rename_i t1 t2 x y h1 h2
  split at hs
  ·rename_i sx sy hx hy
   simp at hs; subst hs
   exact xC (mx := true) ho hc (arr2 h2) hR hT hx hy hop
  ·simp at hs
 ·simp at hs
theorem Ahv {h : Hint} {sop : SOp} (hs : Pq P h o = some sop) (hnc : Rt sop = false) (hR : Rel C) (hT : TR C n T a.tmps)
  (hop : aop cf xf base T C.H sop = some (v, H', fp)) : Dd P o a C v H' := by
 unfold Pq at hs
 split at hs
 case h_1 x ho =>
  simp only [Al] at hs
  obtain ⟨sx, hx, rfl⟩ := hs
  exact Aft (.inl ho) hR hT hx hop
 case h_2 x ho =>
  split at hs
  ·rename_i hn
   simp only [Bu] at hn
   split at hs
   ·split at hs
    ·simp at hs; subst hs
     exact xT ho hn.2 hR hop
    ·simp at hs
   ·simp at hs
  ·simp only [Al] at hs
   obtain ⟨sx, hx, rfl⟩ := hs
   exact Aft (.inr ho) hR hT hx hop
 case h_3 c x y ho =>
  split at hs
  ·rename_i h1 h2 h3
   simp at hs; subst hs
   exact Aed ho hR hT h1 h2 h3 hop
  ·simp at hs
 case h_4 e ho =>
  simp only [Al] at hs
  obtain ⟨z, hz, rfl⟩ := hs
  split at hop
  ·exact jW ho hz hR hop
  ·exact oM ho hz hR hop
 case h_5 e x ho =>
  simp only [Al] at hs
  obtain ⟨sx, hx, rfl⟩ := hs
  split at hop
  ·exact sL ho hR hT hx hop
  ·exact uJ ho hR hT hx hop
 case h_6 t parts ho =>
  split at hs
  ·rename_i z hz
   split at hs
   ·rename_i places hp
    simp only [Al] at hs
    obtain ⟨sp, hsp, rfl⟩ := hs
    exact Acj ho hz hp hsp hR hT hop
   ·split at hs
    ·rename_i m e hu
     split at hs
     ·rename_i hc
      simp at hs; subst hs
      exact zT ho hz hu hc.1 hc.2 hR hop
     ·simp at hs
    ·simp at hs
  ·simp at hs
 case h_7 t m parts ho =>
  split at hs
  ·rename_i e he
   split at hs
   ·rename_i s z hi
    split at hs
    ·rename_i hc
     simp only [Al] at hs
     obtain ⟨sp, hsp, rfl⟩ := hs
     cases hn : h.nilrow with
     | true => rw [hn, if_pos rfl] at hop; exact uV ho he hi hc.1 hc.2 hsp hR hT hop
     | false => rw [hn, if_neg Kv] at hop; exact kK ho he hi hc.1 hc.2 hsp hR hT hop
    ·split at hs
     ·rename_i hc
      simp at hs; subst hs
      obtain ⟨rfl, hp⟩ := hc
      exact Ach ho he hi hp hR hop
     ·simp at hs
   ·simp at hs
  ·simp at hs
 case h_8 t x ho =>
  split at hs
  ·rename_i k sx hk hx
   split at hs
   ·rename_i h1
    simp at hs; subst hs
    exact Afo ho hR hT hx hk h1 hop
   ·simp at hs
  ·simp at hs
 case h_9 t x y ho =>
  split at hs
  ·rename_i k sx sy hk hx hy
   simp at hs; subst hs
   exact Aan ho hR hT hx hy hk hop
  ·simp at hs
 case h_10 x ho =>
  simp only [Al] at hs
  obtain ⟨sx, hx, rfl⟩ := hs
  exact Afe ho hR hT hx hop
 case h_11 op t x y yt ho =>
  split at hs
  ·rename_i neg hm
   have hop2 : op = if neg then BinOp.neq else .eql := by
    cases op <;> simp [isEq] at hm <;> subst hm <;> rfl
   split at hs
   ·split at hs
    ·rename_i sx sy hx hy
     simp at hs; subst hs
     exact uT ho hR hT hx hy hop
    ·simp at hs
   ·split at hs
    ·rename_i sx sy hx hy
     simp at hs; subst hs
     exact uT ho hR hT hx hy hop
    ·simp at hs
   ·rename_i e hu
    split at hs
    ·rename_i hn
     simp only [Al] at hs
     obtain ⟨sx, hx, rfl⟩ := hs
     exact Abm ho hop2 hn hu hR hT hx hop
    ·simp at hs
   ·simp at hs
  ·split at hs
   ·rename_i sx sy hx hy
    simp at hs; subst hs
    exact uT ho hR hT hx hy hop
   ·simp at hs
 case h_12 op t x ho =>
  simp only [Al] at hs
  obtain ⟨sx, hx, rfl⟩ := hs
  exact Aht ho hR hT hx hop
 case h_13 s d x ho =>
  split at hs
  ·rename_i k0 k sx h1 h2 hx
   simp at hs; subst hs
   exact Ahf ho h1 h2 hR hT hx hop
  ·rename_i e sx h1 h2 hx
   split at hs
   ·rename_i hc
    simp at hs; subst hs
    exact Aho ho h1 h2 hc hR hT hx hop
   ·simp at hs
  ·simp at hs
 case h_14 f first caps ho =>
  split at hs
  ·rename_i hf
   simp only [Al] at hs
   obtain ⟨sc, hc, rfl⟩ := hs
   exact Aej ho hf hR hT hc hop
  ·simp at hs
 case h_15 t l c ho =>
  split at hs
  ·rename_i e he
   split at hs
   ·rename_i s z hi
    split at hs
    ·rename_i sl sc hl hc
     simp at hs; subst hs
     cases hn : h.nilrow with
     | true => rw [hn, if_pos rfl] at hop; exact Afj ho he hi hR hT hl hc hop
     | false => rw [hn, if_neg Kv] at hop; exact Adb ho he hi hR hT hl hc hop
    ·simp at hs
   ·simp at hs
  ·simp at hs
 case h_16 t x lo hi mx ho =>
  split at hs
  ·rename_i sx slo shi smx hx h1 h2 h3
   split at hs
   ·rename_i e hu
    split at hs
    ·rename_i s hk
     simp at hs; subst hs
     exact Abp ho hu hk hR hT hx h1 h2 h3 hop
    ·simp at hs
   ·rename_i m e hu
    split at hs
    ·rename_i hm
     simp at hs; subst hs
     obtain ⟨m1, m2, m3, m4⟩ := hm
     have none_of : ∀ {q : Option Operand} {sq : Option SArg}, sopt q = some sq → sq.isNone = true → q = none := by
      intro q sq h1 h2
      cases q with
      | none => rfl
      | some q => simp [sopt] at h1; obtain ⟨_, _, rfl⟩ := h1; simp at h2
     exact zK ho hu (none_of h1 m1) (none_of h2 m2) (none_of h3 m3) m4 hR hT hx hop
    ·simp at hs
   ·simp at hs
  ·simp at hs
 case h_17 t x f ho =>
  split at hs
  ·rename_i off k b sx hf hx
   simp at hs; subst hs
   exact Adc ho hf hR hT hx hop
  ·simp at hs
 case h_18 t x f ho =>
  split at hs
  ·rename_i off k b sx hf hx
   split at hs
   ·rename_i h1
    simp at hs; subst hs
    exact Ade ho hf h1 hR hT hx hop
   ·simp at hs
  ·simp at hs
 case h_19 t x i ho =>
  split at hs
  ·rename_i sx si hx hi
   split at hs
   ·rename_i e hu
    split at hs
    ·rename_i s hk
     simp at hs; subst hs
     exact Acr ho hu hk hR hT hx hi hop
    ·simp at hs
   ·rename_i m e hu
    split at hs
    ·rename_i s hk
     simp at hs; subst hs
     exact xJ ho hu hk hR hT hx hi hop
    ·simp at hs
   ·simp at hs
  ·simp at hs
 case h_20 t x i ho =>
  split at hs
  ·rename_i sx si hx hi
   split at hs
   ·rename_i m e hu
    split at hs
    ·rename_i s hk
     split at hs
     ·rename_i h1
      simp at hs; subst hs
      exact yQ ho hu hk h1 hR hT hx hi hop
     ·simp at hs
    ·simp at hs
   ·simp at hs
  ·simp at hs
 case h_21 x i ho =>
  simp only [Al] at hs
  obtain ⟨sx, hx, rfl⟩ := hs
  exact vI ho hR hT hx hop
 case h_22 t ho =>
  simp at hs; subst hs
  exact Abj ho hR hop
 case h_23 t x i ok ho =>
  split at hs
  ·rename_i k e hu
   split at hs
   ·rename_i z hi
    split at hs
    ·rename_i hk
     split at hs
     ·rename_i sx si hx hy
      simp at hs; subst hs
      exact zG ho hu hk hi hR hT hx hy hop
     ·simp at hs
    ·simp at hs
   ·simp at hs
  ·simp at hs
 case h_24 t x i y ho =>
  split at hs
  ·rename_i k e hu
   split at hs
   ·rename_i hk
    split at hs
    ·rename_i sx si sy hx hi hy
     simp at hs; subst hs
     exact xU ho hu hk hR hT hx hi hy hop
    ·simp at hs
   ·simp at hs
  ·simp at hs
 case h_25 c ho =>
  split at hs
  ·rename_i b hc
   exact vP ho hc hs hR hT hop
  ·split at hs
   ·split at hs
    ·simp only [Al] at hs
     obtain ⟨_, _, rfl⟩ := hs
     simp [Rt] at hnc
    ·simp at hs
   ·simp at hs
  ·simp only [Al] at hs
   obtain ⟨_, _, rfl⟩ := hs
   simp [Rt] at hnc
  ·simp at hs
 all_goals simp at hs
end ops
end Go.AI
namespace Go.AI
def Done (C : Ctx) (v : AV) (H' : Heap) (e : Ending) (w' : World) : Prop :=
 ∃ v' μ', e = .returned v' ∧ Evo C ⟨C.F, μ', H', w'⟩ ∧ Rel ⟨C.F, μ', H', w'⟩ ∧ VR ⟨C.F, μ', H', w'⟩ true true v v'
def Zn (P : Program) (f : Nat) : Prop := ∃ fn, P.funcs[f]? = some fn ∧ fn.body.isSome = true ∧ fn.name ≠ "runtime.NumGoroutine"
def Pn (P : Program) (cf : Cx) : Prop := ∀ (C : Ctx) (f base : Nat) (args : List AV) (v : AV) (H' : Heap) (vs : Array Value), Rel C → cf f base args C.H = some (v, H') → VRT C true true args vs.toList →
 Zn P f ∧ Calls P f vs C.w (Done C v H')
def Vw (P : Program) (xf : ExtF) : Prop := ∀ (C : Ctx) (f : Nat) (args : List AV) (v : AV) (vs : Array Value), Rel C → xf f args = some v → VRT C false true args vs.toList →
 Zn P f ∧ Calls P f vs C.w (fun e w' => ∃ v', e = .returned v' ∧ Evo C { C with w := w' } ∧ Rel { C with w := w' } ∧ VR { C with w := w' } false false v v')
def sub (C : Ctx) : Ctx := ⟨fun b => C.F b ∨ Own C b, fun _ => 0, Heap.none, C.w⟩
theorem uS {C : Ctx} (hR : Rel C) {b : Nat} (h : Own C b) : b < C.w.heap.size := by
 obtain ⟨j, h1, rfl⟩ := h
 exact (hR.lt (iM h1)).1
theorem dU (C : Ctx) (b : Nat) : ¬ Own (sub C) b := by
 rintro ⟨j, h1, _⟩
 simp [sub, Heap.none, Blk.mut, Blk.live] at h1
theorem oJ {C : Ctx} (hR : Rel C) : Rel (sub C) :=
 ⟨fun b hb => hb.elim (hR.fsz b) (uS hR), fun j => by simp [BR, sub, Heap.none], fun i j h1 => by simp [sub, Heap.none, Blk.mut, Blk.live] at h1, fun b hb => ⟨.inl (hR.gl b hb).1, (hR.gl b hb).2⟩⟩
theorem back {C C1 : Ctx} (hR : Rel C) (hE : Evo (sub C) C1) : Evo C { C with w := C1.w } ∧ Rel { C with w := C1.w } := by
 have hk : ∀ b, b < C.w.heap.size → C1.w.heap[b]? = C.w.heap[b]? := fun b hb => hE.keep b hb (dU C b)
 have hE' : Evo C { C with w := C1.w } :=
  ⟨rfl, hE.size, fun b hb _ => hk b hb, fun b h => .inl h, fun _ _ _ h => h, fun _ _ _ _ es' _ h => ⟨⟨es', h⟩, fun _ => rfl⟩, fun _ _ es' _ h => ⟨⟨es', h⟩, rfl⟩, hE.shape, hE.os, hE.tape, hE.output⟩
 exact ⟨hE', ⟨fun b hb => Iw (hR.fsz b hb) hE.size, fun j => BR.mono hE' rfl (fun _ => rfl) (fun hl => hk _ (hR.lt hl).1) (hR.blk j), hR.inj, hR.glm hE'⟩⟩
theorem Afr {C D C1 : Ctx} (hR : Rel C) (hD : D.w = C.w) (ho : ∀ b, ¬ Own D b) (hE : Evo D C1) : Evo C { C with w := C1.w } ∧ Rel { C with w := C1.w } := by
 have hk : ∀ b, b < C.w.heap.size → C1.w.heap[b]? = C.w.heap[b]? := fun b hb => by rw [← hD] at hb ⊢; exact hE.keep b hb (ho b)
 have hsz : C.w.heap.size ≤ C1.w.heap.size := by rw [← hD]; exact hE.size
 have hE' : Evo C { C with w := C1.w } :=
  ⟨rfl, hsz, fun b hb _ => hk b hb, fun b h => .inl h, fun _ _ _ h => h, fun _ _ _ _ es' _ h => ⟨⟨es', h⟩, fun _ => rfl⟩, fun _ _ es' _ h => ⟨⟨es', h⟩, rfl⟩, (by rw [← hD]; exact hE.shape), (by rw [← hD]; exact hE.os), (by rw [← hD]; exact hE.tape), (by rw [← hD]; exact hE.output)⟩
 exact ⟨hE', ⟨fun b hb => Iw (hR.fsz b hb) hsz, fun j => BR.mono hE' rfl (fun _ => rfl) (fun hl => hk _ (hR.lt hl).1) (hR.blk j), hR.inj, hR.glm hE'⟩⟩
def Nl (C : Ctx) (j s : Nat) (es : List AV) : Ctx := ⟨fun b => C.F b ∨ (Own C b ∧ b ≠ C.μ j), C.μ, Qz C.H j s es, C.w⟩
theorem Md (H : Heap) (j s : Nat) (es : List AV) : Qz H j s es j = ⟨(H j).gen, true, .row s es⟩ := upd_same _ _ _
theorem nN (H : Heap) {i j : Nat} (s : Nat) (es : List AV) (h : i ≠ j) : Qz H j s es i = Heap.none i := Ck _ _ h
theorem qF (C : Ctx) (j s : Nat) (es : List AV) (b : Nat) : ¬ Own (Nl C j s es) b := by
 rintro ⟨i, h1, _⟩
 by_cases hi : i = j
 ·subst hi; simp [Nl, Md, Blk.mut] at h1
 ·simp [Nl, nN _ _ _ hi, Heap.none, Blk.mut, Blk.live] at h1
theorem wT {C : Ctx} {j s : Nat} {es : List AV} (tt : Bool) (b : Nat) (h : IB C tt b) : IB (Nl C j s es) tt b :=
 ⟨h.1, qF C j s es b, fun ht hF => hF.elim (h.2.2 ht) fun h' => h.2.1 h'.1⟩
theorem rN {C : Ctx} {j s' : Nat} {fs : List AV} {s : Nat} : ∀ {es : List AV} {us : List Value}, Bq es = true → CRL C true true s es us → CRL (Nl C j s' fs) true true s es us
 | [], _, _, h => by simpa [CRL] using h
 | e :: es, _, hn, h => by
  simp only [Bq, Bu] at hn
  simp only [CRL] at h ⊢
  obtain ⟨⟨k0, k5, v, k1, k2, k3⟩, k4⟩ := h
  exact ⟨⟨k0, k5, v, VR.weak (by simp) (by simp) (VR.cast (C := C) (D := Nl C j s' fs) rfl (fun tt b _ => wT tt b) hn.1 k1), k2, k3⟩, rN hn.2 k4⟩
theorem Adh {C : Ctx} (hR : Rel C) {j s : Nat} {es : List AV} (hst : (C.H j).st = .row s es) (hn : Bq es = true) : Rel (Nl C j s es) := by
 refine ⟨fun b hb => hb.elim (hR.fsz b) fun h => uS hR h.1, fun i => ?_, fun i k h1 => ?_, fun b hb => ⟨.inl (hR.gl b hb).1, (hR.gl b hb).2⟩⟩
 ·by_cases hi : i = j
  ·subst hi
   have hb := hR.blk i
   unfold BR at hb ⊢
   simp only [Nl, Md]
   rw [hst] at hb
   cases es with
   | nil => trivial
   | cons e es =>
    obtain ⟨hF, c, el, fz, h2, h3⟩ := hb
    exact ⟨fun h => h.elim hF fun h => h.2 rfl, c, el, fz, h2, h3.uf, h3.le, rN hn h3.cells⟩
  ·unfold BR
   simp [Nl, nN _ _ _ hi, Heap.none]
 ·by_cases hi : i = j
  ·subst hi; simp [Nl, Md, Blk.mut] at h1
  ·simp [Nl, nN _ _ _ hi, Heap.none, Blk.mut, Blk.live] at h1
theorem Abh {C : Ctx} {j s s' g ver : Nat} {es es' : List AV} (hst : (C.H j).st = .row s' es) : (Qz C.H j s' es).row j g ver s = some es' ↔ C.H.row j g ver s = some es' := by
 rw [row_some, row_some, Md, hst]
def Vo (C : Ctx) (A : Nat → Prop) : Ctx := ⟨fun b => (C.F b ∧ ¬ A b) ∨ Own C b, fun _ => 0, Heap.none, C.w⟩
theorem fP (C : Ctx) (A : Nat → Prop) (b : Nat) : ¬ Own (Vo C A) b := by
 rintro ⟨j, h1, _⟩
 simp [Vo, Heap.none, Blk.mut, Blk.live] at h1
theorem Aaf {C : Ctx} (hR : Rel C) (A : Nat → Prop) (hg : ∀ b, A b → isGl b = false) : Rel (Vo C A) :=
 ⟨fun b hb => hb.elim (fun h => hR.fsz b h.1) (uS hR), fun j => by simp [BR, Vo, Heap.none], fun i j h1 => by simp [Vo, Heap.none, Blk.mut, Blk.live] at h1, fun b hb => ⟨.inl ⟨(hR.gl b hb).1, fun h => by rw [hg b h] at hb; cases hb⟩, (hR.gl b hb).2⟩⟩
theorem Aex {C : Ctx} {A : Nat → Prop} (tt : Bool) (b : Nat) (h : IB C tt b) : IB (Vo C A) tt b :=
 ⟨h.1, fP C A b, fun ht hF => hF.elim (fun h' => h.2.2 ht h'.1) h.2.1⟩
theorem aM {C D : Ctx} {r r' t t' : Bool} {s : Nat} : ∀ {es : List AV} {us : List Value}, Zx es = true → CRL C r t s es us → CRL D r' t' s es us
 | [], _, _, h => by simpa [CRL] using h
 | .int .u8 n :: es, _, hp, h => by
  simp only [CRL] at h ⊢
  obtain ⟨⟨k0, k5, v, k1, k2, k3⟩, k4⟩ := h
  exact ⟨⟨k0, k5, v, by simpa [VR] using k1, k2, k3⟩, aM (by simpa [Zx] using hp) k4⟩
theorem Aag {C : Ctx} (hR : Rel C) {r t : Bool} {s b o : Nat} : ∀ {es : List AV} {us : List Value}, es ≠ [] → Zx es = true → CRL C r t s es us → rowAt C.w b o us → isGl b = false
 | .int .u8 n :: es, us, _, _, h, hr => by
  simp only [CRL] at h
  obtain ⟨⟨k0, k5, v, k1, k2, k3⟩, _⟩ := h
  have hv : v = .int .u8 n := by simpa [VR] using k1
  subst hv
  have hs : s = 1 := by rw [← k0]; rfl
  subst hs
  have h0 : us[0]? = some (.int .u8 n) := by
   cases us with
   | nil => simp at k5
   | cons u us =>
    have k2 : [Value.int .u8 n] = [u] := by simpa [Value.cells] using k2
    simp at k2
    simp [k2]
  cases hg : isGl b with
  | false => rfl
  | true =>
   obtain ⟨z, hz⟩ := Ahr hg (hR.gl b hg).2 (hr 0 _ h0)
   cases hz
theorem bP {C : Ctx} (hR : Rel C) {args : List AV} {vs : List Value} (h : VRT C true true args vs) : VRT (sub C) false true (args.map (fz false deep C.H)) vs :=
 vO false hR (D := sub C) rfl (fun b h => absurd h (dU C b)) (fun b h => h.imp id fun h => ⟨rfl, h⟩) deep h
section
variable {P : Program} {C : Ctx} {cf : Cx} {xf : ExtF} {v : AV} {H' : Heap} {fp : FP} {base f : Nat} {args : List AV} {vs : Array Value}
theorem hY {C1 : Ctx} (hR : Rel C) (hE : Evo (sub C) C1) (hR1 : Rel C1) {site : Nat} {u u' : AV} {r r' : List AV} (h : Lr C.H C1.H site u r = some (u', r', H')) :
  ∃ μ', Evo C ⟨C.F, μ', H', C1.w⟩ ∧ Rel ⟨C.F, μ', H', C1.w⟩ ∧ (∀ v, VR C1 true true u v → VR ⟨C.F, μ', H', C1.w⟩ true true u' v) ∧ (∀ vs, VRT C1 true true r vs → VRT ⟨C.F, μ', H', C1.w⟩ true true r' vs) := by
 have hk : ∀ b, b < C.w.heap.size → C1.w.heap[b]? = C.w.heap[b]? := fun b hb => hE.keep b hb (dU C b)
 have hF1 : ∀ b, C.F b ∨ Own C b → C1.F b := fun b hb => by rw [hE.F]; exact hb
 unfold Lr at h
 split at h
 ·rename_i j g ver s off len cap
  split at h
  ·rename_i es hes
   split at h
   ·rename_i hc
    obtain ⟨hn1, hn2⟩ := hc
    simp only [Ae, Ah] at h
    obtain ⟨rfl, rfl, rfl⟩ := h
    obtain ⟨hes1, hro⟩ := rowW_some.1 hes
    obtain ⟨hg, hst, hver⟩ := row_some.1 hes1
    have hown1 : es ≠ [] → Own C1 (C1.μ j) := fun hne => ⟨j, by unfold Blk.mut; rw [Pd hst hne, hro]; rfl, rfl⟩
    have hge : es ≠ [] → C.w.heap.size ≤ C1.μ j := fun hne => (hE.own _ (hown1 hne)).resolve_left (dU C _)
    have hne' : es.map (fz true deep C1.H) ≠ [] → es ≠ [] := fun h h0 => h (by rw [h0]; rfl)
    obtain ⟨hE', hr⟩ := Oe hR site ⟨(C.H site).gen + 1, false, .row s (es.map (fz true deep C1.H))⟩ (C1.μ j) C1.w (by simp) (fun h => absurd h (by simp)) (fun h => absurd h (by simp))
     hE.size (fun b hb _ => hk b hb) hE.shape
     (fun h => .inr (hge (hne' (by intro h0; rw [h0] at h; simp [Blk.mut, Blk.live] at h)))) (fun h => .inr (hge (hne' (by intro h0; rw [h0] at h; simp [Blk.live] at h)))) hE.os hE.tape hE.output
    have hI : ∀ tt b, (tt = true → (!true) = true) → IB C1 tt b → IB ⟨C.F, updN C.μ site (C1.μ j), C.H.upd site ⟨(C.H site).gen + 1, false, .row s (es.map (fz true deep C1.H))⟩, C1.w⟩ tt b := by
     intro tt b ht ⟨a1, a2, a3⟩
     have htt : tt = false := by cases tt <;> simp_all
     subst htt
     refine ⟨a1, ?_, fun _ hF => a3 rfl (hF1 b (.inl hF))⟩
     rintro ⟨i, b1, b2⟩
     by_cases hi : i = site
     ·subst hi
      simp only [upd_same, updN_same] at b1 b2
      exact a2 (b2 ▸ hown1 (hne' (by intro h0; rw [h0] at b1; simp [Blk.mut, Blk.live] at b1)))
     ·simp only [Ck _ _ hi, Ok _ _ hi] at b1 b2
      exact a3 rfl (hF1 b (.inr ⟨i, b1, b2⟩))
    have hfz := fun (nn : Nat) {a : AV} {v : Value} (hq : False ∨ a.norefs = true) (hv : VR C1 true true a v) => Aat true hR1 (D := ⟨C.F, updN C.μ site (C1.μ j), C.H.upd site ⟨(C.H site).gen + 1, false, .row s (es.map (fz true deep C1.H))⟩, C1.w⟩) rfl hI False (fun h => h.elim) nn hq hv
    have hcrl : ∀ {es : List AV} {us : List Value}, Bq es = true → CRL C1 true true s es us → CRL ⟨C.F, updN C.μ site (C1.μ j), C.H.upd site ⟨(C.H site).gen + 1, false, .row s (es.map (fz true deep C1.H))⟩, C1.w⟩ true true s (es.map (fz true deep C1.H)) us → True := fun _ _ _ => trivial
    have hcr : ∀ {fs : List AV} {us : List Value}, Bq fs = true → CRL C1 true true s fs us → CRL ⟨C.F, updN C.μ site (C1.μ j), C.H.upd site ⟨(C.H site).gen + 1, false, .row s (es.map (fz true deep C1.H))⟩, C1.w⟩ true true s (fs.map (fz true deep C1.H)) us := by
     intro fs
     induction fs with
     | nil => intro us _ h; simpa [CRL] using h
     | cons e fs ih =>
      intro us hnr h
      simp only [Bq, Bu] at hnr
      simp only [CRL] at h
      obtain ⟨⟨k0, k5, v, k1, k2, k3⟩, k4⟩ := h
      have := hfz deep (.inr hnr.1) k1
      simp only [Bc, CRL]
      exact ⟨⟨this.2.trans k0, k5, v, VR.weak (by simp) (by simp) this.1, k2, k3⟩, ih hnr.2 k4⟩
    have hvt : ∀ {fs : List AV} {us : List Value}, Bq fs = true → VRT C1 true true fs us → VRT ⟨C.F, updN C.μ site (C1.μ j), C.H.upd site ⟨(C.H site).gen + 1, false, .row s (es.map (fz true deep C1.H))⟩, C1.w⟩ true true (fs.map (fz true deep C1.H)) us := by
     intro fs
     induction fs with
     | nil => intro us _ h; simpa [VRT] using h
     | cons e fs ih =>
      intro us hnr h
      simp only [Bq, Bu] at hnr
      simp only [VRT] at h
      obtain ⟨v, vs', rfl, k1, k2⟩ := h
      simp only [Bc, VRT]
      exact ⟨v, vs', rfl, VR.weak (by simp) (by simp) (hfz deep (.inr hnr.1) k1).1, ih hnr.2 k2⟩
    have hbr : BR ⟨C.F, updN C.μ site (C1.μ j), C.H.upd site ⟨(C.H site).gen + 1, false, .row s (es.map (fz true deep C1.H))⟩, C1.w⟩ site := by
     unfold BR
     simp only [upd_same, updN_same]
     by_cases hne : es = []
     ·subst hne; simp
     ·obtain ⟨hF, c, el, fz', hobj, hok⟩ := hR1.mem hst hne
      have hlen : (es.map (fz true deep C1.H)).length = es.length := by simp
      have hcells := hcr hn1 hok.cells
      generalize hq : es.map (fz true deep C1.H) = q at hcells hlen
      cases q with
      | nil => trivial
      | cons e q =>
       exact ⟨fun h => hF (hF1 _ (.inl h)), c, el, fz', hobj, hok.uf, by rw [hlen]; exact hok.le, by rw [hlen]; exact hcells⟩
    refine ⟨_, hE', hr hbr, fun v hv => ?_, fun vs hv => hvt hn2 hv⟩
    simp only [VR] at hv ⊢
    obtain ⟨_, _, ad, cap', rfl, hcap, hk'⟩ := hv
    obtain ⟨q1, q2, q3⟩ := hk' es hes1
    refine ⟨trivial, ⟨by simp [Heap.newRow], fun _ s2 es2 hs2 => ?_⟩, ad, cap', rfl, hcap, fun es2 _ => ⟨q1, q2, fun h1 h2 => ?_⟩⟩
    ·simp [Heap.newRow] at hs2
     rw [← hs2.2]; simp; omega
    ·obtain ⟨q4, e0, n0, q5, q6⟩ := q3 h1 h2
     exact ⟨by simp [q4], e0, n0, by simp [q5], q6⟩
   ·simp at h
  ·simp at h
 ·split at h
  ·rename_i hc
   obtain ⟨hn1, hn2⟩ := hc
   simp only [Ae, Ah] at h
   obtain ⟨rfl, rfl, rfl⟩ := h
   obtain ⟨hE', hR'⟩ := back hR hE
   refine ⟨C.μ, hE', hR', fun v hv => ?_, fun vs hv => ?_⟩
   ·exact VR.weak (by simp) (by simp) (Adw true hR1 (D := { C with w := C1.w }) rfl (fun b h => ⟨rfl, hF1 b (.inr h)⟩) (fun b h => .inl (hF1 b (.inl h))) deep hv)
   ·exact VRT.weak (by simp) (by simp) (vO true hR1 (D := { C with w := C1.w }) rfl (fun b h => ⟨rfl, hF1 b (.inr h)⟩) (fun b h => .inl (hF1 b (.inl h))) deep hv)
  ·simp at h
theorem zV (hcf : Pn P cf) (hxf : Vw P xf) {m : Mode} (hR : Rel C) (hargs : VRT C true true args vs.toList) (h : Fu cf xf base m f args C.H = some (v, H', fp)) :
  Zn P f ∧ Calls P f vs C.w (Done C v H') := by
 cases m with
 | pure =>
  simp only [Fu] at h
  cases e1 : cf f 0 (args.map (fz false deep C.H)) Heap.none with
  | none => simp [e1] at h
  | some p =>
   obtain ⟨u, Hc⟩ := p
   simp only [e1, Ac, Aa, Ae, Ah] at h
   obtain ⟨rfl, rfl, _⟩ := h
   obtain ⟨hb, hc⟩ := hcf (sub C) f 0 _ u Hc vs (oJ hR) e1 (VRT.weak (by simp) (by simp) (bP hR hargs))
   refine ⟨hb, hc.mono ?_⟩
   rintro e w' ⟨v', μ', rfl, hE, hR1, hv⟩
   obtain ⟨hE', hR'⟩ := back (C1 := ⟨(sub C).F, μ', Hc, w'⟩) hR hE
   refine ⟨v', C.μ, rfl, hE', hR', ?_⟩
   exact VR.weak (by simp) (by simp) (Adw true hR1 (D := { C with w := w' }) rfl (fun b h => ⟨rfl, .inr h⟩) (fun b h => .inl (.inl h)) deep hv)
 | fresh site =>
  simp only [Fu] at h
  cases e1 : cf f 0 (args.map (fz false deep C.H)) Heap.none with
  | none => simp [e1] at h
  | some p =>
   obtain ⟨u, Hc⟩ := p
   simp only [e1, Ac, Aa] at h
   obtain ⟨hb, hc⟩ := hcf (sub C) f 0 _ u Hc vs (oJ hR) e1 (VRT.weak (by simp) (by simp) (bP hR hargs))
   cases e2 : Mk C.H Hc (base + site) u with
   | none => simp [e2] at h
   | some q =>
    obtain ⟨v2, H2⟩ := q
    simp only [e2, Aa, Ae, Ah] at h
    obtain ⟨rfl, rfl, _⟩ := h
    refine ⟨hb, hc.mono ?_⟩
    rintro e w' ⟨v', μ', rfl, hE, hR1, hv⟩
    unfold Mk at e2
    split at e2
    ·rename_i u0 r0
     split at e2
     ·rename_i u1 r1 H3 e3
      simp only [Ae, Ah] at e2
      obtain ⟨rfl, rfl⟩ := e2
      obtain ⟨μ2, k1, k2, k3, k4⟩ := hY (C1 := ⟨(sub C).F, μ', Hc, w'⟩) hR hE hR1 e3
      simp only [VR] at hv
      obtain ⟨us, rfl, hus⟩ := hv
      simp only [VRT] at hus
      obtain ⟨x, xs, hx, m1, m2⟩ := hus
      refine ⟨_, μ2, rfl, k1, k2, ?_⟩
      simp only [VR]
      refine ⟨us, rfl, ?_⟩
      simp only [VRT]
      exact ⟨x, xs, hx, k3 x m1, k4 xs m2⟩
     ·simp at e2
    ·simp at e2
    ·split at e2
     ·rename_i v3 r3 H3 e3
      simp only [Ae, Ah] at e2
      obtain ⟨rfl, rfl⟩ := e2
      obtain ⟨μ2, k1, k2, k3, _⟩ := hY (C1 := ⟨(sub C).F, μ', Hc, w'⟩) hR hE hR1 e3
      exact ⟨v', μ2, rfl, k1, k2, k3 v' hv⟩
     ·simp at e2
 | inl b =>
  simp only [Fu] at h
  cases e1 : cf f (base + b) args C.H with
  | none => simp [e1] at h
  | some p =>
   obtain ⟨u, Hc⟩ := p
   simp only [e1, Ac, Aa, Ae, Ah] at h
   obtain ⟨rfl, rfl, _⟩ := h
   exact hcf C f _ args u Hc vs hR e1 hargs
 | ext =>
  simp only [Fu] at h
  cases e1 : xf f (args.map (fz false deep C.H)) with
  | none => simp [e1] at h
  | some u =>
   simp only [e1, Ac, Aa, Ae, Ah] at h
   obtain ⟨rfl, rfl, _⟩ := h
   obtain ⟨hb, hc⟩ := hxf (sub C) f _ u vs (oJ hR) e1 (bP hR hargs)
   refine ⟨hb, hc.mono ?_⟩
   rintro e w' ⟨v', rfl, hE, hR1, hv⟩
   obtain ⟨hE', hR'⟩ := back (C1 := { (sub C) with w := w' }) hR hE
   refine ⟨v', C.μ, rfl, hE', hR', ?_⟩
   have hI : ∀ tt b, (tt = true → (false : Bool) = true) → IB { (sub C) with w := w' } tt b → IB { C with w := w' } tt b := by
    intro tt b ht ⟨a1, a2, a3⟩
    have htt : tt = false := by cases tt <;> simp_all
    subst htt
    exact ⟨a1, fun h => a3 rfl (.inr h), fun _ h => a3 rfl (.inl h)⟩
   exact VR.weak (by simp) (by simp) (VR.castI (C := { (sub C) with w := w' }) (D := { C with w := w' }) rfl hI hv)
 | peek b =>
  simp only [Fu] at h
  unfold mL at h
  split at h
  ·rename_i j g ver s off len cap rest
   split at h
   ·rename_i s' es hst
    split at h
    ·rename_i hn
     obtain ⟨hn1, hn2⟩ := hn
     split at h
     ·rename_i j' g' ver' s2 off' len' cap' Hc e1
      split at h
      ·rename_i hc
       obtain ⟨rfl, rfl, rfl, rfl, hrow⟩ := hc
       simp only [Ae, Ah] at h
       obtain ⟨rfl, rfl, _⟩ := h
       obtain ⟨es1, hes1⟩ := Ol.1 hrow
       simp only [VRT] at hargs
       obtain ⟨x, xs, hxs, ha, hrest⟩ := hargs
       simp only [VR] at ha
       obtain ⟨_, hp, ad, cp, rfl, hcp, hk⟩ := ha
       have hpp : past (Nl C j' s' es).H j' g' ver' := by
        refine ⟨?_, fun hg s3 es3 h3 => ?_⟩
        ·show g' ≤ (Qz C.H j' s' es j').gen
         rw [Md]; exact hp.1
        ·simp only [Nl, Md] at hg h3
         exact hp.2 hg s3 es3 (hst.trans h3)
       have hargs' : VRT (Nl C j' s' es) true true (.slc j' g' ver' s2 off len cap :: rest) vs.toList := by
        simp only [VRT]
        refine ⟨_, xs, hxs, ?_, VRT.weak (by simp) (by simp) (VRT.cast (C := C) (D := Nl C j' s' es) rfl (fun tt b _ => wT tt b) hn1 hrest)⟩
        simp only [VR]
        refine ⟨trivial, hpp, ad, cp, rfl, hcp, fun es3 h3 => ?_⟩
        exact hk es3 ((Abh hst).1 h3)
       obtain ⟨hb, hcall⟩ := hcf (Nl C j' s' es) f _ _ _ Hc vs (Adh hR hst hn2) e1 hargs'
       refine ⟨hb, hcall.mono ?_⟩
       rintro e w' ⟨v', μ', rfl, hE, hR1, hv⟩
       obtain ⟨hE', hR'⟩ := Afr (D := Nl C j' s' es) hR rfl (qF C j' s' es) hE
       refine ⟨v', C.μ, rfl, hE', hR', ?_⟩
       simp only [VR] at hv ⊢
       obtain ⟨_, _, ad2, cp2, rfl, hcp2, hk2⟩ := hv
       refine ⟨trivial, hp, ad2, cp2, rfl, hcp2, fun es3 h3 => ?_⟩
       obtain ⟨q1, q2, q3⟩ := hk2 es1 hes1
       have hm := (hE.row _ _ _ _ _ hpp hes1).2
       refine ⟨q1, q2, fun h4 h5 => ?_⟩
       obtain ⟨r1, e0, n0, r2, r3⟩ := q3 h4 h5
       have hm' : μ' j' = C.μ j' := hm (by omega)
       simp only [hm'] at r1 r2
       exact ⟨r1, e0, n0, r2, r3⟩
      ·simp at h
     ·simp at h
    ·simp at h
   ·simp at h
  ·rename_i t f0 s es rest
   split at h
   ·rename_i hn
    obtain ⟨hn1, hn2⟩ := hn
    split at h
    ·rename_i f' s' es' Hc e1
     split at h
     ·rename_i hp2
      simp only [Ae, Ah] at h
      obtain ⟨rfl, rfl, _⟩ := h
      simp only [VRT] at hargs
      obtain ⟨x, xs, hxs, ha, hrest⟩ := hargs
      simp only [VR] at ha
      obtain ⟨_, a, cap', rfl, hc1, hc2, hk⟩ := ha
      obtain ⟨A, hA⟩ : ∃ A : Nat → Prop, A = fun b => es ≠ [] ∧ ∃ o, a = some ⟨b, o, none⟩ := ⟨_, rfl⟩
      have hargs' : VRT (Vo C A) true true (.islc false f0 s es :: rest) vs.toList := by
       simp only [VRT]
       refine ⟨_, xs, hxs, ?_, VRT.weak (by simp) (by simp) (VRT.cast (C := C) (D := Vo C A) rfl (fun tt b _ => Aex tt b) hn1 hrest)⟩
       simp only [VR]
       refine ⟨by simp, a, cap', rfl, hc1, hc2, fun hne => ?_⟩
       obtain ⟨b, o, us, h1, h2, h3, h4⟩ := hk hne
       refine ⟨b, o, us, h1, ⟨h2.1, fP C A b, fun _ hF => hF.elim (fun h' => h'.2 (by rw [hA]; exact ⟨hne, o, h1⟩)) h2.2.1⟩, h3, aM hn2 h4⟩
      have hg : ∀ b, A b → isGl b = false := by
       intro b hAb
       rw [hA] at hAb
       obtain ⟨hne0, o0, h0⟩ := hAb
       obtain ⟨b1, o1, us1, g1, g2, g3, g4⟩ := hk hne0
       rw [h0] at g1
       simp only [Ae, Addr.mk.injEq] at g1
       obtain ⟨rfl, _, _⟩ := g1
       exact Aag hR hne0 hn2 g4 g3
      obtain ⟨hb, hcall⟩ := hcf (Vo C A) f _ _ _ Hc vs (Aaf hR A hg) e1 hargs'
      refine ⟨hb, hcall.mono ?_⟩
      rintro e w' ⟨v', μ', rfl, hE, hR1, hv⟩
      obtain ⟨hE', hR'⟩ := Afr (D := Vo C A) hR rfl (fP C A) hE
      refine ⟨v', C.μ, rfl, hE', hR', ?_⟩
      simp only [VR] at hv ⊢
      obtain ⟨_, a2, cap2, rfl, hd1, hd2, hk2⟩ := hv
      refine ⟨by simp, a2, cap2, rfl, hd1, hd2, fun hne => ?_⟩
      obtain ⟨b, o, us, h1, h2, h3, h4⟩ := hk2 hne
      have hnF : ¬ ((C.F b ∧ ¬ A b) ∨ Own C b) := h2.2.2 rfl
      refine ⟨b, o, us, h1, ⟨h2.1, fun h => hnF (.inr h), fun ht hF => ?_⟩, h3, aM hp2 h4⟩
      by_cases hAb : A b
      ·rw [hA] at hAb
       obtain ⟨hne0, o0, h0⟩ := hAb
       obtain ⟨b1, o1, us1, g1, g2, _, _⟩ := hk hne0
       rw [h0] at g1
       simp only [Ae, Addr.mk.injEq] at g1
       obtain ⟨rfl, _, _⟩ := g1
       exact g2.2.2 ht hF
      ·exact hnF (.inl ⟨hF, hAb⟩)
     ·simp at h
    ·simp at h
   ·simp at h
  ·simp at h
end
end Go.AI
namespace Go.AI
theorem Lv {T T2 : Tmps} {o : Option SArg} (h : ∀ x ∈ optA o, x.ev T2 = x.ev T) : Ei T2 o = Ei T o := by
 cases o with
 | none => rfl
 | some x => simp only [Ei, h x (by simp [optA])]
theorem yO (cf : Cx) (xf : ExtF) (base : Nat) {T T2 : Tmps} {op : SOp} (H : Heap) (h : ∀ x ∈ Ko op, x.ev T2 = x.ev T) : aop cf xf base T2 H op = aop cf xf base T H op := by
 cases op
 case build z ps =>
  have : (ps.map fun (o, k, x) => (o, k, SArg.ev T2 x)) = ps.map fun (o, k, x) => (o, k, SArg.ev T x) := Bn fun p hp => by
   obtain ⟨a, b, x⟩ := p
   simp only [h x (Ca.2 ⟨_, hp, rfl⟩)]
  simp only [aop, this]
 case buildS site s n z ps =>
  have : (ps.map fun (i, x) => (i, SArg.ev T2 x)) = ps.map fun (i, x) => (i, SArg.ev T x) := Bn fun p hp => by
   obtain ⟨a, x⟩ := p
   simp only [h x (Ca.2 ⟨_, hp, rfl⟩)]
  simp only [aop, this]
 case buildSN site s n z ps =>
  have : (ps.map fun (i, x) => (i, SArg.ev T2 x)) = ps.map fun (i, x) => (i, SArg.ev T x) := Bn fun p hp => by
   obtain ⟨a, x⟩ := p
   simp only [h x (Ca.2 ⟨_, hp, rfl⟩)]
  simp only [aop, this]
 case mkfn f cs =>
  have : cs.map (SArg.ev T2) = cs.map (SArg.ev T) := Bn fun x hx => h x hx
  simp only [aop, this]
 case call m f cs =>
  have : cs.map (SArg.ev T2) = cs.map (SArg.ev T) := Bn fun x hx => h x hx
  simp only [aop, this]
 case callv m x cs =>
  have : cs.map (SArg.ev T2) = cs.map (SArg.ev T) := Bn fun y hy => h y (by simp [Ko, hy])
  have hx := h x (by simp [Ko])
  simp only [aop, this, hx]
 case slice s x lo hi mx =>
  have h1 := Lv (T := T) (T2 := T2) (o := lo) (fun y hy => h y (by simp [Ko, hy]))
  have h2 := Lv (T := T) (T2 := T2) (o := hi) (fun y hy => h y (by simp [Ko, hy]))
  have h3 := Lv (T := T) (T2 := T2) (o := mx) (fun y hy => h y (by simp [Ko, hy]))
  have hx := h x (by simp [Ko])
  simp only [aop, h1, h2, h3, hx]
 case slcStr x lo hi =>
  have h1 := Lv (T := T) (T2 := T2) (o := lo) (fun y hy => h y (by simp [Ko, hy]))
  have h2 := Lv (T := T) (T2 := T2) (o := hi) (fun y hy => h y (by simp [Ko, hy]))
  have hx := h x (by simp [Ko])
  simp only [aop, h1, h2, hx]
 all_goals
  simp only [Ko, Au, Kf, dO, forall_eq_or_imp, forall_eq] at h
  simp only [aop, h]
def pK (fp : FP) (H H2 : Heap) : Prop := ∀ j, (j ∈ fp.rd ∨ j ∈ fp.wr) → H2 j = H j
def Nc (f : Heap → R) (H : Heap) (v : AV) (H' : Heap) (fp : FP) : Prop :=
 (∀ j, j ∉ fp.wr → H' j = H j) ∧ ∀ H2, pK fp H H2 → ∃ H2', f H2 = some (v, H2', fp) ∧ (∀ j, j ∈ fp.wr → H2' j = H' j) ∧ (∀ j, j ∉ fp.wr → H2' j = H2 j)
theorem Fw {f : Heap → R} {H H' : Heap} {v : AV} {fp : FP} (hz : fp.wr = []) (hH : H' = H) (hf : ∀ H2, pK fp H H2 → f H2 = some (v, H2, fp)) : Nc f H v H' fp := by
 subst hH
 exact ⟨fun _ _ => rfl, fun H2 ha => ⟨H2, hf H2 ha, fun j hj => by rw [hz] at hj; simp at hj, fun _ _ => rfl⟩⟩
theorem aT {f : Heap → R} {H : Heap} {v : AV} {fp : FP} {k : Nat} (b : Heap → Blk) (hw : fp.wr = [k]) (hb : ∀ H2, pK fp H H2 → b H2 = b H) (hf : ∀ H2, pK fp H H2 → f H2 = some (v, H2.upd k (b H2), fp)) :
  Nc f H v (H.upd k (b H)) fp := by
 refine ⟨fun j hj => Ck _ _ (by rw [hw] at hj; simpa using hj), fun H2 ha => ⟨_, hf H2 ha, fun j hj => ?_, fun j hj => Ck _ _ (by rw [hw] at hj; simpa using hj)⟩⟩
 rw [hw] at hj
 simp at hj
 subst hj
 simp [hb H2 ha]
theorem Mq {H H2 : Heap} {j : Nat} (h : H2 j = H j) (g ver s : Nat) : H2.row j g ver s = H.row j g ver s := by
 unfold Heap.row; rw [h]
theorem Kr {H H2 : Heap} {j : Nat} (h : H2 j = H j) (g ver s : Nat) : H2.rowW j g ver s = H.rowW j g ver s := by
 unfold Heap.rowW; rw [h]
theorem Abu (out : Bool) {H H2 : Heap} : ∀ (n : Nat) (v : AV), (∀ j ∈ vis n H v, H2 j = H j) → fz out n H2 v = fz out n H v ∧ vis n H2 v = vis n H v := by
 intro n
 induction n with
 | zero => intro v _; exact ⟨by simp [fz], by simp [vis]⟩
 | succ n ih =>
  intro v h
  have hL : ∀ cs : List AV, (∀ j ∈ cs.flatMap (vis n H), H2 j = H j) → cs.map (fz out n H2) = cs.map (fz out n H) ∧ cs.flatMap (vis n H2) = cs.flatMap (vis n H) := by
   intro cs hcs
   constructor
   ·exact Bn fun c hc => (ih c fun j hj => hcs j (Nq.2 ⟨c, hc, hj⟩)).1
   ·simp only [Adx]
    congr 1
    exact Bn fun c hc => (ih c fun j hj => hcs j (Nq.2 ⟨c, hc, hj⟩)).2
  cases v with
  | ptr j g ver s i off =>
   have hj : H2 j = H j := by
    refine h j ?_
    simp only [vis]
    split <;> (try split) <;> simp
   simp only [fz, vis, Mq hj]
   simp only [vis] at h
   split
   ·rename_i es hes
    simp only [hes] at h
    split
    ·rename_i e he
     simp only [he] at h
     have := hL (e.cells.drop off) (fun j' hj' => h j' (by simp at hj' ⊢; exact .inr hj'))
     exact ⟨by rw [this.1], by rw [this.2]⟩
    ·exact ⟨rfl, rfl⟩
   ·exact ⟨rfl, rfl⟩
  | slc j g ver s off len cap =>
   have hj : H2 j = H j := by
    refine h j ?_
    simp only [vis]
    split <;> simp
   simp only [fz, vis, Mq hj]
   simp only [vis] at h
   split
   ·rename_i es hes
    simp only [hes] at h
    have := hL ((es.drop off).take len) (fun j' hj' => h j' (by simp at hj' ⊢; exact .inr hj'))
    exact ⟨by rw [this.1], by rw [this.2]⟩
   ·exact ⟨rfl, rfl⟩
  | agg cs => simp only [fz, vis] at h ⊢; have := hL cs h; exact ⟨by rw [this.1], this.2⟩
  | tup cs => simp only [fz, vis] at h ⊢; have := hL cs h; exact ⟨by rw [this.1], this.2⟩
  | fn f cs => simp only [fz, vis] at h ⊢; have := hL cs h; exact ⟨by rw [this.1], this.2⟩
  | _ => exact ⟨by simp [fz], by simp [vis]⟩
theorem dX (out : Bool) {H H2 : Heap} (n : Nat) (vs : List AV) (h : ∀ j ∈ vs.flatMap (vis n H), H2 j = H j) : vs.map (fz out n H2) = vs.map (fz out n H) ∧ vs.flatMap (vis n H2) = vs.flatMap (vis n H) := by
 constructor
 ·exact Bn fun c hc => (Abu out n c fun j hj => h j (Nq.2 ⟨c, hc, hj⟩)).1
 ·simp only [Adx]
  congr 1
  exact Bn fun c hc => (Abu out n c fun j hj => h j (Nq.2 ⟨c, hc, hj⟩)).2
end Go.AI
namespace Go.AI
section
variable {cf : Cx} {xf : ExtF} {base : Nat} {T : Tmps} {H H' : Heap} {v : AV} {fp : FP}
theorem rC {x : Option AV} (h : x.bind (rv · H) = some (v, H', fp)) : Nc (fun H => x.bind (rv · H)) H v H' fp := by
 cases x with
 | none => simp at h
 | some u =>
  simp only [Aa, rv, Ae, Ah] at h
  obtain ⟨rfl, rfl, rfl⟩ := h
  exact Fw rfl rfl fun H2 _ => rfl
theorem Nh {s : Nat} {x : AV} {es : List AV} {js : List Nat} (h : Ch H s x = some (es, js)) {H2 : Heap} (ha : ∀ j ∈ js, H2 j = H j) : Ch H2 s x = some (es, js) := by
 unfold Ch at h ⊢
 split at h
 ·exact h
 ·rename_i j g ver s' off len cap
  split at h
  ·rename_i es0 hes
   split at h
   ·rename_i hc
    simp at h
    obtain ⟨rfl, rfl⟩ := h
    simp only [Mq (ha j (by simp)), hes, if_pos hc]
   ·simp at h
  ·simp at h
 ·exact h
 ·simp at h
theorem Uq {site s : Nat} {x : AV} {ys : List AV} (h : Dc H site s x ys = some (v, H', fp)) : fp.top = false ∧ Nc (fun H => Dc H site s x ys) H v H' fp := by
 unfold Dc at h
 split at h
 ·rename_i tt full s' es
  split at h
  ·rename_i hn
   simp only [rv, Ae, Ah, FP.z] at h
   obtain ⟨rfl, rfl, rfl⟩ := h
   exact ⟨rfl, Fw rfl rfl fun H2 _ => by simp [Dc, hn, FP.z]⟩
  ·rename_i hn
   split at h
   ·rename_i hc
    simp only [Ae, Ah] at h
    obtain ⟨rfl, rfl, rfl⟩ := h
    refine ⟨rfl, ⟨fun j hj => ?_, fun H2 ha => ⟨H2.newRow site s ys, ?_, fun j hj => ?_, fun j hj => ?_⟩⟩⟩
    ·simp at hj; simp [Heap.newRow, Ck _ _ hj]
    ·simp [Dc, hn, hc, ha site (.inr (by simp))]
    ·simp at hj; subst hj; simp [Heap.newRow, ha j (.inr (by simp))]
    ·simp at hj; simp [Heap.newRow, Ck _ _ hj]
   ·simp at h
 ·rename_i j g ver s' off len cap
  split at h
  ·rename_i hn
   simp only [rv, Ae, Ah, FP.z] at h
   obtain ⟨rfl, rfl, rfl⟩ := h
   exact ⟨rfl, Fw rfl rfl fun H2 _ => by simp [Dc, hn, FP.z]⟩
  ·rename_i hn
   split at h
   ·simp at h
   ·rename_i es hes
    split at h
    ·rename_i hc
     split at h
     ·rename_i hin
      simp only [Ae, Ah] at h
      obtain ⟨rfl, rfl, rfl⟩ := h
      refine ⟨rfl, ⟨fun i hi => ?_, fun H2 ha => ⟨H2.setRow j s (es.take (off + len) ++ ys ++ es.drop (off + len + ys.length)), ?_, fun i hi => ?_, fun i hi => ?_⟩⟩⟩
      ·simp at hi; simp [Heap.setRow, Ck _ _ hi]
      ·simp only [Dc, if_neg hn, Kr (ha j (.inl (by simp))), hes, if_pos hc, if_pos hin]
      ·simp at hi; subst hi; simp [Heap.setRow, ha i (.inl (by simp))]
      ·simp at hi; simp [Heap.setRow, Ck _ _ hi]
     ·rename_i hin
      split at h
      ·split at h
       ·rename_i hc2
        simp only [Ae, Ah] at h
        obtain ⟨rfl, rfl, rfl⟩ := h
        refine ⟨rfl, ⟨fun i hi => ?_, fun H2 ha => ⟨H2.setRow j s (es ++ ys), ?_, fun i hi => ?_, fun i hi => ?_⟩⟩⟩
        ·simp at hi; simp [Heap.setRow, Ck _ _ hi]
        ·simp only [Dc, if_neg hn, Kr (ha j (.inl (by simp))), hes, if_pos hc, if_neg hin, if_pos hc2]
        ·simp at hi; subst hi; simp [Heap.setRow, ha i (.inl (by simp))]
        ·simp at hi; simp [Heap.setRow, Ck _ _ hi]
       ·simp at h
      ·split at h
       ·rename_i hc2
        simp only [Ae, Ah] at h
        obtain ⟨rfl, rfl, rfl⟩ := h
        refine ⟨rfl, ⟨fun i hi => ?_, fun H2 ha => ⟨H2.newRow site s ((es.drop off).take len ++ ys), ?_, fun i hi => ?_, fun i hi => ?_⟩⟩⟩
        ·simp at hi; simp [Heap.newRow, Ck _ _ hi]
        ·simp only [Dc, if_neg hn, Kr (ha j (.inl (by simp))), hes, if_pos hc, if_neg hin, if_pos hc2, ha site (.inr (by simp))]
        ·simp at hi; subst hi; simp [Heap.newRow, ha i (.inr (by simp))]
        ·simp at hi; simp [Heap.newRow, Ck _ _ hi]
       ·simp at h
    ·simp at h
 ·simp at h
theorem oR {ys ys' : List AV} {H1 : Heap} {K : List Nat} (h : Du H ys = some (ys', H1, K)) :
  (∀ j, j ∉ K → H1 j = H j) ∧ ∀ G : Heap, (∀ j ∈ K, G j = H j) → ∃ G1, Du G ys = some (ys', G1, K) ∧ (∀ j, j ∈ K → G1 j = H1 j) ∧ (∀ j, j ∉ K → G1 j = G j) := by
 unfold Du at h
 split at h
 ·rename_i hn
  cases h
  exact ⟨fun j _ => rfl, fun G _ => ⟨G, by simp [Du, hn], fun j hj => by simp at hj, fun j _ => rfl⟩⟩
 ·rename_i hn
  cases h
  refine ⟨fun j hj => by rw [Mu, if_neg hj], fun G ha => ⟨Se G (ys.flatMap (vis deep H)), ?_, fun j hj => by rw [Mu, Mu, if_pos hj, if_pos hj, ha j hj], fun j hj => by rw [Mu, if_neg hj]⟩⟩
  obtain ⟨z1, z2⟩ := dX true deep ys ha
  simp only [Du, if_neg hn, z1, z2]
theorem Vt {Hc : Heap} {site : Nat} {u u' : AV} {r r' : List AV} (h : Lr H Hc site u r = some (u', r', H')) :
  (∀ j, j ≠ site → H' j = H j) ∧ ∀ H2 : Heap, H2 site = H site → ∃ H2', Lr H2 Hc site u r = some (u', r', H2') ∧ H2' site = H' site ∧ (∀ j, j ≠ site → H2' j = H2 j) := by
 unfold Lr at h
 split at h
 ·rename_i j g ver s off len cap
  split at h
  ·rename_i es hes
   split at h
   ·rename_i hc
    simp only [Ae, Ah] at h
    obtain ⟨rfl, rfl, rfl⟩ := h
    refine ⟨fun i hi => by simp [Heap.newRow, Ck _ _ hi], fun H2 ha => ⟨H2.newRow site s (es.map (fz true deep Hc)), ?_, by simp [Heap.newRow, ha], fun i hi => by simp [Heap.newRow, Ck _ _ hi]⟩⟩
    simp [Lr, hes, hc, ha]
   ·simp at h
  ·simp at h
 ·rename_i hx
  split at h
  ·rename_i hc
   simp only [Ae, Ah] at h
   obtain ⟨rfl, rfl, rfl⟩ := h
   refine ⟨fun i hi => rfl, fun H2 ha => ⟨H2, ?_, ha, fun i hi => rfl⟩⟩
   unfold Lr
   split
   ·exact absurd rfl (hx _ _ _ _ _ _ _)
   ·rw [if_pos hc]
  ·simp at h
theorem jV {Hc : Heap} {site : Nat} {u u' : AV} (h : Mk H Hc site u = some (u', H')) :
  (∀ j, j ≠ site → H' j = H j) ∧ ∀ H2 : Heap, H2 site = H site → ∃ H2', Mk H2 Hc site u = some (u', H2') ∧ H2' site = H' site ∧ (∀ j, j ≠ site → H2' j = H2 j) := by
 unfold Mk at h
 split at h
 ·rename_i u0 r0
  split at h
  ·rename_i u1 r1 H3 e3
   simp only [Ae, Ah] at h
   obtain ⟨rfl, rfl⟩ := h
   obtain ⟨k1, k2⟩ := Vt e3
   refine ⟨k1, fun H2 ha => ?_⟩
   obtain ⟨H2', m1, m2, m3⟩ := k2 H2 ha
   exact ⟨H2', by simp [Mk, m1], m2, m3⟩
  ·simp at h
 ·simp at h
 ·rename_i h1 h2
  split at h
  ·rename_i v3 r3 H3 e3
   simp only [Ae, Ah] at h
   obtain ⟨rfl, rfl⟩ := h
   obtain ⟨k1, k2⟩ := Vt e3
   refine ⟨k1, fun H2 ha => ?_⟩
   obtain ⟨H2', m1, m2, m3⟩ := k2 H2 ha
   refine ⟨H2', ?_, m2, m3⟩
   unfold Mk
   split
   ·exact absurd rfl (h1 _ _)
   ·exact absurd rfl h2
   ·rw [m1]
  ·simp at h
theorem Zj {m : Mode} {f : Nat} {args : List AV} (h : Fu cf xf base m f args H = some (v, H', fp)) (ht : fp.top = false) : Nc (fun H => Fu cf xf base m f args H) H v H' fp := by
 cases m with
 | pure =>
  simp only [Fu] at h
  cases e1 : cf f 0 (args.map (fz false deep H)) Heap.none with
  | none => simp [e1] at h
  | some p =>
   simp only [e1, Ac, Aa, Ae, Ah] at h
   obtain ⟨rfl, rfl, rfl⟩ := h
   refine Fw rfl rfl fun H2 ha => ?_
   have := dX false deep args (fun j hj => ha j (.inl hj))
   simp only [Fu, this.1, this.2, e1, Ac, Aa]
 | fresh site =>
  simp only [Fu] at h
  cases e1 : cf f 0 (args.map (fz false deep H)) Heap.none with
  | none => simp [e1] at h
  | some p =>
   simp only [e1, Ac, Aa] at h
   cases e2 : Mk H p.2 (base + site) p.1 with
   | none => simp [e2] at h
   | some q =>
    simp only [e2, Aa, Ae, Ah] at h
    obtain ⟨rfl, rfl, rfl⟩ := h
    obtain ⟨k1, k2⟩ := jV e2
    refine ⟨fun j hj => k1 j (by simpa using hj), fun H2 ha => ?_⟩
    have := dX false deep args (fun j hj => ha j (.inl hj))
    obtain ⟨H2', m1, m2, m3⟩ := k2 H2 (ha _ (.inr (by simp)))
    refine ⟨H2', ?_, fun j hj => ?_, fun j hj => m3 j (by simpa using hj)⟩
    ·simp only [Fu, this.1, this.2, e1, Ac, Aa, m1]
    ·simp at hj; subst hj; exact m2
 | inl b =>
  simp only [Fu] at h
  cases e1 : cf f (base + b) args H with
  | none => simp [e1] at h
  | some p =>
   simp only [e1, Ac, Aa, Ae, Ah] at h
   obtain ⟨_, _, rfl⟩ := h
   simp at ht
 | ext =>
  simp only [Fu] at h
  cases e1 : xf f (args.map (fz false deep H)) with
  | none => simp [e1] at h
  | some p =>
   simp only [e1, Ac, Aa, Ae, Ah] at h
   obtain ⟨rfl, rfl, rfl⟩ := h
   refine Fw rfl rfl fun H2 ha => ?_
   have := dX false deep args (fun j hj => ha j (.inl hj))
   simp only [Fu, this.1, this.2, e1, Ac, Aa]
 | peek b =>
  simp only [Fu] at h ⊢
  unfold mL at h
  split at h
  ·rename_i j g ver s off len cap rest
   split at h
   ·rename_i s' es hst
    split at h
    ·rename_i hn
     split at h
     ·rename_i j' g' ver' s2 off' len' cap' Hc e1
      split at h
      ·rename_i hc
       simp only [Ae, Ah] at h
       obtain ⟨rfl, rfl, rfl⟩ := h
       refine Fw rfl rfl fun H2 ha => ?_
       have hj : H2 j = H j := ha j (.inl (by simp))
       have hp : Qz H2 j s' es = Qz H j s' es := by unfold Qz; rw [hj]
       simp only [mL, hj, hst, if_pos hn, hp, e1, if_pos hc]
      ·simp at h
     ·simp at h
    ·simp at h
   ·simp at h
  ·rename_i t f0 s es rest
   split at h
   ·rename_i hn
    split at h
    ·rename_i f' s' es' Hc e1
     split at h
     ·rename_i hp2
      simp only [Ae, Ah] at h
      obtain ⟨rfl, rfl, rfl⟩ := h
      refine Fw rfl rfl fun H2 ha => ?_
      simp only [mL, if_pos hn, e1, if_pos hp2]
     ·simp at h
    ·simp at h
   ·simp at h
  ·simp at h
theorem Jr {f : Heap → R} {k s : Nat} {es : List AV} {w : Nat → AV} (hf : ∀ H2 : Heap, f H2 = some (w ((H2 k).gen + 1), H2.newRow k s es, ⟨[], [k], false⟩)) (h : f H = some (v, H', fp)) : Nc f H v H' fp := by
 rw [hf] at h
 simp only [Ae, Ah] at h
 obtain ⟨rfl, rfl, rfl⟩ := h
 refine ⟨fun j hj => ?_, fun H2 ha => ⟨H2.newRow k s es, ?_, fun j hj => ?_, fun j hj => ?_⟩⟩
 ·simp at hj; simp [Heap.newRow, Ck _ _ hj]
 ·rw [hf, ha k (.inr (by simp))]
 ·simp at hj; subst hj; simp [Heap.newRow, ha j (.inr (by simp))]
 ·simp at hj; simp [Heap.newRow, Ck _ _ hj]
theorem cG {H H2 : Heap} : ∀ (n b : Nat), (∀ j ∈ Wo b n, H2 j = H j) → Im H2 b n = Im H b n
 | 0, b, _ => rfl
 | n + 1, b, h => by
  unfold Im
  rw [h b (by simp [Wo]), cG n (b + 1) (fun j hj => h j (by simp [Wo, hj]))]
theorem Wi {f : Heap → R} {b s : Nat} {es : List AV} {w : Nat → Nat → AV} (hf : ∀ H2 : Heap, f H2 = some (w (Im H2 b many) ((H2 (Im H2 b many)).gen + 1), H2.newRow (Im H2 b many) s es, ⟨Wo b many, [Im H2 b many], false⟩)) (h : f H = some (v, H', fp)) : Nc f H v H' fp := by
 rw [hf] at h
 simp only [Ae, Ah] at h
 obtain ⟨rfl, rfl, rfl⟩ := h
 generalize hk : Im H b many = k
 refine ⟨fun j hj => ?_, fun H2 ha => ⟨H2.newRow k s es, ?_, fun j hj => ?_, fun j hj => ?_⟩⟩
 ·simp at hj; simp [Heap.newRow, Ck _ _ hj]
 ·have e : Im H2 b many = k := by rw [cG many b (fun j hj => ha j (.inl hj)), hk]
  rw [hf, e, ha k (.inr (by simp))]
 ·simp at hj; subst hj; simp [Heap.newRow, ha j (.inr (by simp))]
 ·simp at hj; simp [Heap.newRow, Ck _ _ hj]
theorem Of {f : Heap → R} {k s : Nat} {es : List AV} {rd : List Nat} (hf : ∀ H2 : Heap, pK ⟨rd, [k], false⟩ H H2 → f H2 = some (v, H2.setRow k s es, ⟨rd, [k], false⟩)) (h : f H = some (v, H', fp)) : Nc f H v H' fp := by
 rw [hf H (fun _ _ => rfl)] at h
 simp only [Ae, Ah] at h
 obtain ⟨_, rfl, rfl⟩ := h
 refine ⟨fun j hj => ?_, fun H2 ha => ⟨H2.setRow k s es, hf H2 ha, fun j hj => ?_, fun j hj => ?_⟩⟩
 ·simp at hj; simp [Heap.setRow, Ck _ _ hj]
 ·simp at hj; subst hj; simp [Heap.setRow, ha j (.inr (by simp))]
 ·simp at hj; simp [Heap.setRow, Ck _ _ hj]
def laid : SOp → Bool
 | .clear .. => false
 | _ => true
def lP : SOp → Bool
 | .mv .. | .pick .. | .build .. | .empty .. | .nilc .. | .bin .. | .eqnil .. | .eqb .. | .eqagg .. | .un .. | .cvi .. | .mkfn .. | .slcStr .. | .slcArr .. | .faddr .. | .field .. | .iaddrA .. | .indexS .. | .indexA .. | .extract .. | .len .. | .lenS .. | .cap .. | .mnmx .. => true
 | _ => false
theorem oE {op : SOp} (hq : lP op = true) : aop cf xf base T H op = ((aop cf xf base T Heap.none op).map (·.1)).bind (rv · H) := by
 cases op
 case build z ps =>
  simp only [aop]
  cases Jf z (ps.map fun (o, k, x) => (o, k, SArg.ev T x)) <;> rfl
 case bin op x y =>
  simp only [aop]
  cases abin op (x.ev T) (y.ev T) <;> rfl
 case eqnil neg x =>
  simp only [aop]
  cases rH (x.ev T) <;> rfl
 case eqagg neg n x y =>
  simp only [aop]
  (repeat' split) <;> first | rfl | (cases mX _ _ <;> rfl)
 case un op x =>
  simp only [aop]
  cases aun op (x.ev T) <;> rfl
 case slcStr x lo hi =>
  simp only [aop]
  cases Ei T lo with
  | none => rfl
  | some l => cases Ei T hi with
   | none => rfl
   | some hh =>
    simp only [Ac, Aa]
    (repeat' split) <;> first | rfl | (simp_all; done)
 case iaddrA n s x i =>
  simp only [aop]
  cases Fb (i.ev T) with
  | none => rfl
  | some l =>
   simp only [Ac, Aa]
   (repeat' split) <;> first | rfl | (simp_all; done)
 case indexS x i =>
  simp only [aop]
  cases Fb (i.ev T) with
  | none => rfl
  | some l =>
   simp only [Ac, Aa]
   (repeat' split) <;> first | rfl | (simp_all; done)
 case indexA n s b x i =>
  simp only [aop]
  cases Fb (i.ev T) with
  | none => rfl
  | some l =>
   simp only [Ac, Aa]
   (repeat' split) <;> first | rfl | (simp_all; done)
 all_goals first
  | (simp [lP] at hq; done)
  | (simp only [aop]; rfl)
  | (simp only [aop]; (repeat' split) <;> first | rfl | (simp_all; done))
theorem sB {op : SOp} (hq : lP op = true) (h : aop cf xf base T H op = some (v, H', fp)) : Nc (fun H => aop cf xf base T H op) H v H' fp := by
 have hf : (fun H => aop cf xf base T H op) = fun H => ((aop cf xf base T Heap.none op).map (·.1)).bind (rv · H) := funext fun H => oE hq
 rw [hf]
 rw [oE hq] at h
 exact rC h
theorem Pj {H H2 : Heap} {j : Nat} (h : H2 j = H j) (g : Nat) : H2.mapAt j g = H.mapAt j g := by
 unfold Heap.mapAt; rw [h]
theorem kY {op : SOp} (hl : laid op = true) (h : aop cf xf base T H op = some (v, H', fp)) (ht : fp.top = false) : Nc (fun H => aop cf xf base T H op) H v H' fp := by
 cases op
 case clear => simp [laid] at hl
 case bad => simp [aop] at h
 case mkmap site =>
  simp only [aop, Ae, Ah] at h ⊢
  obtain ⟨rfl, rfl, rfl⟩ := h
  refine aT (k := base + site) (fun H2 => ⟨(H2 (base + site)).gen + 1, false, .map []⟩) rfl (fun H2 ha => ?_) (fun H2 ha => ?_)
  ·simp only [ha _ (.inr (Bw.2 rfl))]
  ·simp only [aop, ha _ (.inr (Bw.2 rfl))]
 case lookup z m k ok =>
  simp only [aop] at h ⊢
  split at h
  ·rename_i j g n hq1 hq2
   cases hes : H.mapAt j g with
   | none => simp [hes] at h
   | some es =>
    simp only [hes, Ac, Aa, Ae, Ah] at h
    obtain ⟨rfl, rfl, rfl⟩ := h
    refine Fw rfl rfl fun H2 ha => ?_
    simp only [Pj (ha j (.inl (by simp))), hes, Ac, Aa]
  ·simp at h
 case maplen m =>
  simp only [aop] at h ⊢
  split at h
  ·rename_i j g hq1
   cases hes : H.mapAt j g with
   | none => simp [hes] at h
   | some es =>
    simp only [hes, Ac, Aa, Ae, Ah] at h
    obtain ⟨rfl, rfl, rfl⟩ := h
    refine Fw rfl rfl fun H2 ha => ?_
    simp only [Pj (ha j (.inl (by simp))), hes, Ac, Aa]
  ·simp at h
 case mapset m k y =>
  simp only [aop] at h ⊢
  split at h
  ·rename_i j g n hq1 hq2
   cases hes : H.mapAt j g with
   | none => simp [hes] at h
   | some es =>
    simp only [hes, Ac, Aa] at h
    split at h
    ·rename_i hc
     simp only [Ae, Ah] at h
     obtain ⟨rfl, rfl, rfl⟩ := h
     refine aT (k := j) (fun H2 => ⟨(H2 j).gen, false, .map (Rn n (y.ev T) es)⟩) rfl (fun H2 ha => ?_) (fun H2 ha => ?_)
     ·simp only [ha _ (.inr (Bw.2 rfl))]
     ·simp only [Pj (ha j (.inl (by simp))), hes, Ac, Aa, if_pos hc]
    ·simp at h
  ·simp at h
 case mapdel m k =>
  simp only [aop] at h ⊢
  split at h
  ·rename_i j g n hq1 hq2
   cases hes : H.mapAt j g with
   | none => simp [hes] at h
   | some es =>
    simp only [hes, Ac, Aa, Ae, Ah] at h
    obtain ⟨rfl, rfl, rfl⟩ := h
    refine aT (k := j) (fun H2 => ⟨(H2 j).gen, false, .map (Rk n es)⟩) rfl (fun H2 ha => ?_) (fun H2 ha => ?_)
    ·simp only [ha _ (.inr (Bw.2 rfl))]
    ·simp only [Pj (ha j (.inl (by simp))), hes, Ac, Aa]
  ·simp at h
 case call m f args => simp only [aop] at h ⊢; exact Zj h ht
 case callv m x args =>
  simp only [aop] at h ⊢
  split at h
  ·rename_i f caps hq
   exact Zj h ht
  ·simp at h
 case box site x =>
  simp only [aop] at h ⊢
  split at h
  ·simp at h
  ·rename_i hc
   simp only [if_neg hc]
   refine Jr (w := fun g => .ptr (base + site) g 1 (x.ev T).cells.length 0 0) (fun H2 => rfl) h
 case boxF site x =>
  simp only [aop] at h ⊢
  split at h
  ·simp at h
  ·rename_i hc
   simp only [if_neg hc]
   refine Jr (w := fun g => .ptr (base + site) g (x.ev T).cells.length 1 0 0) (fun H2 => rfl) h
 case copy s x y =>
  simp only [aop, kS] at h ⊢
  cases e1 : Ch H s (y.ev T) with
  | none => simp [e1] at h
  | some p =>
   obtain ⟨ys, js⟩ := p
   simp only [e1, Ac, Aa] at h
   cases e2 : Bq ys with
   | false => simp [e2] at h
   | true =>
   simp only [e2, Jq, Ap, Bx] at h
   split at h
   ·rename_i tt full s' es hq
    split at h
    ·rename_i hc
     simp only [Ae, Ah] at h
     obtain ⟨rfl, rfl, rfl⟩ := h
     refine Fw rfl rfl fun H2 ha => ?_
     simp only [Nh e1 (fun j hj => ha j (.inl hj)), Ac, Aa, e2, Jq, Ap, Bx, if_pos hc]
    ·simp at h
   ·rename_i j g ver s' off len cap hq
    split at h
    ·simp at h
    ·rename_i es hes
     split at h
     ·rename_i hc
      have h0 := h
      simp only [Ae, Ah] at h0
      obtain ⟨rfl, _, rfl⟩ := h0
      refine Of (rd := j :: js) (k := j) (s := s) (es := es.take off ++ ys.take (min ys.length len) ++ es.drop (off + min ys.length len)) (fun H2 ha => ?_) (by simp only [e1, Ac, Aa, e2, Jq, Ap, Bx, hes, if_pos hc]; exact h)
      simp only [Nh e1 (fun i hi => ha i (.inl (by simp [hi]))), Ac, Aa, e2, Jq, Ap, Bx, Kr (ha j (.inl (by simp))), hes, if_pos hc]
     ·simp at h
   ·simp at h
 case nilrow site s =>
  simp only [aop] at h ⊢
  exact Jr (w := fun g => .slc (base + site) g 0 s 0 0 .none) (fun H2 => rfl) h
 case buildS site s n z ps =>
  simp only [aop] at h ⊢
  split at h
  ·simp at h
  ·rename_i hc
   simp only [if_neg hc]
   split at h
   ·simp at h
   ·rename_i es hes
    exact Jr (w := fun g => .slc (base + site) g n s 0 n .none) (fun H2 => rfl) h
 case buildSN site s n z ps =>
  simp only [aop] at h ⊢
  split at h
  ·simp at h
  ·rename_i hc
   simp only [if_neg hc]
   split at h
   ·simp at h
   ·rename_i es hes
    exact Wi (w := fun j g => .slc j g n s 0 n .none) (fun H2 => rfl) h
 case s2b site x =>
  simp only [aop] at h ⊢
  split at h
  ·rename_i b hq
   split at h
   ·rename_i hc
    simp only [if_pos hc]
    exact Jr (w := fun g => .slc (base + site) g b.size 1 0 b.size .none) (fun H2 => rfl) h
   ·simp at h
  ·simp at h
 case mksN site s z l c =>
  simp only [aop] at h ⊢
  cases e1 : Fb (l.ev T) with
  | none => simp [e1] at h
  | some l0 =>
  cases e2 : Fb (c.ev T) with
  | none => simp [e1, e2] at h
  | some c0 =>
  simp only [e1, e2, Ac, Aa] at h ⊢
  split at h
  ·rename_i hc
   simp only [if_pos hc]
   exact Wi (w := fun j g => .slc j g c0 s 0 l0 .none) (fun H2 => rfl) h
  ·simp at h
 case mks site s z l c =>
  simp only [aop] at h ⊢
  cases e1 : Fb (l.ev T) with
  | none => simp [e1] at h
  | some l0 =>
  cases e2 : Fb (c.ev T) with
  | none => simp [e1, e2] at h
  | some c0 =>
  simp only [e1, e2, Ac, Aa] at h ⊢
  split at h
  ·rename_i hc
   simp only [if_pos hc]
   exact Jr (w := fun g => .slc (base + site) g c0 s 0 l0 .none) (fun H2 => rfl) h
  ·simp at h
 case load k agg x =>
  simp only [aop] at h ⊢
  split at h
  ·rename_i j g ver s i off hq
   split at h
   ·rename_i es hes
    split at h
    ·rename_i e he
     split at h
     ·rename_i hc
      simp only [Ae, Ah] at h
      obtain ⟨rfl, rfl, rfl⟩ := h
      refine Fw rfl rfl fun H2 ha => ?_
      simp only [Mq (ha j (.inl (by simp))), hes, he, if_pos hc]
     ·rename_i hn
      split at h
      ·rename_i hc
       simp only [Ae, Ah] at h
       obtain ⟨rfl, rfl, rfl⟩ := h
       refine Fw rfl rfl fun H2 ha => ?_
       simp only [Mq (ha j (.inl (by simp))), hes, he, if_neg hn, if_pos hc]
      ·simp at h
    ·simp at h
   ·simp at h
  ·rename_i tt cs hq
   split at h
   ·rename_i hc
    simp only [rv, Ae, Ah] at h
    obtain ⟨rfl, rfl, rfl⟩ := h
    exact Fw rfl rfl fun H2 ha => by simp only [if_pos hc, rv]
   ·simp at h
  ·simp at h
 case store k x y =>
  simp only [aop] at h ⊢
  split at h
  ·rename_i j g ver s i off hq
   split at h
   ·rename_i es hes
    split at h
    ·rename_i e he
     split at h
     ·rename_i hc
      have h0 := h
      simp only [Ae, Ah] at h0
      obtain ⟨rfl, _, _⟩ := h0
      refine Of (rd := [j]) (k := j) (s := s) (es := es.set i (e.rewrap (e.cells.take off ++ (y.ev T).cells ++ e.cells.drop (off + k)))) (fun H2 ha => ?_) (by simp only [hes, he, if_pos hc]; exact h)
      simp only [Kr (ha j (.inl (by simp))), hes, he, if_pos hc]
     ·rename_i hn
      split at h
      ·rename_i hc
       have h0 := h
       simp only [Ae, Ah] at h0
       obtain ⟨rfl, _, _⟩ := h0
       refine Of (rd := [j]) (k := j) (s := s) (es := es.take (i + off) ++ (y.ev T).cells ++ es.drop (i + off + k)) (fun H2 ha => ?_) (by simp only [hes, he, if_neg hn, if_pos hc]; exact h)
       simp only [Kr (ha j (.inl (by simp))), hes, he, if_neg hn, if_pos hc]
      ·simp at h
    ·simp at h
   ·simp at h
  ·simp at h
 case app site s x y =>
  simp only [aop, Gv] at h ⊢
  cases e1 : Ch H s (y.ev T) with
  | none => simp [e1] at h
  | some p =>
   obtain ⟨ys, js⟩ := p
   simp only [e1, Ac, Aa] at h
   cases e3 : Du H ys with
   | none => simp [e3] at h
   | some p3 =>
   obtain ⟨ys', H1, K⟩ := p3
   simp only [e3, Aa] at h
   cases e2 : Dc H1 (base + site) s (x.ev T) ys' with
   | none => simp [e2] at h
   | some q =>
    obtain ⟨v2, H2, f2⟩ := q
    simp only [e2, Aa, Ae, Ah] at h
    obtain ⟨rfl, rfl, rfl⟩ := h
    obtain ⟨_, k1, k2⟩ := Uq e2
    obtain ⟨b1, b2⟩ := oR e3
    refine ⟨fun j hj => ?_, fun G ha => ?_⟩
    ·simp only [Bg, not_or] at hj
     rw [k1 j hj.2, b1 j hj.1]
    obtain ⟨G1, m4, m5, m6⟩ := b2 G (fun j hj => ha j (.inr (by simp [hj])))
    have hG1 : ∀ j, (j ∈ f2.rd ∨ j ∈ f2.wr) → G1 j = H1 j := fun j hj => by
     by_cases hk : j ∈ K
     ·exact m5 j hk
     ·rw [m6 j hk, b1 j hk]
      exact ha j (by rcases hj with hj | hj <;> simp [hj])
    obtain ⟨G', m1, m2, m3⟩ := k2 G1 hG1
    refine ⟨G', ?_, fun j hj => ?_, fun j hj => ?_⟩
    ·have e1' := Nh e1 (H2 := G) (fun j hj => ha j (.inl (by simp [hj])))
     simp only [e1', Ac, Aa, m4, m1]
    ·by_cases hw : j ∈ f2.wr
     ·exact m2 j hw
     ·have hk : j ∈ K := by simpa [hw] using hj
      rw [m3 j hw, m5 j hk, k1 j hw]
    ·simp only [Bg, not_or] at hj
     rw [m3 j hj.2, m6 j hj.1]
 case appZ site s z x y =>
  simp only [aop] at h ⊢
  cases e1 : Fb (y.ev T) with
  | none => simp [e1] at h
  | some m =>
   simp only [e1, Ac, Aa] at h ⊢
   split at h
   ·rename_i hc
    simp only [if_pos hc]
    exact (Uq h).2
   ·simp at h
 case b2s x =>
  simp only [aop] at h ⊢
  split at h
  ·simp at h
  ·rename_i hn
   cases e1 : Ch H 1 (x.ev T) with
   | none => simp [e1] at h
   | some p =>
    obtain ⟨ys, js⟩ := p
    simp only [e1, Ac, Aa] at h
    cases e2 : Ng ys with
    | none => simp [e2] at h
    | some bs =>
     simp only [e2, Aa, Ae, Ah] at h
     obtain ⟨rfl, rfl, rfl⟩ := h
     refine Fw rfl rfl fun G ha => ?_
     have e1' := Nh e1 (H2 := G) (fun j hj => ha j (.inl hj))
     simp [if_neg hn, e1', e2]
 case slice s x lo hi mx =>
  simp only [aop] at h ⊢
  cases e1 : Ei T lo with
  | none => simp [e1] at h
  | some l =>
  cases e2 : Ei T hi with
  | none => simp [e1, e2] at h
  | some hh =>
  cases e3 : Ei T mx with
  | none => simp [e1, e2, e3] at h
  | some m =>
  simp only [e1, e2, e3, Ac, Aa, Xo] at h ⊢
  split at h
  ·rename_i tt full s' es hq
   split at h
   ·simp at h
   ·rename_i hc
    split at h
    ·rename_i hc2
     simp only [Ae, Ah] at h
     obtain ⟨rfl, rfl, rfl⟩ := h
     refine Fw rfl rfl fun G ha => ?_
     simp only [if_neg hc, if_pos hc2]
    ·simp at h
  ·rename_i j g ver s' off len cap hq
   split at h
   ·simp at h
   ·rename_i hc
    split at h
    ·simp at h
    ·rename_i es hes
     split at h
     ·rename_i hc2
      simp only [Ae, Ah] at h
      obtain ⟨rfl, rfl, rfl⟩ := h
      refine Fw rfl rfl fun G ha => ?_
      simp only [if_neg hc, Mq (ha j (.inl (by simp))), hes, if_pos hc2]
     ·simp at h
  ·simp at h
 case iaddr s x i =>
  simp only [aop] at h ⊢
  cases e1 : Fb (i.ev T) with
  | none => simp [e1] at h
  | some i0 =>
   simp only [e1, Ac, Aa] at h ⊢
   split at h
   ·rename_i j g ver s' off len cap hq
    cases hes : H.row j g ver s' with
    | none => simp [hes] at h
    | some es =>
     simp only [hes, Aa] at h
     split at h
     ·rename_i hc
      simp only [Ae, Ah] at h
      obtain ⟨rfl, rfl, rfl⟩ := h
      refine Fw rfl rfl fun G ha => ?_
      simp only [Mq (ha j (.inl (by simp))), hes, Aa, if_pos hc]
     ·simp at h
   ·rename_i tt f s' es hq
    split at h
    ·simp at h
    ·rename_i hc
     split at h
     ·rename_i e he
      simp only [rv, Ae, Ah] at h
      obtain ⟨rfl, rfl, rfl⟩ := h
      exact Fw rfl rfl fun G ha => by simp only [if_neg hc, he, rv]
     ·simp at h
   ·simp at h
 case ss x =>
  simp only [aop] at h ⊢
  split at h
  ·rename_i j g ver s off len cap hq
   split at h
   ·rename_i es hes
    split at h
    ·rename_i hc
     simp only [Ae, Ah] at h
     obtain ⟨rfl, rfl, rfl⟩ := h
     refine Of (k := j) (s := s) (es := es) (rd := [j]) (fun G ha => ?_) (by simp only [hes, if_pos hc])
     simp only [Kr (ha j (.inl (by simp))), hes, if_pos hc]
    ·simp at h
   ·simp at h
  ·simp at h
 all_goals exact sB rfl h
end
end Go.AI
namespace Go.AI
def Mb {α : Type} (p : Nat → Bool) (v : Nat → α) (d : α) : Nat → α
 | 0 => d
 | n + 1 => if p n then v n else Mb p v d n
theorem Hp {α : Type} {p q : Nat → Bool} {v : Nat → α} {d : α} : ∀ {n : Nat}, (∀ k, k < n → p k = q k) → Mb p v d n = Mb q v d n
 | 0, _ => rfl
 | n + 1, h => by
  simp only [Mb, h n (by omega)]
  rw [Hp (n := n) fun k hk => h k (by omega)]
theorem Kt {α : Type} {p : Nat → Bool} {v : Nat → α} {d : α} {i : Nat} : ∀ {n : Nat}, i ≤ n → (∀ k, i ≤ k → k < n → p k = false) → Mb p v d n = Mb p v d i
 | 0, h, _ => by simp at h; subst h; rfl
 | n + 1, h, hp => by
  rcases Nat.lt_or_ge i (n + 1) with h1 | h1
  ·rw [← Kt (n := n) (by omega) fun k h1 h2 => hp k h1 (by omega)]
   simp only [Mb, hp n (by omega) (by omega), Ap, Bx]
  ·have : i = n + 1 := by omega
   subst this; rfl
structure Trace (cf : Cx) (xf : ExtF) (base : Nat) (l : List SOper) (T : Tmps) (H : Heap) (T' : Tmps) (H' : Heap) (Ts : Nat → Tmps) (Hs : Nat → Heap) (vs : Nat → AV) (fps : Nat → FP) (log : List FP) : Prop where
 t0 : Ts 0 = T
 h0 : Hs 0 = H
 tn : Ts l.length = T'
 hn : Hs l.length = H'
 step : ∀ i o, l[i]? = some o → Ts (i + 1) = (Ts i).put o.dst (vs i) ∧
  ((Af (Ts i) o.guard = some false ∧ vs i = .undef ∧ Hs (i + 1) = Hs i ∧ fps i = .z) ∨
   (Af (Ts i) o.guard = some true ∧ aop cf xf base (Ts i) (Hs i) o.op = some (vs i, Hs (i + 1), fps i) ∧ Av (log ++ (List.range i).map fps) (fps i) o.un = true))
theorem iA {cf : Cx} {xf : ExtF} {base : Nat} : ∀ {l : List SOper} {log : List FP} {T : Tmps} {H : Heap} {T' : Tmps} {H' : Heap}, aops cf xf base l log T H = some (T', H') →
  ∃ Ts Hs vs fps, Trace cf xf base l T H T' H' Ts Hs vs fps log
 | [], log, T, H, T', H', h => by
  simp [aops] at h
  obtain ⟨rfl, rfl⟩ := h
  exact ⟨fun _ => T, fun _ => H, fun _ => .undef, fun _ => .z, rfl, rfl, rfl, rfl, fun i o h => by simp at h⟩
 | o :: l, log, T, H, T', H', h => by
  have key : ∀ (v : AV) (H1 : Heap) (fp : FP), aops cf xf base l (log ++ [fp]) (T.put o.dst v) H1 = some (T', H') →
    ((Af T o.guard = some false ∧ v = .undef ∧ H1 = H ∧ fp = .z) ∨ (Af T o.guard = some true ∧ aop cf xf base T H o.op = some (v, H1, fp) ∧ Av log fp o.un = true)) →
    ∃ Ts Hs vs fps, Trace cf xf base (o :: l) T H T' H' Ts Hs vs fps log := by
   intro v H1 fp h1 h2
   obtain ⟨Ts, Hs, vs, fps, ht⟩ := iA h1
   refine ⟨fun | 0 => T | i + 1 => Ts i, fun | 0 => H | i + 1 => Hs i, fun | 0 => v | i + 1 => vs i, fun | 0 => fp | i + 1 => fps i, rfl, rfl, by simpa using ht.tn, by simpa using ht.hn, fun i o' ho => ?_⟩
   cases i with
   | zero =>
    simp at ho; subst ho
    refine ⟨ht.t0, ?_⟩
    rcases h2 with h2 | h2
    ·exact .inl ⟨h2.1, h2.2.1, ht.h0.trans h2.2.2.1, h2.2.2.2⟩
    ·refine .inr ⟨h2.1, ?_, by simpa using h2.2.2⟩
     show aop cf xf base T H o.op = some (v, Hs 0, fp)
     rw [ht.h0]; exact h2.2.1
   | succ i =>
    simp at ho
    obtain ⟨k1, k2⟩ := ht.step i o' ho
    refine ⟨k1, ?_⟩
    rcases k2 with k2 | k2
    ·exact .inl k2
    ·refine .inr ⟨k2.1, k2.2.1, ?_⟩
     have : log ++ [fp] ++ (List.range i).map fps = log ++ (List.range (i + 1)).map (fun | 0 => fp | i + 1 => fps i) := by
      rw [List.range_succ_eq_map, Bc, Fh, Dr]
      rfl
     rw [← this]
     exact k2.2.2
  simp only [aops] at h
  split at h
  ·simp at h
  ·rename_i hw
   exact key .undef H .z h (.inl ⟨hw, rfl, rfl, rfl⟩)
  ·rename_i hw
   split at h
   ·simp at h
   ·rename_i v H1 fp hop
    split at h
    ·rename_i hlog
     exact key v H1 fp h (.inr ⟨hw, hop, hlog⟩)
    ·simp at h
def NC (a b : FP) : Prop := (a.rd = [] ∧ a.wr = [] ∧ a.top = false) ∨ (b.rd = [] ∧ b.wr = [] ∧ b.top = false) ∨ (a.wr = [] ∧ b.wr = [] ∧ a.top = false ∧ b.top = false) ∨ a.apart b = true
def FP.writes (f : FP) (j : Nat) : Bool := f.top || f.wr.contains j
def FP.looks (f : FP) (j : Nat) : Bool := f.top || f.wr.contains j || f.rd.contains j
theorem NC.spec {a b : FP} (h : NC a b) (j : Nat) : ¬ (a.writes j = true ∧ b.looks j = true) ∧ ¬ (b.writes j = true ∧ a.looks j = true) := by
 unfold FP.writes FP.looks
 rcases h with ⟨h1, h2, h3⟩ | ⟨h1, h2, h3⟩ | ⟨h1, h2, h3, h4⟩ | h
 ·simp [h1, h2, h3]
 ·simp [h1, h2, h3]
 ·simp [h1, h2, h3, h4]
 ·simp only [FP.apart, Bu, Qj, Ij] at h
  obtain ⟨⟨⟨h1, h2⟩, h3⟩, h4⟩ := h
  simp only [h1, h2, Bool.false_or, Lc, List.contains_iff_mem]
  constructor
  ·rintro ⟨k1, k2⟩
   have := h3 j k1
   simp at this
   rcases k2 with k2 | k2
   ·exact this.2 k2
   ·exact this.1 k2
  ·rintro ⟨k1, k2⟩
   rcases k2 with k2 | k2
   ·have := h3 j k2
    simp at this
    exact this.2 k1
   ·have := h4 j k1
    simp at this
    exact this k2
theorem Adp {cf : Cx} {xf : ExtF} {base : Nat} {T : Tmps} {H H' : Heap} {op : SOp} {v : AV} {fp : FP} (hl : laid op = true) (h : aop cf xf base T H op = some (v, H', fp)) :
  (cls op = 0 → fp.rd = [] ∧ fp.wr = [] ∧ fp.top = false) ∧ (cls op = 1 → fp.wr = [] ∧ fp.top = false) := by
 by_cases hq : lP op = true
 ·rw [oE hq] at h
  have hz : fp = .z := by
   cases hx : (aop cf xf base T Heap.none op).map (·.1) with
   | none => rw [hx] at h; simp at h
   | some u => rw [hx] at h; simp [rv] at h; exact h.2.2.symm
  subst hz
  exact ⟨fun _ => ⟨rfl, rfl, rfl⟩, fun _ => ⟨rfl, rfl⟩⟩
 ·have one : ∀ {m : Mode} {f : Nat} {args : List AV}, (m matches .pure | .ext) = true → Fu cf xf base m f args H = some (v, H', fp) → fp.wr = [] ∧ fp.top = false := by
   intro m f args hm h
   cases m with
   | pure =>
    simp only [Fu] at h
    cases e1 : cf f 0 (args.map (fz false deep H)) Heap.none with
    | none => simp [e1] at h
    | some p => simp [e1] at h; obtain ⟨_, _, rfl⟩ := h; exact ⟨rfl, rfl⟩
   | ext =>
    simp only [Fu] at h
    cases e1 : xf f (args.map (fz false deep H)) with
    | none => simp [e1] at h
    | some p => simp [e1] at h; obtain ⟨_, _, rfl⟩ := h; exact ⟨rfl, rfl⟩
   | _ => simp at hm
  refine ⟨fun hc => ?_, fun hc => ?_⟩
  ·exfalso
   cases op <;> first
    | (simp [lP] at hq; done)
    | (simp [cls] at hc; done)
    | (simp [laid] at hl; done)
    | (rename_i m _ _; cases m <;> simp [cls] at hc)
  ·cases op
   case call m f args =>
    simp only [aop] at h
    cases m <;> simp [cls] at hc
    ·exact one (by rfl) h
    ·exact one (by rfl) h
   case callv m x args =>
    simp only [aop] at h
    split at h
    ·cases m <;> simp [cls] at hc
     ·exact one (by rfl) h
     ·exact one (by rfl) h
    ·simp at h
   case lookup z m k ok =>
    simp only [aop] at h
    split at h
    ·rename_i j g n hq1 hq2
     cases hes : H.mapAt j g with
     | none => simp [hes] at h
     | some es => simp [hes] at h; obtain ⟨_, _, rfl⟩ := h; exact ⟨rfl, rfl⟩
    ·simp at h
   case maplen m =>
    simp only [aop] at h
    split at h
    ·rename_i j g hq1
     cases hes : H.mapAt j g with
     | none => simp [hes] at h
     | some es => simp [hes] at h; obtain ⟨_, _, rfl⟩ := h; exact ⟨rfl, rfl⟩
    ·simp at h
   case load k agg x =>
    simp only [aop] at h
    (repeat' split at h) <;> simp [rv, FP.z] at h <;> obtain ⟨_, _, rfl⟩ := h <;> exact ⟨rfl, rfl⟩
   case slice s x lo hi mx =>
    simp only [aop] at h
    cases e1 : Ei T lo with
    | none => simp [e1] at h
    | some l =>
    cases e2 : Ei T hi with
    | none => simp [e1, e2] at h
    | some hh =>
    cases e3 : Ei T mx with
    | none => simp [e1, e2, e3] at h
    | some m =>
    simp only [e1, e2, e3, Ac, Aa, Xo] at h
    (repeat' split at h) <;> simp [rv, FP.z] at h <;> obtain ⟨_, _, rfl⟩ := h <;> exact ⟨rfl, rfl⟩
   case iaddr s x i =>
    simp only [aop] at h
    cases e1 : Fb (i.ev T) with
    | none => simp [e1] at h
    | some i0 =>
     simp only [e1, Ac, Aa] at h
     split at h
     ·rename_i j g ver s' off len cap hq
      cases hes : H.row j g ver s' with
      | none => simp [hes] at h
      | some es =>
       simp only [hes, Aa] at h
       split at h
       ·simp at h; obtain ⟨_, _, rfl⟩ := h; exact ⟨rfl, rfl⟩
       ·simp at h
     ·(repeat' split at h) <;> simp [rv, FP.z] at h <;> obtain ⟨_, _, rfl⟩ := h <;> exact ⟨rfl, rfl⟩
     ·simp at h
   case b2s x =>
    simp only [aop] at h
    split at h
    ·simp at h
    ·cases e1 : Ch H 1 (x.ev T) with
     | none => simp [e1] at h
     | some p =>
      obtain ⟨ys, js⟩ := p
      simp only [e1, Ac, Aa] at h
      cases e2 : Ng ys with
      | none => simp [e2] at h
      | some bs => simp [e2] at h; obtain ⟨_, _, rfl⟩ := h; exact ⟨rfl, rfl⟩
   all_goals first
    | (simp [lP] at hq; done)
    | (simp [cls] at hc; done)
    | (simp [laid] at hl; done)
end Go.AI
namespace Go.AI
section perm
variable {cf : Cx} {xf : ExtF} {base : Nat} {l : List SOper} {T T' : Tmps} {H H' : Heap} {Ts : Nat → Tmps} {Hs : Nat → Heap} {vs : Nat → AV} {fps : Nat → FP}
 {bef : Nat → List Nat}
def Pm (l : List SOper) (k : Nat) : Option Nat := (l[k]?).bind (·.dst)
structure Checked (l : List SOper) (bef : Nat → List Nat) : Prop where
 laid : ∀ (i : Nat) (o : SOper), l[i]? = some o → AI.laid o.op = true
 pair : ∀ (k i : Nat) (x y : SOper), k < i → l[k]? = some x → l[i]? = some y → k ∈ bef i ∨ (Kw x y = true ∧ (Yk x.op y.op = true → k ∈ y.un))
def TD (l : List SOper) (vs : Nat → AV) (T : Tmps) (D : Nat → Bool) : Tmps := fun t => Mb (fun k => D k && Pm l k == some t) vs (T t) l.length
def HD (l : List SOper) (Hs : Nat → Heap) (fps : Nat → FP) (H : Heap) (D : Nat → Bool) : Heap := fun j => Mb (fun k => D k && (fps k).writes j) (fun k => Hs (k + 1) j) (H j) l.length
variable (ht : Trace cf xf base l T H T' H' Ts Hs vs fps []) (hc : Checked l bef)
include ht
theorem wE (t : Nat) : ∀ i, i ≤ l.length → Ts i t = Mb (fun k => Pm l k == some t) vs (T t) i
 | 0, _ => by rw [ht.t0]; rfl
 | i + 1, h => by
  have ho : l[i]? = some l[i] := Ai (by omega)
  obtain ⟨h1, _⟩ := ht.step i _ ho
  rw [h1]
  simp only [Mb, Pm, ho, Aa]
  cases hd : l[i].dst with
  | none => simp only [Tmps.put]; rw [wE t i (by omega)]; rfl
  | some d =>
   simp only [Tmps.put, Tmps.upd_eq]
   by_cases hdt : t = d
   ·subst hdt; simp
   ·rw [if_neg hdt, wE t i (by omega)]
    have : (some d == some t) = false := by simpa using (Ne.symm hdt)
    rw [this]; rfl
include hc
theorem Aap (j : Nat) : ∀ i, i ≤ l.length → Hs i j = Mb (fun k => (fps k).writes j) (fun k => Hs (k + 1) j) (H j) i
 | 0, _ => by rw [ht.h0]; rfl
 | i + 1, h => by
  have ho : l[i]? = some l[i] := Ai (by omega)
  obtain ⟨_, h2⟩ := ht.step i _ ho
  simp only [Mb]
  split
  ·rfl
  ·rename_i hw
   simp only [FP.writes, Lc, List.contains_iff_mem, not_or, dP] at hw
   rw [← Aap j i (by omega)]
   rcases h2 with ⟨_, _, h3, _⟩ | ⟨_, h3, _⟩
   ·rw [h3]
   ·exact (kY (hc.laid i _ ho) h3 hw.1).1 j hw.2
omit ht hc in
theorem oZ (op : SOp) : cls op = 0 ∨ cls op = 1 ∨ cls op = 2 := by
 cases op
 case call m _ _ => cases m <;> simp [cls]
 case callv m _ _ => cases m <;> simp [cls]
 all_goals simp [cls]
theorem nc {k i : Nat} {x y : SOper} (hki : k < i) (hx : l[k]? = some x) (hy : l[i]? = some y) (hb : k ∉ bef i) : NC (fps k) (fps i) ∧ Kw x y = true := by
 obtain ⟨h1, h2⟩ := (hc.pair k i x y hki hx hy).resolve_left hb
 refine ⟨?_, h1⟩
 obtain ⟨_, s1⟩ := ht.step k x hx
 obtain ⟨_, s2⟩ := ht.step i y hy
 rcases s1 with ⟨_, _, _, e1⟩ | ⟨_, e1, _⟩
 ·exact .inl (by rw [e1]; exact ⟨rfl, rfl, rfl⟩)
 rcases s2 with ⟨_, _, _, e2⟩ | ⟨_, e2, e3⟩
 ·exact .inr (.inl (by rw [e2]; exact ⟨rfl, rfl, rfl⟩))
 have c1 := Adp (hc.laid k x hx) e1
 have c2 := Adp (hc.laid i y hy) e2
 by_cases hw : Yk x.op y.op = true
 ·have hu := h2 hw
  simp only [Av, Dk, Ij] at e3
  have := e3 k hu
  rw [Cd, List.getElem?_range hki] at this
  exact .inr (.inr (.inr this))
 ·simp only [Yk, Bu, Lc, bne_iff_ne, beq_iff_eq, Dj, not_and, not_or] at hw
  rcases oZ x.op with a1 | a1 | a1
  ·exact .inl (c1.1 a1)
  ·rcases oZ y.op with a2 | a2 | a2
   ·exact .inr (.inl (c2.1 a2))
   ·exact .inr (.inr (.inl ⟨(c1.2 a1).1, (c2.2 a2).1, (c1.2 a1).2, (c2.2 a2).2⟩))
   ·simp [a1, a2] at hw
  ·rcases oZ y.op with a2 | a2 | a2
   ·exact .inr (.inl (c2.1 a2))
   ·simp [a1, a2] at hw
   ·simp [a1, a2] at hw
theorem zC {D : Nat → Bool} {i : Nat} {o : SOper} (ho : l[i]? = some o) (hi : D i = false) (hup : ∀ k ∈ bef i, D k = true) (hcl : ∀ m, D m = true → m < l.length → ∀ k ∈ bef m, D k = true)
  {D' : Nat → Bool} (hD' : ∀ k, D' k = (D k || k == i)) :
  TD l vs T D' = (TD l vs T D).put o.dst (vs i) ∧
   ((Af (TD l vs T D) o.guard = some false ∧ vs i = .undef ∧ HD l Hs fps H D' = HD l Hs fps H D) ∨
    (Af (TD l vs T D) o.guard = some true ∧ aop cf xf base (TD l vs T D) (HD l Hs fps H D) o.op = some (vs i, HD l Hs fps H D', fps i))) := by
 have hil : i < l.length := (Dg.1 ho).1
 have hlater : ∀ k, i < k → k < l.length → D k = true → NC (fps i) (fps k) ∧ ∀ y, l[k]? = some y → Kw o y = true := by
  intro k h1 h2 h3
  have hk : l[k]? = some l[k] := Ai h2
  have hb : i ∉ bef k := fun hb => by have := hcl k h3 h2 i hb; rw [hi] at this; simp at this
  have := nc ht hc h1 ho hk hb
  refine ⟨this.1, fun y hy => ?_⟩
  rw [hk] at hy; cases hy
  exact this.2
 have hearlier : ∀ k, k < i → D k = false → NC (fps k) (fps i) ∧ ∀ x, l[k]? = some x → Kw x o = true := by
  intro k h1 h3
  have hk : l[k]? = some l[k] := Ai (by omega)
  have hb : k ∉ bef i := fun hb => by have := hup k hb; rw [h3] at this; simp at this
  have := nc ht hc h1 hk ho hb
  refine ⟨this.1, fun x hx => ?_⟩
  rw [hk] at hx; cases hx
  exact this.2
 have hread : ∀ t ∈ eE o, TD l vs T D t = Ts i t := by
  intro t htr
  rw [wE ht t i (by omega)]
  unfold TD
  have e1 : Mb (fun k => D k && Pm l k == some t) vs (T t) l.length = Mb (fun k => decide (k < i) && Pm l k == some t) vs (T t) l.length := by
   refine Hp fun k hk => ?_
   by_cases hd : Pm l k = some t
   ·have hdb : (Pm l k == some t) = true := by simpa using hd
    rw [hdb, Sn, Sn]
    have hkk : l[k]? = some l[k] := Ai hk
    have hdk : l[k].dst = some t := by simpa [Pm, hkk] using hd
    rcases Nat.lt_trichotomy k i with h1 | h1 | h1
    ·cases hDk : D k with
     | true => simp [h1]
     | false =>
      have := (hearlier k h1 hDk).2 _ hkk
      simp [Kw, hdk, htr] at this
    ·subst h1; simp [hi]
    ·cases hDk : D k with
     | false => simp; omega
     | true =>
      have := (hlater k h1 hk hDk).2 _ hkk
      simp [Kw, hdk, htr] at this
   ·have hdb : (Pm l k == some t) = false := by simpa using hd
    rw [hdb, Qk, Qk]
  rw [e1, Kt (i := i) (by omega) fun k h1 _ => by simp; omega]
  exact Hp fun k hk => by simp [hk]
 have hlook : ∀ j, (fps i).looks j = true → HD l Hs fps H D j = Hs i j := by
  intro j hj
  rw [Aap ht hc j i (by omega)]
  unfold HD
  have e1 : Mb (fun k => D k && (fps k).writes j) (fun k => Hs (k + 1) j) (H j) l.length = Mb (fun k => decide (k < i) && (fps k).writes j) (fun k => Hs (k + 1) j) (H j) l.length := by
   refine Hp fun k hk => ?_
   cases hw : (fps k).writes j with
   | false => simp
   | true =>
    rw [Sn, Sn]
    rcases Nat.lt_trichotomy k i with h1 | h1 | h1
    ·cases hDk : D k with
     | true => simp [h1]
     | false => exact absurd ⟨hw, hj⟩ ((hearlier k h1 hDk).1.spec j).1
    ·subst h1; simp [hi]
    ·cases hDk : D k with
     | false => simp; omega
     | true => exact absurd ⟨hw, hj⟩ ((hlater k h1 hk hDk).1.spec j).2
  rw [e1, Kt (i := i) (by omega) fun k h1 _ => by simp; omega]
  exact Hp fun k hk => by simp [hk]
 have hTD : TD l vs T D' = (TD l vs T D).put o.dst (vs i) := by
  funext t
  have hput : (TD l vs T D).put o.dst (vs i) t = if o.dst = some t then vs i else TD l vs T D t := by
   cases hd : o.dst with
   | none => simp [Tmps.put]
   | some d =>
    simp only [Tmps.put, Tmps.upd_eq, Ae]
    by_cases h : t = d
    ·subst h; simp
    ·rw [if_neg h, if_neg (Ne.symm h)]
  rw [hput]
  by_cases hd : o.dst = some t
  ·rw [if_pos hd]
   unfold TD
   rw [Kt (i := i + 1) (by omega) fun k h1 h2 => ?_]
   ·have : (D' i && Pm l i == some t) = true := by simp [hD', Pm, ho, hd]
    simp only [Mb, this, if_true]
   ·refine Zw.2 fun hne => ?_
    simp only [Bu, beq_iff_eq] at hne
    obtain ⟨n1, n2⟩ := hne
    rw [hD'] at n1
    have hDk : D k = true := by
     have : (k == i) = false := by simp; omega
     simpa [this] using n1
    have hkk : l[k]? = some l[k] := Ai h2
    have hdk : l[k].dst = some t := by simpa [Pm, hkk] using n2
    have := (hlater k (by omega) h2 hDk).2 _ hkk
    simp [Kw, hd, hdk] at this
  ·rw [if_neg hd]
   unfold TD
   refine Hp fun k hk => ?_
   rw [hD']
   by_cases hki : k = i
   ·subst hki
    have : (Pm l k == some t) = false := by simp [Pm, ho, hd]
    rw [this, Qk, Qk]
   ·have : (k == i) = false := by simpa using hki
    rw [this, cA]
 have hHD : ∀ j, HD l Hs fps H D' j = if (fps i).writes j = true then Hs (i + 1) j else HD l Hs fps H D j := by
  intro j
  by_cases hw : (fps i).writes j = true
  ·rw [if_pos hw]
   unfold HD
   rw [Kt (i := i + 1) (by omega) fun k h1 h2 => ?_]
   ·have : (D' i && (fps i).writes j) = true := by simp [hD', hw]
    simp only [Mb, this, if_true]
   ·refine Zw.2 fun hne => ?_
    simp only [Bu] at hne
    obtain ⟨n1, n2⟩ := hne
    rw [hD'] at n1
    have hDk : D k = true := by
     have : (k == i) = false := by simp; omega
     simpa [this] using n1
    have hl : (fps i).looks j = true := by
     unfold FP.writes at hw; unfold FP.looks; simp only [Lc] at hw ⊢; exact .inl hw
    exact ((hlater k (by omega) h2 hDk).1.spec j).2 ⟨n2, hl⟩
  ·rw [if_neg hw]
   unfold HD
   refine Hp fun k hk => ?_
   rw [hD']
   by_cases hki : k = i
   ·subst hki
    have : (fps k).writes j = false := by simpa using hw
    rw [this, Qk, Qk]
   ·have : (k == i) = false := by simpa using hki
    rw [this, cA]
 refine ⟨hTD, ?_⟩
 have hg : Af (TD l vs T D) o.guard = Af (Ts i) o.guard := by
  cases hgu : o.guard with
  | none => rfl
  | some g =>
   obtain ⟨t, b⟩ := g
   have := hread t (by simp [eE, hgu])
   simp only [Af, this]
 obtain ⟨_, hs⟩ := ht.step i o ho
 rcases hs with ⟨s1, s2, s3, s4⟩ | ⟨s1, s2, _⟩
 ·refine .inl ⟨hg.trans s1, s2, ?_⟩
  funext j
  rw [hHD j, if_neg (by rw [s4]; simp [FP.z, FP.writes])]
 ·refine .inr ⟨hg.trans s1, ?_⟩
  rw [yO cf xf base (T := Ts i) (T2 := TD l vs T D) (HD l Hs fps H D) (fun x hx => ?_)]
  ·cases htop : (fps i).top with
   | true =>
    have e1 : HD l Hs fps H D = Hs i := funext fun j => hlook j (by simp [FP.looks, htop])
    have e2 : HD l Hs fps H D' = Hs (i + 1) := funext fun j => by rw [hHD j, if_pos (by simp [FP.writes, htop])]
    rw [e1, e2]; exact s2
   | false =>
    obtain ⟨_, k2⟩ := kY (hc.laid i o ho) s2 htop
    obtain ⟨H2', m1, m2, m3⟩ := k2 (HD l Hs fps H D) (fun j hj => hlook j (by simp [FP.looks, htop]; rcases hj with h | h <;> simp [h]))
    have : HD l Hs fps H D' = H2' := by
     funext j
     rw [hHD j]
     by_cases hw : j ∈ (fps i).wr
     ·rw [if_pos (by simp [FP.writes, hw]), m2 j hw]
     ·rw [if_neg (by simp [FP.writes, htop, hw]), m3 j hw]
    rw [this]; exact m1
  ·cases x with
   | c v => rfl
   | t n => exact hread n (by simp only [eE, Bg, List.mem_filterMap]; exact .inl ⟨_, hx, rfl⟩)
end perm
end Go.AI
