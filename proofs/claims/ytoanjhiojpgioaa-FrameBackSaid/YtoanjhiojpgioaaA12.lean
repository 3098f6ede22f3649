/- Calls. -/
import Derived.Test.YtoanjhiojpgioaaA11
set_option linter.unusedSimpArgs false
set_option linter.unusedVariables false
namespace Go.AI

/-- What a call leaves. -/
def Done (C : Ctx) (v : AV) (H' : Heap) (e : Ending) (w' : World) : Prop :=
  ∃ v' μ', e = .returned v' ∧ Evo C ⟨C.F, μ', H', w'⟩ ∧ Rel ⟨C.F, μ', H', w'⟩ ∧ VR ⟨C.F, μ', H', w'⟩ true true v v'

def HasBody (P : Program) (f : Nat) : Prop := ∃ fn, P.funcs[f]? = some fn ∧ fn.body.isSome = true ∧ fn.name ≠ "runtime.NumGoroutine"

def FunOk (P : Program) (cf : CallF) : Prop := ∀ (C : Ctx) (f base : Nat) (args : List AV) (v : AV) (H' : Heap) (vs : Array Value), Rel C → cf f base args C.H = some (v, H') → VRT C true true args vs.toList →
  HasBody P f ∧ Calls P f vs C.w (Done C v H')

def ExtOk (P : Program) (xf : ExtF) : Prop := ∀ (C : Ctx) (f : Nat) (args : List AV) (v : AV) (vs : Array Value), Rel C → xf f args = some v → VRT C false true args vs.toList →
  HasBody P f ∧ Calls P f vs C.w (fun e w' => ∃ v', e = .returned v' ∧ Evo C { C with w := w' } ∧ Rel { C with w := w' } ∧ VR { C with w := w' } false false v v')

/-- The callee's own state. -/
def sub (C : Ctx) : Ctx := ⟨fun b => C.F b ∨ Own C b, fun _ => 0, Heap.none, C.w⟩

theorem own_lt {C : Ctx} (hR : Rel C) {b : Nat} (h : Own C b) : b < C.w.heap.size := by
  obtain ⟨j, h1, rfl⟩ := h
  exact (hR.lt (mut_live h1)).1

theorem sub_own (C : Ctx) (b : Nat) : ¬ Own (sub C) b := by
  rintro ⟨j, h1, _⟩
  simp [sub, Heap.none, Blk.mut, Blk.live] at h1

theorem sub_rel {C : Ctx} (hR : Rel C) : Rel (sub C) :=
  ⟨fun b hb => hb.elim (hR.fsz b) (own_lt hR), fun j => by simp [BR, sub, Heap.none], fun i j h1 => by simp [sub, Heap.none, Blk.mut, Blk.live] at h1⟩

/-- Behind a callee that had a heap of its own. -/
theorem back {C C1 : Ctx} (hR : Rel C) (hE : Evo (sub C) C1) : Evo C { C with w := C1.w } ∧ Rel { C with w := C1.w } := by
  have hk : ∀ b, b < C.w.heap.size → C1.w.heap[b]? = C.w.heap[b]? := fun b hb => hE.keep b hb (sub_own C b)
  have hE' : Evo C { C with w := C1.w } :=
    ⟨rfl, hE.size, fun b hb _ => hk b hb, fun b h => .inl h, fun _ _ _ h => h, fun _ _ _ _ es' _ h => ⟨⟨es', h⟩, fun _ => rfl⟩, fun _ _ es' _ h => ⟨⟨es', h⟩, rfl⟩, hE.shape, hE.os, hE.tape, hE.output⟩
  exact ⟨hE', ⟨fun b hb => Nat.lt_of_lt_of_le (hR.fsz b hb) hE.size, fun j => BR.mono hE' rfl (fun _ => rfl) (fun hl => hk _ (hR.lt hl).1) (hR.blk j), hR.inj⟩⟩

theorem snap_args {C : Ctx} (hR : Rel C) {args : List AV} {vs : List Value} (h : VRT C true true args vs) : VRT (sub C) false true (args.map (fz false deep C.H)) vs :=
  fz_okT false hR (D := sub C) rfl (fun b h => absurd h (sub_own C b)) (fun b h => h.imp id fun h => ⟨rfl, h⟩) deep h

section
variable {P : Program} {C : Ctx} {cf : CallF} {xf : ExtF} {v : AV} {H' : Heap} {fp : FP} {base f : Nat} {args : List AV} {vs : Array Value}

theorem moveOut_ok {C1 : Ctx} (hR : Rel C) (hE : Evo (sub C) C1) (hR1 : Rel C1) {site : Nat} {u u' : AV} {r r' : List AV} (h : moveOut C.H C1.H site u r = some (u', r', H')) :
    ∃ μ', Evo C ⟨C.F, μ', H', C1.w⟩ ∧ Rel ⟨C.F, μ', H', C1.w⟩ ∧ (∀ v, VR C1 true true u v → VR ⟨C.F, μ', H', C1.w⟩ true true u' v) ∧ (∀ vs, VRT C1 true true r vs → VRT ⟨C.F, μ', H', C1.w⟩ true true r' vs) := by
  have hk : ∀ b, b < C.w.heap.size → C1.w.heap[b]? = C.w.heap[b]? := fun b hb => hE.keep b hb (sub_own C b)
  have hF1 : ∀ b, C.F b ∨ Own C b → C1.F b := fun b hb => by rw [hE.F]; exact hb
  unfold moveOut at h
  split at h
  · rename_i j g ver s off len cap
    split at h
    · rename_i es hes
      split at h
      · rename_i hc
        obtain ⟨hn1, hn2⟩ := hc
        simp only [Option.some.injEq, Prod.mk.injEq] at h
        obtain ⟨rfl, rfl, rfl⟩ := h
        obtain ⟨hes1, hro⟩ := rowW_some.1 hes
        obtain ⟨hg, hst, hver⟩ := row_some.1 hes1
        have hown1 : es ≠ [] → Own C1 (C1.μ j) := fun hne => ⟨j, by unfold Blk.mut; rw [live_row hst hne, hro]; rfl, rfl⟩
        have hge : es ≠ [] → C.w.heap.size ≤ C1.μ j := fun hne => (hE.own _ (hown1 hne)).resolve_left (sub_own C _)
        have hne' : es.map (fz true deep C1.H) ≠ [] → es ≠ [] := fun h h0 => h (by rw [h0]; rfl)
        obtain ⟨hE', hr⟩ := upd_gen hR site ⟨(C.H site).gen + 1, false, .row s (es.map (fz true deep C1.H))⟩ (C1.μ j) C1.w (by simp) (fun h => absurd h (by simp)) (fun h => absurd h (by simp))
          hE.size (fun b hb _ => hk b hb) hE.shape
          (fun h => .inr (hge (hne' (by intro h0; rw [h0] at h; simp [Blk.mut, Blk.live] at h)))) (fun h => .inr (hge (hne' (by intro h0; rw [h0] at h; simp [Blk.live] at h)))) hE.os hE.tape hE.output
        have hI : ∀ tt b, (tt = true → (!true) = true) → IB C1 tt b → IB ⟨C.F, updN C.μ site (C1.μ j), C.H.upd site ⟨(C.H site).gen + 1, false, .row s (es.map (fz true deep C1.H))⟩, C1.w⟩ tt b := by
          intro tt b ht ⟨a1, a2, a3⟩
          have htt : tt = false := by cases tt <;> simp_all
          subst htt
          refine ⟨a1, ?_, fun _ hF => a3 rfl (hF1 b (.inl hF))⟩
          rintro ⟨i, b1, b2⟩
          by_cases hi : i = site
          · subst hi
            simp only [upd_same, updN_same] at b1 b2
            exact a2 (b2 ▸ hown1 (hne' (by intro h0; rw [h0] at b1; simp [Blk.mut, Blk.live] at b1)))
          · simp only [upd_ne _ _ hi, updN_ne _ _ hi] at b1 b2
            exact a3 rfl (hF1 b (.inr ⟨i, b1, b2⟩))
        have hfz := fun (nn : Nat) {a : AV} {v : Value} (hq : False ∨ a.norefs = true) (hv : VR C1 true true a v) => fz_gen true hR1 (D := ⟨C.F, updN C.μ site (C1.μ j), C.H.upd site ⟨(C.H site).gen + 1, false, .row s (es.map (fz true deep C1.H))⟩, C1.w⟩) rfl hI False (fun h => h.elim) nn hq hv
        have hcrl : ∀ {es : List AV} {us : List Value}, norefsL es = true → CRL C1 true true s es us → CRL ⟨C.F, updN C.μ site (C1.μ j), C.H.upd site ⟨(C.H site).gen + 1, false, .row s (es.map (fz true deep C1.H))⟩, C1.w⟩ true true s (es.map (fz true deep C1.H)) us → True := fun _ _ _ => trivial
        have hcr : ∀ {fs : List AV} {us : List Value}, norefsL fs = true → CRL C1 true true s fs us → CRL ⟨C.F, updN C.μ site (C1.μ j), C.H.upd site ⟨(C.H site).gen + 1, false, .row s (es.map (fz true deep C1.H))⟩, C1.w⟩ true true s (fs.map (fz true deep C1.H)) us := by
          intro fs
          induction fs with
          | nil => intro us _ h; simpa [CRL] using h
          | cons e fs ih =>
            intro us hnr h
            simp only [norefsL, Bool.and_eq_true] at hnr
            simp only [CRL] at h
            obtain ⟨⟨k0, k5, v, k1, k2, k3⟩, k4⟩ := h
            have := hfz deep (.inr hnr.1) k1
            simp only [List.map_cons, CRL]
            exact ⟨⟨this.2.trans k0, k5, v, VR.weak (by simp) (by simp) this.1, k2, k3⟩, ih hnr.2 k4⟩
        have hvt : ∀ {fs : List AV} {us : List Value}, norefsL fs = true → VRT C1 true true fs us → VRT ⟨C.F, updN C.μ site (C1.μ j), C.H.upd site ⟨(C.H site).gen + 1, false, .row s (es.map (fz true deep C1.H))⟩, C1.w⟩ true true (fs.map (fz true deep C1.H)) us := by
          intro fs
          induction fs with
          | nil => intro us _ h; simpa [VRT] using h
          | cons e fs ih =>
            intro us hnr h
            simp only [norefsL, Bool.and_eq_true] at hnr
            simp only [VRT] at h
            obtain ⟨v, vs', rfl, k1, k2⟩ := h
            simp only [List.map_cons, VRT]
            exact ⟨v, vs', rfl, VR.weak (by simp) (by simp) (hfz deep (.inr hnr.1) k1).1, ih hnr.2 k2⟩
        have hbr : BR ⟨C.F, updN C.μ site (C1.μ j), C.H.upd site ⟨(C.H site).gen + 1, false, .row s (es.map (fz true deep C1.H))⟩, C1.w⟩ site := by
          unfold BR
          simp only [upd_same, updN_same]
          by_cases hne : es = []
          · subst hne; simp
          · obtain ⟨hF, c, el, fz', hobj, hok⟩ := hR1.mem hst hne
            have hlen : (es.map (fz true deep C1.H)).length = es.length := by simp
            have hcells := hcr hn1 hok.cells
            generalize hq : es.map (fz true deep C1.H) = q at hcells hlen
            cases q with
            | nil => trivial
            | cons e q =>
              exact ⟨fun h => hF (hF1 _ (.inl h)), c, el, fz', hobj, hok.uf, by rw [hlen]; exact hok.le, by rw [hlen]; exact hcells⟩
        refine ⟨_, hE', hr hbr, fun v hv => ?_, fun vs hv => hvt hn2 hv⟩
        simp only [VR] at hv ⊢
        obtain ⟨_, _, ad, cap', rfl, hcap, hk'⟩ := hv
        obtain ⟨q1, q2, q3⟩ := hk' es hes1
        refine ⟨trivial, ⟨by simp [Heap.newRow], fun _ s2 es2 hs2 => ?_⟩, ad, cap', rfl, hcap, fun es2 _ => ⟨q1, q2, fun h1 h2 => ?_⟩⟩
        · simp [Heap.newRow] at hs2
          rw [← hs2.2]; simp; omega
        · obtain ⟨q4, e0, n0, q5, q6⟩ := q3 h1 h2
          exact ⟨by simp [q4], e0, n0, by simp [q5], q6⟩
      · simp at h
    · simp at h
  · split at h
    · rename_i hc
      obtain ⟨hn1, hn2⟩ := hc
      simp only [Option.some.injEq, Prod.mk.injEq] at h
      obtain ⟨rfl, rfl, rfl⟩ := h
      obtain ⟨hE', hR'⟩ := back hR hE
      refine ⟨C.μ, hE', hR', fun v hv => ?_, fun vs hv => ?_⟩
      · exact VR.weak (by simp) (by simp) (fz_ok true hR1 (D := { C with w := C1.w }) rfl (fun b h => ⟨rfl, hF1 b (.inr h)⟩) (fun b h => .inl (hF1 b (.inl h))) deep hv)
      · exact VRT.weak (by simp) (by simp) (fz_okT true hR1 (D := { C with w := C1.w }) rfl (fun b h => ⟨rfl, hF1 b (.inr h)⟩) (fun b h => .inl (hF1 b (.inl h))) deep hv)
    · simp at h

theorem acallM_ok (hcf : FunOk P cf) (hxf : ExtOk P xf) {m : Mode} (hR : Rel C) (hargs : VRT C true true args vs.toList) (h : acallM cf xf base m f args C.H = some (v, H', fp)) :
    HasBody P f ∧ Calls P f vs C.w (Done C v H') := by
  cases m with
  | pure =>
    simp only [acallM] at h
    cases e1 : cf f 0 (args.map (fz false deep C.H)) Heap.none with
    | none => simp [e1] at h
    | some p =>
      obtain ⟨u, Hc⟩ := p
      simp only [e1, Option.bind_eq_bind, Option.bind_some, Option.some.injEq, Prod.mk.injEq] at h
      obtain ⟨rfl, rfl, _⟩ := h
      obtain ⟨hb, hc⟩ := hcf (sub C) f 0 _ u Hc vs (sub_rel hR) e1 (VRT.weak (by simp) (by simp) (snap_args hR hargs))
      refine ⟨hb, hc.mono ?_⟩
      rintro e w' ⟨v', μ', rfl, hE, hR1, hv⟩
      obtain ⟨hE', hR'⟩ := back (C1 := ⟨(sub C).F, μ', Hc, w'⟩) hR hE
      refine ⟨v', C.μ, rfl, hE', hR', ?_⟩
      exact VR.weak (by simp) (by simp) (fz_ok true hR1 (D := { C with w := w' }) rfl (fun b h => ⟨rfl, .inr h⟩) (fun b h => .inl (.inl h)) deep hv)
  | fresh site =>
    simp only [acallM] at h
    cases e1 : cf f 0 (args.map (fz false deep C.H)) Heap.none with
    | none => simp [e1] at h
    | some p =>
      obtain ⟨u, Hc⟩ := p
      simp only [e1, Option.bind_eq_bind, Option.bind_some] at h
      obtain ⟨hb, hc⟩ := hcf (sub C) f 0 _ u Hc vs (sub_rel hR) e1 (VRT.weak (by simp) (by simp) (snap_args hR hargs))
      cases e2 : moveRes C.H Hc (base + site) u with
      | none => simp [e2] at h
      | some q =>
        obtain ⟨v2, H2⟩ := q
        simp only [e2, Option.bind_some, Option.some.injEq, Prod.mk.injEq] at h
        obtain ⟨rfl, rfl, _⟩ := h
        refine ⟨hb, hc.mono ?_⟩
        rintro e w' ⟨v', μ', rfl, hE, hR1, hv⟩
        unfold moveRes at e2
        split at e2
        · rename_i u0 r0
          split at e2
          · rename_i u1 r1 H3 e3
            simp only [Option.some.injEq, Prod.mk.injEq] at e2
            obtain ⟨rfl, rfl⟩ := e2
            obtain ⟨μ2, k1, k2, k3, k4⟩ := moveOut_ok (C1 := ⟨(sub C).F, μ', Hc, w'⟩) hR hE hR1 e3
            simp only [VR] at hv
            obtain ⟨us, rfl, hus⟩ := hv
            simp only [VRT] at hus
            obtain ⟨x, xs, hx, m1, m2⟩ := hus
            refine ⟨_, μ2, rfl, k1, k2, ?_⟩
            simp only [VR]
            refine ⟨us, rfl, ?_⟩
            simp only [VRT]
            exact ⟨x, xs, hx, k3 x m1, k4 xs m2⟩
          · simp at e2
        · simp at e2
        · split at e2
          · rename_i v3 r3 H3 e3
            simp only [Option.some.injEq, Prod.mk.injEq] at e2
            obtain ⟨rfl, rfl⟩ := e2
            obtain ⟨μ2, k1, k2, k3, _⟩ := moveOut_ok (C1 := ⟨(sub C).F, μ', Hc, w'⟩) hR hE hR1 e3
            exact ⟨v', μ2, rfl, k1, k2, k3 v' hv⟩
          · simp at e2
  | inl b =>
    simp only [acallM] at h
    cases e1 : cf f (base + b) args C.H with
    | none => simp [e1] at h
    | some p =>
      obtain ⟨u, Hc⟩ := p
      simp only [e1, Option.bind_eq_bind, Option.bind_some, Option.some.injEq, Prod.mk.injEq] at h
      obtain ⟨rfl, rfl, _⟩ := h
      exact hcf C f _ args u Hc vs hR e1 hargs
  | ext =>
    simp only [acallM] at h
    cases e1 : xf f (args.map (fz false deep C.H)) with
    | none => simp [e1] at h
    | some u =>
      simp only [e1, Option.bind_eq_bind, Option.bind_some, Option.some.injEq, Prod.mk.injEq] at h
      obtain ⟨rfl, rfl, _⟩ := h
      obtain ⟨hb, hc⟩ := hxf (sub C) f _ u vs (sub_rel hR) e1 (snap_args hR hargs)
      refine ⟨hb, hc.mono ?_⟩
      rintro e w' ⟨v', rfl, hE, hR1, hv⟩
      obtain ⟨hE', hR'⟩ := back (C1 := { (sub C) with w := w' }) hR hE
      refine ⟨v', C.μ, rfl, hE', hR', ?_⟩
      have hI : ∀ tt b, (tt = true → (false : Bool) = true) → IB { (sub C) with w := w' } tt b → IB { C with w := w' } tt b := by
        intro tt b ht ⟨a1, a2, a3⟩
        have htt : tt = false := by cases tt <;> simp_all
        subst htt
        exact ⟨a1, fun h => a3 rfl (.inr h), fun _ h => a3 rfl (.inl h)⟩
      exact VR.weak (by simp) (by simp) (VR.castI (C := { (sub C) with w := w' }) (D := { C with w := w' }) rfl hI hv)

end
end Go.AI
