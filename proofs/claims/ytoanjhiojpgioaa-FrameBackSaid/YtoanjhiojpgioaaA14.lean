/- Each operation looks at, and writes, what its footprint says. -/
import Derived.Test.YtoanjhiojpgioaaA13
set_option linter.unusedSimpArgs false
set_option linter.unusedVariables false
namespace Go.AI

section
variable {cf : CallF} {xf : ExtF} {base : Nat} {T : Tmps} {H H' : Heap} {v : AV} {fp : FP}

theorem local_const {x : Option AV} (h : x.bind (rv · H) = some (v, H', fp)) : LocalAt (fun H => x.bind (rv · H)) H v H' fp := by
  cases x with
  | none => simp at h
  | some u =>
    simp only [Option.bind_some, rv, Option.some.injEq, Prod.mk.injEq] at h
    obtain ⟨rfl, rfl, rfl⟩ := h
    exact local_rv rfl rfl fun H2 _ => rfl

theorem elemsOf_local {s : Nat} {x : AV} {es : List AV} {js : List Nat} (h : elemsOf H s x = some (es, js)) {H2 : Heap} (ha : ∀ j ∈ js, H2 j = H j) : elemsOf H2 s x = some (es, js) := by
  unfold elemsOf at h ⊢
  split at h
  · exact h
  · rename_i j g ver s' off len cap
    split at h
    · rename_i es0 hes
      split at h
      · rename_i hc
        simp at h
        obtain ⟨rfl, rfl⟩ := h
        simp only [row_agree (ha j (by simp)), hes, if_pos hc]
      · simp at h
    · simp at h
  · exact h
  · simp at h

theorem appendTo_local {site s : Nat} {x : AV} {ys : List AV} (h : appendTo H site s x ys = some (v, H', fp)) : fp.top = false ∧ LocalAt (fun H => appendTo H site s x ys) H v H' fp := by
  unfold appendTo at h
  split at h
  · rename_i tt full s' es
    split at h
    · rename_i hn
      simp only [rv, Option.some.injEq, Prod.mk.injEq, FP.z] at h
      obtain ⟨rfl, rfl, rfl⟩ := h
      exact ⟨rfl, local_rv rfl rfl fun H2 _ => by simp [appendTo, hn, FP.z]⟩
    · rename_i hn
      split at h
      · rename_i hc
        simp only [Option.some.injEq, Prod.mk.injEq] at h
        obtain ⟨rfl, rfl, rfl⟩ := h
        refine ⟨rfl, ⟨fun j hj => ?_, fun H2 ha => ⟨H2.newRow site s ys, ?_, fun j hj => ?_, fun j hj => ?_⟩⟩⟩
        · simp at hj; simp [Heap.newRow, upd_ne _ _ hj]
        · simp [appendTo, hn, hc, ha site (.inr (by simp))]
        · simp at hj; subst hj; simp [Heap.newRow, ha j (.inr (by simp))]
        · simp at hj; simp [Heap.newRow, upd_ne _ _ hj]
      · simp at h
  · rename_i j g ver s' off len cap
    split at h
    · rename_i hn
      simp only [rv, Option.some.injEq, Prod.mk.injEq, FP.z] at h
      obtain ⟨rfl, rfl, rfl⟩ := h
      exact ⟨rfl, local_rv rfl rfl fun H2 _ => by simp [appendTo, hn, FP.z]⟩
    · rename_i hn
      split at h
      · simp at h
      · rename_i es hes
        split at h
        · rename_i hc
          split at h
          · rename_i hin
            simp only [Option.some.injEq, Prod.mk.injEq] at h
            obtain ⟨rfl, rfl, rfl⟩ := h
            refine ⟨rfl, ⟨fun i hi => ?_, fun H2 ha => ⟨H2.setRow j s (es.take (off + len) ++ ys ++ es.drop (off + len + ys.length)), ?_, fun i hi => ?_, fun i hi => ?_⟩⟩⟩
            · simp at hi; simp [Heap.setRow, upd_ne _ _ hi]
            · simp only [appendTo, if_neg hn, rowW_agree (ha j (.inl (by simp))), hes, if_pos hc, if_pos hin]
            · simp at hi; subst hi; simp [Heap.setRow, ha i (.inl (by simp))]
            · simp at hi; simp [Heap.setRow, upd_ne _ _ hi]
          · rename_i hin
            split at h
            · split at h
              · rename_i hc2
                simp only [Option.some.injEq, Prod.mk.injEq] at h
                obtain ⟨rfl, rfl, rfl⟩ := h
                refine ⟨rfl, ⟨fun i hi => ?_, fun H2 ha => ⟨H2.setRow j s (es ++ ys), ?_, fun i hi => ?_, fun i hi => ?_⟩⟩⟩
                · simp at hi; simp [Heap.setRow, upd_ne _ _ hi]
                · simp only [appendTo, if_neg hn, rowW_agree (ha j (.inl (by simp))), hes, if_pos hc, if_neg hin, if_pos hc2]
                · simp at hi; subst hi; simp [Heap.setRow, ha i (.inl (by simp))]
                · simp at hi; simp [Heap.setRow, upd_ne _ _ hi]
              · simp at h
            · split at h
              · rename_i hc2
                simp only [Option.some.injEq, Prod.mk.injEq] at h
                obtain ⟨rfl, rfl, rfl⟩ := h
                refine ⟨rfl, ⟨fun i hi => ?_, fun H2 ha => ⟨H2.newRow site s ((es.drop off).take len ++ ys), ?_, fun i hi => ?_, fun i hi => ?_⟩⟩⟩
                · simp at hi; simp [Heap.newRow, upd_ne _ _ hi]
                · simp only [appendTo, if_neg hn, rowW_agree (ha j (.inl (by simp))), hes, if_pos hc, if_neg hin, if_pos hc2, ha site (.inr (by simp))]
                · simp at hi; subst hi; simp [Heap.newRow, ha i (.inr (by simp))]
                · simp at hi; simp [Heap.newRow, upd_ne _ _ hi]
              · simp at h
        · simp at h
  · simp at h

theorem moveOut_local {Hc : Heap} {site : Nat} {u u' : AV} {r r' : List AV} (h : moveOut H Hc site u r = some (u', r', H')) :
    (∀ j, j ≠ site → H' j = H j) ∧ ∀ H2 : Heap, H2 site = H site → ∃ H2', moveOut H2 Hc site u r = some (u', r', H2') ∧ H2' site = H' site ∧ (∀ j, j ≠ site → H2' j = H2 j) := by
  unfold moveOut at h
  split at h
  · rename_i j g ver s off len cap
    split at h
    · rename_i es hes
      split at h
      · rename_i hc
        simp only [Option.some.injEq, Prod.mk.injEq] at h
        obtain ⟨rfl, rfl, rfl⟩ := h
        refine ⟨fun i hi => by simp [Heap.newRow, upd_ne _ _ hi], fun H2 ha => ⟨H2.newRow site s (es.map (fz true deep Hc)), ?_, by simp [Heap.newRow, ha], fun i hi => by simp [Heap.newRow, upd_ne _ _ hi]⟩⟩
        simp [moveOut, hes, hc, ha]
      · simp at h
    · simp at h
  · rename_i hx
    split at h
    · rename_i hc
      simp only [Option.some.injEq, Prod.mk.injEq] at h
      obtain ⟨rfl, rfl, rfl⟩ := h
      refine ⟨fun i hi => rfl, fun H2 ha => ⟨H2, ?_, ha, fun i hi => rfl⟩⟩
      unfold moveOut
      split
      · exact absurd rfl (hx _ _ _ _ _ _ _)
      · rw [if_pos hc]
    · simp at h

theorem moveRes_local {Hc : Heap} {site : Nat} {u u' : AV} (h : moveRes H Hc site u = some (u', H')) :
    (∀ j, j ≠ site → H' j = H j) ∧ ∀ H2 : Heap, H2 site = H site → ∃ H2', moveRes H2 Hc site u = some (u', H2') ∧ H2' site = H' site ∧ (∀ j, j ≠ site → H2' j = H2 j) := by
  unfold moveRes at h
  split at h
  · rename_i u0 r0
    split at h
    · rename_i u1 r1 H3 e3
      simp only [Option.some.injEq, Prod.mk.injEq] at h
      obtain ⟨rfl, rfl⟩ := h
      obtain ⟨k1, k2⟩ := moveOut_local e3
      refine ⟨k1, fun H2 ha => ?_⟩
      obtain ⟨H2', m1, m2, m3⟩ := k2 H2 ha
      exact ⟨H2', by simp [moveRes, m1], m2, m3⟩
    · simp at h
  · simp at h
  · rename_i h1 h2
    split at h
    · rename_i v3 r3 H3 e3
      simp only [Option.some.injEq, Prod.mk.injEq] at h
      obtain ⟨rfl, rfl⟩ := h
      obtain ⟨k1, k2⟩ := moveOut_local e3
      refine ⟨k1, fun H2 ha => ?_⟩
      obtain ⟨H2', m1, m2, m3⟩ := k2 H2 ha
      refine ⟨H2', ?_, m2, m3⟩
      unfold moveRes
      split
      · exact absurd rfl (h1 _ _)
      · exact absurd rfl h2
      · rw [m1]
    · simp at h

theorem acallM_local {m : Mode} {f : Nat} {args : List AV} (h : acallM cf xf base m f args H = some (v, H', fp)) (ht : fp.top = false) : LocalAt (fun H => acallM cf xf base m f args H) H v H' fp := by
  cases m with
  | pure =>
    simp only [acallM] at h
    cases e1 : cf f 0 (args.map (fz false deep H)) Heap.none with
    | none => simp [e1] at h
    | some p =>
      simp only [e1, Option.bind_eq_bind, Option.bind_some, Option.some.injEq, Prod.mk.injEq] at h
      obtain ⟨rfl, rfl, rfl⟩ := h
      refine local_rv rfl rfl fun H2 ha => ?_
      have := vis_fzL false deep args (fun j hj => ha j (.inl hj))
      simp only [acallM, this.1, this.2, e1, Option.bind_eq_bind, Option.bind_some]
  | fresh site =>
    simp only [acallM] at h
    cases e1 : cf f 0 (args.map (fz false deep H)) Heap.none with
    | none => simp [e1] at h
    | some p =>
      simp only [e1, Option.bind_eq_bind, Option.bind_some] at h
      cases e2 : moveRes H p.2 (base + site) p.1 with
      | none => simp [e2] at h
      | some q =>
        simp only [e2, Option.bind_some, Option.some.injEq, Prod.mk.injEq] at h
        obtain ⟨rfl, rfl, rfl⟩ := h
        obtain ⟨k1, k2⟩ := moveRes_local e2
        refine ⟨fun j hj => k1 j (by simpa using hj), fun H2 ha => ?_⟩
        have := vis_fzL false deep args (fun j hj => ha j (.inl hj))
        obtain ⟨H2', m1, m2, m3⟩ := k2 H2 (ha _ (.inr (by simp)))
        refine ⟨H2', ?_, fun j hj => ?_, fun j hj => m3 j (by simpa using hj)⟩
        · simp only [acallM, this.1, this.2, e1, Option.bind_eq_bind, Option.bind_some, m1]
        · simp at hj; subst hj; exact m2
  | inl b =>
    simp only [acallM] at h
    cases e1 : cf f (base + b) args H with
    | none => simp [e1] at h
    | some p =>
      simp only [e1, Option.bind_eq_bind, Option.bind_some, Option.some.injEq, Prod.mk.injEq] at h
      obtain ⟨_, _, rfl⟩ := h
      simp at ht
  | ext =>
    simp only [acallM] at h
    cases e1 : xf f (args.map (fz false deep H)) with
    | none => simp [e1] at h
    | some p =>
      simp only [e1, Option.bind_eq_bind, Option.bind_some, Option.some.injEq, Prod.mk.injEq] at h
      obtain ⟨rfl, rfl, rfl⟩ := h
      refine local_rv rfl rfl fun H2 ha => ?_
      have := vis_fzL false deep args (fun j hj => ha j (.inl hj))
      simp only [acallM, this.1, this.2, e1, Option.bind_eq_bind, Option.bind_some]

theorem newRow_local {f : Heap → R} {k s : Nat} {es : List AV} {w : Nat → AV} (hf : ∀ H2 : Heap, f H2 = some (w ((H2 k).gen + 1), H2.newRow k s es, ⟨[], [k], false⟩)) (h : f H = some (v, H', fp)) : LocalAt f H v H' fp := by
  rw [hf] at h
  simp only [Option.some.injEq, Prod.mk.injEq] at h
  obtain ⟨rfl, rfl, rfl⟩ := h
  refine ⟨fun j hj => ?_, fun H2 ha => ⟨H2.newRow k s es, ?_, fun j hj => ?_, fun j hj => ?_⟩⟩
  · simp at hj; simp [Heap.newRow, upd_ne _ _ hj]
  · rw [hf, ha k (.inr (by simp))]
  · simp at hj; subst hj; simp [Heap.newRow, ha j (.inr (by simp))]
  · simp at hj; simp [Heap.newRow, upd_ne _ _ hj]

theorem setRow_local {f : Heap → R} {k s : Nat} {es : List AV} {rd : List Nat} (hf : ∀ H2 : Heap, agree ⟨rd, [k], false⟩ H H2 → f H2 = some (v, H2.setRow k s es, ⟨rd, [k], false⟩)) (h : f H = some (v, H', fp)) : LocalAt f H v H' fp := by
  rw [hf H (fun _ _ => rfl)] at h
  simp only [Option.some.injEq, Prod.mk.injEq] at h
  obtain ⟨_, rfl, rfl⟩ := h
  refine ⟨fun j hj => ?_, fun H2 ha => ⟨H2.setRow k s es, hf H2 ha, fun j hj => ?_, fun j hj => ?_⟩⟩
  · simp at hj; simp [Heap.setRow, upd_ne _ _ hj]
  · simp at hj; subst hj; simp [Heap.setRow, ha j (.inr (by simp))]
  · simp at hj; simp [Heap.setRow, upd_ne _ _ hj]

/-- An operation that the checks of A4 can lay. -/
def laid : SOp → Bool
  | .copy .. | .clear .. | .eqagg .. | .mkmap .. | .lookup .. | .mapset .. | .mapdel .. | .maplen .. => false
  | _ => true

def quiet : SOp → Bool
  | .mv .. | .pick .. | .build .. | .empty .. | .nilc .. | .bin .. | .eqnil .. | .eqb .. | .un .. | .cvi .. | .mkfn .. | .slcStr .. | .slcArr .. | .faddr .. | .field .. | .iaddrA .. | .indexS .. | .indexA .. | .extract .. | .len .. | .lenS .. | .cap .. | .mnmx .. => true
  | _ => false

theorem rv_map (v : AV) (H0 H : Heap) : rv v H = ((rv v H0).map (·.1)).bind (rv · H) := rfl
theorem none_map (H : Heap) : (none : R) = (((none : R)).map (·.1)).bind (rv · H) := rfl

theorem pure_op {op : SOp} (hq : quiet op = true) : aop cf xf base T H op = ((aop cf xf base T Heap.none op).map (·.1)).bind (rv · H) := by
  cases op
  case build z ps =>
    simp only [aop]
    cases fillCells z (ps.map fun (o, k, x) => (o, k, SArg.ev T x)) <;> rfl
  case bin op x y =>
    simp only [aop]
    cases abin op (x.ev T) (y.ev T) <;> rfl
  case eqnil neg x =>
    simp only [aop]
    cases nilOf (x.ev T) <;> rfl
  case un op x =>
    simp only [aop]
    cases aun op (x.ev T) <;> rfl
  case slcStr x lo hi =>
    simp only [aop]
    cases optNat T lo with
    | none => rfl
    | some l => cases optNat T hi with
      | none => rfl
      | some hh =>
        simp only [Option.bind_eq_bind, Option.bind_some]
        (repeat' split) <;> first | rfl | (simp_all; done)
  case iaddrA n s x i =>
    simp only [aop]
    cases natOf (i.ev T) with
    | none => rfl
    | some l =>
      simp only [Option.bind_eq_bind, Option.bind_some]
      (repeat' split) <;> first | rfl | (simp_all; done)
  case indexS x i =>
    simp only [aop]
    cases natOf (i.ev T) with
    | none => rfl
    | some l =>
      simp only [Option.bind_eq_bind, Option.bind_some]
      (repeat' split) <;> first | rfl | (simp_all; done)
  case indexA n s b x i =>
    simp only [aop]
    cases natOf (i.ev T) with
    | none => rfl
    | some l =>
      simp only [Option.bind_eq_bind, Option.bind_some]
      (repeat' split) <;> first | rfl | (simp_all; done)
  all_goals first
    | (simp [quiet] at hq; done)
    | (simp only [aop]; rfl)
    | (simp only [aop]; (repeat' split) <;> first | rfl | (simp_all; done))

theorem quiet_local {op : SOp} (hq : quiet op = true) (h : aop cf xf base T H op = some (v, H', fp)) : LocalAt (fun H => aop cf xf base T H op) H v H' fp := by
  have hf : (fun H => aop cf xf base T H op) = fun H => ((aop cf xf base T Heap.none op).map (·.1)).bind (rv · H) := funext fun H => pure_op hq
  rw [hf]
  rw [pure_op hq] at h
  exact local_const h

theorem aop_local {op : SOp} (hl : laid op = true) (h : aop cf xf base T H op = some (v, H', fp)) (ht : fp.top = false) : LocalAt (fun H => aop cf xf base T H op) H v H' fp := by
  cases op
  case copy => simp [laid] at hl
  case clear => simp [laid] at hl
  case eqagg => simp [laid] at hl
  case mkmap => simp [laid] at hl
  case lookup => simp [laid] at hl
  case mapset => simp [laid] at hl
  case mapdel => simp [laid] at hl
  case maplen => simp [laid] at hl
  case call m f args => simp only [aop] at h ⊢; exact acallM_local h ht
  case callv m x args =>
    simp only [aop] at h ⊢
    split at h
    · rename_i f caps hq
      exact acallM_local h ht
    · simp at h
  case box site x =>
    simp only [aop] at h ⊢
    split at h
    · simp at h
    · rename_i hc
      simp only [if_neg hc]
      refine newRow_local (w := fun g => .ptr (base + site) g 1 (x.ev T).cells.length 0 0) (fun H2 => rfl) h
  case nilrow site s =>
    simp only [aop] at h ⊢
    exact newRow_local (w := fun g => .slc (base + site) g 0 s 0 0 .none) (fun H2 => rfl) h
  case buildS site s n z ps =>
    simp only [aop] at h ⊢
    split at h
    · simp at h
    · rename_i hc
      simp only [if_neg hc]
      split at h
      · simp at h
      · rename_i es hes
        exact newRow_local (w := fun g => .slc (base + site) g n s 0 n .none) (fun H2 => rfl) h
  case s2b site x =>
    simp only [aop] at h ⊢
    split at h
    · rename_i b hq
      split at h
      · rename_i hc
        simp only [if_pos hc]
        exact newRow_local (w := fun g => .slc (base + site) g b.size 1 0 b.size .none) (fun H2 => rfl) h
      · simp at h
    · simp at h
  case mks site s z l c =>
    simp only [aop] at h ⊢
    cases e1 : natOf (l.ev T) with
    | none => simp [e1] at h
    | some l0 =>
    cases e2 : natOf (c.ev T) with
    | none => simp [e1, e2] at h
    | some c0 =>
    simp only [e1, e2, Option.bind_eq_bind, Option.bind_some] at h ⊢
    split at h
    · rename_i hc
      simp only [if_pos hc]
      exact newRow_local (w := fun g => .slc (base + site) g c0 s 0 l0 .none) (fun H2 => rfl) h
    · simp at h
  case load k agg x =>
    simp only [aop] at h ⊢
    split at h
    · rename_i j g ver s i off hq
      split at h
      · rename_i es hes
        split at h
        · rename_i e he
          split at h
          · rename_i hc
            simp only [Option.some.injEq, Prod.mk.injEq] at h
            obtain ⟨rfl, rfl, rfl⟩ := h
            refine local_rv rfl rfl fun H2 ha => ?_
            simp only [row_agree (ha j (.inl (by simp))), hes, he, if_pos hc]
          · simp at h
        · simp at h
      · simp at h
    · rename_i tt cs hq
      split at h
      · rename_i hc
        simp only [rv, Option.some.injEq, Prod.mk.injEq] at h
        obtain ⟨rfl, rfl, rfl⟩ := h
        exact local_rv rfl rfl fun H2 ha => by simp only [if_pos hc, rv]
      · simp at h
    · simp at h
  case store k x y =>
    simp only [aop] at h ⊢
    split at h
    · rename_i j g ver s i off hq
      split at h
      · rename_i es hes
        split at h
        · rename_i e he
          split at h
          · rename_i hc
            have h0 := h
            simp only [Option.some.injEq, Prod.mk.injEq] at h0
            obtain ⟨rfl, _, _⟩ := h0
            refine setRow_local (rd := [j]) (k := j) (s := s) (es := es.set i (e.rewrap (e.cells.take off ++ (y.ev T).cells ++ e.cells.drop (off + k)))) (fun H2 ha => ?_) (by simp only [hes, he, if_pos hc]; exact h)
            simp only [rowW_agree (ha j (.inl (by simp))), hes, he, if_pos hc]
          · simp at h
        · simp at h
      · simp at h
    · simp at h
  case app site s x y =>
    simp only [aop, aappend] at h ⊢
    cases e1 : elemsOf H s (y.ev T) with
    | none => simp [e1] at h
    | some p =>
      obtain ⟨ys, js⟩ := p
      simp only [e1, Option.bind_eq_bind, Option.bind_some, absorb] at h
      split at h
      · rename_i hn
        simp only [Option.bind_some] at h
        cases e2 : appendTo H (base + site) s (x.ev T) ys with
        | none => simp [e2] at h
        | some q =>
          obtain ⟨v2, H2, f2⟩ := q
          simp only [e2, Option.bind_some, Option.some.injEq, Prod.mk.injEq] at h
          obtain ⟨rfl, rfl, rfl⟩ := h
          obtain ⟨_, k1, k2⟩ := appendTo_local e2
          refine ⟨fun j hj => k1 j (by simpa using hj), fun G ha => ?_⟩
          obtain ⟨G', m1, m2, m3⟩ := k2 G (fun j hj => ha j (by rcases hj with hj | hj <;> simp [hj]))
          refine ⟨G', ?_, fun j hj => m2 j (by simpa using hj), fun j hj => m3 j (by simpa using hj)⟩
          have e1' := elemsOf_local e1 (H2 := G) (fun j hj => ha j (.inl (by simp [hj])))
          simp only [e1', Option.bind_eq_bind, Option.bind_some, absorb, if_pos hn, m1]
      · simp at h
  case appZ site s z x y =>
    simp only [aop] at h ⊢
    cases e1 : natOf (y.ev T) with
    | none => simp [e1] at h
    | some m =>
      simp only [e1, Option.bind_eq_bind, Option.bind_some] at h ⊢
      split at h
      · rename_i hc
        simp only [if_pos hc]
        exact (appendTo_local h).2
      · simp at h
  case b2s x =>
    simp only [aop] at h ⊢
    split at h
    · simp at h
    · rename_i hn
      cases e1 : elemsOf H 1 (x.ev T) with
      | none => simp [e1] at h
      | some p =>
        obtain ⟨ys, js⟩ := p
        simp only [e1, Option.bind_eq_bind, Option.bind_some] at h
        cases e2 : bytesOf ys with
        | none => simp [e2] at h
        | some bs =>
          simp only [e2, Option.bind_some, Option.some.injEq, Prod.mk.injEq] at h
          obtain ⟨rfl, rfl, rfl⟩ := h
          refine local_rv rfl rfl fun G ha => ?_
          have e1' := elemsOf_local e1 (H2 := G) (fun j hj => ha j (.inl hj))
          simp [if_neg hn, e1', e2]
  case slice s x lo hi mx =>
    simp only [aop] at h ⊢
    cases e1 : optNat T lo with
    | none => simp [e1] at h
    | some l =>
    cases e2 : optNat T hi with
    | none => simp [e1, e2] at h
    | some hh =>
    cases e3 : optNat T mx with
    | none => simp [e1, e2, e3] at h
    | some m =>
    simp only [e1, e2, e3, Option.bind_eq_bind, Option.bind_some, aslice] at h ⊢
    split at h
    · rename_i tt full s' es hq
      split at h
      · simp at h
      · rename_i hc
        split at h
        · rename_i hc2
          simp only [Option.some.injEq, Prod.mk.injEq] at h
          obtain ⟨rfl, rfl, rfl⟩ := h
          refine local_rv rfl rfl fun G ha => ?_
          simp only [if_neg hc, if_pos hc2]
        · simp at h
    · rename_i j g ver s' off len cap hq
      split at h
      · simp at h
      · rename_i hc
        split at h
        · simp at h
        · rename_i es hes
          split at h
          · rename_i hc2
            simp only [Option.some.injEq, Prod.mk.injEq] at h
            obtain ⟨rfl, rfl, rfl⟩ := h
            refine local_rv rfl rfl fun G ha => ?_
            simp only [if_neg hc, row_agree (ha j (.inl (by simp))), hes, if_pos hc2]
          · simp at h
    · simp at h
  case iaddr s x i =>
    simp only [aop] at h ⊢
    cases e1 : natOf (i.ev T) with
    | none => simp [e1] at h
    | some i0 =>
      simp only [e1, Option.bind_eq_bind, Option.bind_some] at h ⊢
      split at h
      · rename_i j g ver s' off len cap hq
        cases hes : H.row j g ver s' with
        | none => simp [hes] at h
        | some es =>
          simp only [hes, Option.bind_some] at h
          split at h
          · rename_i hc
            simp only [Option.some.injEq, Prod.mk.injEq] at h
            obtain ⟨rfl, rfl, rfl⟩ := h
            refine local_rv rfl rfl fun G ha => ?_
            simp only [row_agree (ha j (.inl (by simp))), hes, Option.bind_some, if_pos hc]
          · simp at h
      · rename_i tt f s' es hq
        split at h
        · simp at h
        · rename_i hc
          split at h
          · rename_i e he
            simp only [rv, Option.some.injEq, Prod.mk.injEq] at h
            obtain ⟨rfl, rfl, rfl⟩ := h
            exact local_rv rfl rfl fun G ha => by simp only [if_neg hc, he, rv]
          · simp at h
      · simp at h
  case ss x =>
    simp only [aop] at h ⊢
    split at h
    · rename_i j g ver s off len cap hq
      split at h
      · rename_i es hes
        split at h
        · rename_i hc
          simp only [Option.some.injEq, Prod.mk.injEq] at h
          obtain ⟨rfl, rfl, rfl⟩ := h
          refine setRow_local (k := j) (s := s) (es := es) (rd := [j]) (fun G ha => ?_) (by simp only [hes, if_pos hc])
          simp only [rowW_agree (ha j (.inl (by simp))), hes, if_pos hc]
        · simp at h
      · simp at h
    · simp at h
  all_goals exact quiet_local rfl h
end
end Go.AI
