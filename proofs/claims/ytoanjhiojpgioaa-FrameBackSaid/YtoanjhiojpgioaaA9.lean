/- Each operation of the interpreter is the model's. Part 5: structs and rows out of parts; stores. -/
import Derived.Test.YtoanjhiojpgioaaA8
import Derived.Great.BuildSlice
namespace Go.AI

theorem splice_take {α : Type} (l u : List α) (A s off k N : Nat) (hu : u.length = k) (h1 : off + k ≤ s) (h2 : A + s ≤ N) (h3 : N ≤ l.length) :
    (l.take (A + off) ++ u ++ l.drop (A + off + k)).take N = (l.take N).take A ++ ((((l.take N).drop A).take s).take off ++ u ++ (((l.take N).drop A).take s).drop (off + k)) ++ (l.take N).drop (A + s) := by
  apply List.ext_getElem?
  intro m
  simp only [List.getElem?_take, List.getElem?_append, List.getElem?_drop, List.length_append, List.length_take, List.length_drop, hu]
  have x1 : min (A + off) l.length = A + off := by omega
  have x2 : min A (min N l.length) = A := by omega
  have x3 : min off (min s (min N l.length - A)) = off := by omega
  have x4 : min s (min N l.length - A) - (off + k) = s - (off + k) := by omega
  simp only [x1, x2, x3, x4]
  by_cases c1 : m < A
  · simp only [show m < N by omega, show m < A + off + k by omega, show m < A + off by omega, c1, if_true, show m < A + (off + k + (s - (off + k))) by omega]
  by_cases c2 : m < A + off
  · simp only [show m < N by omega, show m < A + off + k by omega, c2, c1, if_true, if_false, show m < A + (off + k + (s - (off + k))) by omega, show m - A < off + k by omega, show m - A < off by omega, show m - A < s by omega, show A + (m - A) = m by omega]
  by_cases c3 : m < A + off + k
  · simp only [show m < N by omega, c3, c2, c1, if_true, if_false, show m < A + (off + k + (s - (off + k))) by omega, show m - A < off + k by omega, show ¬ m - A < off by omega, show m - (A + off) = m - A - off by omega]
  by_cases c4 : m < A + s
  · simp only [show m < N by omega, c3, c2, c1, if_true, if_false, show m < A + (off + k + (s - (off + k))) by omega, show ¬ m - A < off + k by omega, show off + k + (m - A - (off + k)) < s by omega, show A + off + k + (m - (A + off + k)) = m by omega, show A + (off + k + (m - A - (off + k))) = m by omega]
  by_cases c5 : m < N
  · simp only [c5, c3, c2, c1, if_true, if_false, show ¬ m < A + (off + k + (s - (off + k))) by omega, show A + off + k + (m - (A + off + k)) = m by omega, show A + s + (m - (A + (off + k + (s - (off + k))))) = m by omega]
  · simp only [c5, c3, c2, c1, if_false, show ¬ m < A + (off + k + (s - (off + k))) by omega, show A + s + (m - (A + (off + k + (s - (off + k))))) = m by omega]

theorem fold_set (off : Nat) : ∀ (l : List Value) (k : Nat) (cs : Array Value), off + k + l.length ≤ cs.size →
    ((l.zipIdx k).foldl (fun cs (x : Value × Nat) => cs.setIfInBounds (off + x.2) x.1) cs).toList = cs.toList.take (off + k) ++ l ++ cs.toList.drop (off + k + l.length)
  | [], k, cs, h => by simp
  | v :: l, k, cs, h => by
    simp only [List.length_cons] at h
    simp only [List.zipIdx_cons, List.foldl_cons]
    rw [fold_set off l (k + 1) _ (by simp; omega)]
    have := list_set_mid cs.toList l (off + k) v (by simp; omega)
    simp only [Array.toList_setIfInBounds, List.length_cons]
    rw [show off + (k + 1) = off + k + 1 by omega, this]

theorem fold_setA (vs cs : Array Value) (off : Nat) (h : off + vs.size ≤ cs.size) :
    (vs.zipIdx.foldl (fun cs (x : Value × Nat) => cs.setIfInBounds (off + x.2) x.1) cs).toList = cs.toList.take off ++ vs.toList ++ cs.toList.drop (off + vs.size) := by
  rw [← Array.foldl_toList, Array.toList_zipIdx]
  have := fold_set off vs.toList 0 cs (by simpa using h)
  simpa using this

section ops
variable {P : Program} {o : Oper} {a : Act} {C : Ctx} {n : Nat} {T : Tmps} {cf : CallF} {xf : ExtF} {base : Nat} {v : AV} {H' : Heap} {fp : FP}

theorem fillCells_ok {r t : Bool} {places : List (Nat × Nat)} (hT : TR C n T a.tmps) (hrt : r = true ∧ t = true) : ∀ {parts : List (Nat × Operand)} {sp : List (Nat × Nat × SArg)} {z cs : List AV} {zs : Array Value}, sparts places parts = some sp →
    VRL C r t z zs.toList → fillCells z (sp.map fun (o, k, x) => (o, k, x.ev T)) = some cs →
    ∃ cells, Instr.fill (fun i => places[i]?) zs (parts.map fun (i, x) => (i, a.eval x)) = some cells ∧ VRL C r t cs cells.toList
  | [], sp, z, cs, zs, h1, h2, h3 => by
    simp [sparts] at h1; subst h1
    simp [fillCells] at h3; subst h3
    exact ⟨zs, by simp [Instr.fill], h2⟩
  | (i, x) :: parts, sp, z, cs, zs, h1, h2, h3 => by
    obtain ⟨rfl, rfl⟩ := hrt
    simp only [sparts] at h1
    split at h1
    · rename_i o k s l e1 e2 e3
      simp at h1; subst h1
      simp only [List.map_cons, fillCells] at h3
      split at h3
      · rename_i hc
        obtain ⟨c1, c2, c3⟩ := hc
        have hv := VR_arg hT e2
        have hcs := storable_cells c1 hv
        have hl := VRL.length hcs
        have hl2 := VRL.length h2
        have hsz : (a.eval x).cells.size = k := by simpa [c2] using hl
        have hzs : zs.size = z.length := by simpa using hl2
        have hnew : VRL C true true (z.take o ++ (s.ev T).cells ++ z.drop (o + k)) (zs.toList.take o ++ (a.eval x).cells.toList ++ zs.toList.drop (o + k)) :=
          ((h2.take o).append hcs).append (h2.drop (o + k))
        have hf := fold_setA (a.eval x).cells zs o (by omega)
        rw [hsz] at hf
        rw [← hf] at hnew
        obtain ⟨cells, k1, k2⟩ := fillCells_ok hT ⟨rfl, rfl⟩ e3 hnew h3
        refine ⟨cells, ?_, k2⟩
        simp only [List.map_cons, Instr.fill, e1]
        rw [if_neg (by simp [hsz]; omega)]
        exact k1
      · simp at h3
    · simp at h1

theorem zeroOf_some {t : TypeId} {z : AV} (h : zeroOf? P t = some z) : ∃ i z', P.info? t = some i ∧ i.zero = some z' ∧ cvt z' = some z := by
  unfold zeroOf? at h
  cases hi : P.info? t with
  | none => simp [hi] at h
  | some i =>
    cases hzz : i.zero with
    | none => simp [hi, hzz] at h
    | some z' =>
      simp [hi, hzz] at h
      exact ⟨i, z', rfl, hzz, h⟩

theorem cvt_agg {v : Value} {z : List AV} (h : cvt v = some (.agg z)) : ∃ cs, v = .agg cs ∧ cvtL cs.toList = some z := by
  unfold cvt at h
  split at h
  · rename_i cs
    simp only [Option.map_eq_some_iff] at h
    obtain ⟨l, h1, h2⟩ := h
    cases h2
    exact ⟨cs, rfl, h1⟩
  · split at h <;> simp at h
  · unfold cvtAtom at h
    split at h <;> simp at h

theorem ok_build {t : TypeId} {parts : Array (Nat × Operand)} {sp : List (Nat × Nat × SArg)} {z : List AV} {places : List (Nat × Nat)} (ho : o.op = .build t parts) (hz : zeroOf? P t = some (.agg z)) (hp : placesOf P t = some places)
    (hsp : sparts places parts.toList = some sp) (hR : Rel C) (hT : TR C n T a.tmps)
    (h : aop cf xf base T C.H (.build z sp) = some (v, H', fp)) : StepOk P o a C v H' := by
  obtain ⟨i, z', h1, h2, h3⟩ := zeroOf_some hz
  obtain ⟨cs, rfl, h4⟩ := cvt_agg h3
  simp only [aop] at h
  cases hf : fillCells z (sp.map fun (o, k, x) => (o, k, x.ev T)) with
  | none => simp [hf] at h
  | some fs =>
    simp only [hf, Option.bind_eq_bind, Option.bind_some] at h
    obtain ⟨rfl, rfl⟩ := rv_some h
    obtain ⟨cells, k1, k2⟩ := fillCells_ok (a := a) hT ⟨rfl, rfl⟩ hsp (VRL_cvtL h4) hf
    unfold placesOf at hp
    split at hp
    · rename_i fields hu
      have hb : P.built t (parts.map fun (i, x) => (i, a.eval x)).toList = some cells := by
        unfold Program.built
        simp only [h1, hu, h2, hp, Value.cells]
        simpa using k1
      refine stepOk_val hR (v' := .agg cells) ?_ (by simp only [VR]; exact ⟨cells, rfl, k2⟩)
      simp only [execOp, ho, Sem.run_bind, run_build C.w t _ cells hb, Result.andThen_ok]
      rfl
    · simp at hp

theorem ok_buildA {t e : TypeId} {m : Nat} {parts : Array (Nat × Operand)} {z : List AV} (ho : o.op = .build t parts) (hz : zeroOf? P t = some (.agg z)) (hu : P.underlying t = some (.array m e)) (hp : parts.size = 0) (hi : (P.info? e).isSome = true)
    (hR : Rel C) (h : aop cf xf base T C.H (.build z []) = some (v, H', fp)) : StepOk P o a C v H' := by
  obtain ⟨i, z', h1, h2, h3⟩ := zeroOf_some hz
  obtain ⟨cs, rfl, h4⟩ := cvt_agg h3
  obtain ⟨ie, hie⟩ := Option.isSome_iff_exists.1 hi
  simp only [aop, List.map_nil, fillCells, Option.bind_eq_bind, Option.bind_some] at h
  obtain ⟨rfl, rfl⟩ := rv_some h
  have : parts = #[] := Array.eq_empty_of_size_eq_zero hp
  subst this
  have hb : P.built t ((#[] : Array (Nat × Operand)).map fun (i, x) => (i, a.eval x)).toList = some cs := by
    unfold Program.built
    simp [h1, hu, h2, hie, Value.cells, Instr.fill]
  refine stepOk_val hR (v' := .agg cs) ?_ (by simp only [VR]; exact ⟨cs, rfl, VRL_cvtL h4⟩)
  simp only [execOp, ho, Sem.run_bind, run_build C.w t _ cs hb, Result.andThen_ok]
  rfl

theorem fillElems_ok {s : Nat} (hT : TR C n T a.tmps) : ∀ {parts : List (Nat × Operand)} {sp : List (Nat × SArg)} {z es : List AV} {zs : Array Value}, separts parts = some sp →
    CRL C true true s z zs.toList → fillElems s z (sp.map fun (i, x) => (i, x.ev T)) = some es →
    ∃ cells, Instr.fill (fun i => some (i * s, s)) zs (parts.map fun (i, x) => (i, a.eval x)) = some cells ∧ CRL C true true s es cells.toList ∧ es.length = z.length
  | [], sp, z, cs, zs, h1, h2, h3 => by
    simp [separts] at h1; subst h1
    simp [fillElems] at h3; subst h3
    exact ⟨zs, by simp [Instr.fill], h2, rfl⟩
  | (i, x) :: parts, sp, z, cs, zs, h1, h2, h3 => by
    simp only [separts] at h1
    split at h1
    · rename_i sa l e2 e3
      simp at h1; subst h1
      simp only [List.map_cons, fillElems] at h3
      split at h3
      · rename_i hc
        obtain ⟨c1, c2, c3⟩ := hc
        have hv := VR_arg hT e2
        have hcs := EL_of c1 c2 hv
        have hl := EL.length hcs
        have hl2 := CRL.length h2
        have hsz : (a.eval x).cells.size = s := by simpa using hl
        have hzs : zs.size = z.length * s := by simpa using hl2
        have hle : i * s + s ≤ zs.size := by
          rw [hzs, ← Nat.succ_mul]
          exact Nat.mul_le_mul_right _ c3
        have hnew := CRL.set i h2 c3 hcs
        have hf := fold_setA (a.eval x).cells zs (i * s) (by omega)
        rw [hsz, show i * s + s = (i + 1) * s by rw [Nat.add_mul]; omega] at hf
        rw [← hf] at hnew
        obtain ⟨cells, k1, k2, k3⟩ := fillElems_ok hT e3 hnew h3
        refine ⟨cells, ?_, k2, by simpa using k3⟩
        simp only [List.map_cons, Instr.fill]
        rw [if_neg (by simp [hsz]; omega)]
        exact k1
      · simp at h3
    · simp at h1

theorem ok_buildS {t e : TypeId} {m : Nat} {parts : Array (Nat × Operand)} {sp : List (Nat × SArg)} {z : AV} {site s : Nat} (ho : o.op = .buildSlice t m parts) (hu : elemOf? P t = some e) (hi : elemInfo P e = some (s, z)) (hsm : m * s ≤ 16777216) (hm : 0 < m)
    (hsp : separts parts.toList = some sp) (hR : Rel C) (hT : TR C n T a.tmps)
    (h : aop cf xf base T C.H (.buildS site s m z sp) = some (v, H', fp)) : StepOk P o a C v H' := by
  obtain ⟨i, z', i1, i2, i3, i4, i5, i6, i7, i8, i9, i10⟩ := elemInfo_some hi
  simp only [aop] at h
  split at h
  · simp at h
  · cases hf : fillElems s (List.replicate m z) (sp.map fun (i, x) => (i, x.ev T)) with
    | none => simp [hf] at h
    | some es =>
      simp only [hf, Option.some.injEq, Prod.mk.injEq] at h
      obtain ⟨rfl, rfl, _⟩ := h
      have hcr := mkcells (C := C) (m := m) i3 i8 i9 i10
      obtain ⟨cells, k1, k2, k3⟩ := fillElems_ok (a := a) hT hsp hcr hf
      simp at k3
      have hcl := CRL.length k2
      have hrun := run_buildSlice (P := P) C.w t e m (parts.map fun (i, x) => (i, a.eval x)) cells i z' (elemOf_some hu) i1 i2 (by rw [i4]; simp; omega) (by rw [i4]; exact Nat.mul_ne_zero (by omega) (by omega)) (by rw [i4]; simpa using k1)
      have hsz : cells.size = m * s := by simp [k3] at hcl; exact hcl
      obtain ⟨hE, hR'⟩ := alloc_row hR (base + site) s es cells e (0, 0) (.inl rfl) (by rw [k3]; omega)
        (by rw [List.take_of_length_le (by simp [k3]; omega)]; exact k2)
      refine ⟨.slice (some ⟨C.w.heap.size, 0, none⟩) m m, _, _, .inl ?_, hE, hR', ?_⟩
      · simp only [execOp, ho, Sem.run_bind, hrun, Result.andThen_ok]
        rfl
      · have := VR_new (C' := ⟨C.F, updN C.μ (base + site) C.w.heap.size, C.H.newRow (base + site) s es, C.w.alloc (.cells cells e)⟩)
          (j := base + site) (es := es) (s := s) (g := (C.H (base + site)).gen + 1) (cap' := m) (len := m) (by simp [Heap.newRow]) (by simp) (heap_alloc_new _ _) (by omega) (by omega) (Nat.le_refl _) (by omega) (r := true) rfl (t := true)
        rw [k3] at this
        exact this

theorem ok_empty {t e : TypeId} {parts : Array (Nat × Operand)} {z : AV} {s : Nat} (ho : o.op = .buildSlice t 0 parts) (hu : elemOf? P t = some e) (hi : elemInfo P e = some (s, z)) (hp : parts.size = 0) (hR : Rel C)
    (h : aop cf xf base T C.H (.empty s) = some (v, H', fp)) : StepOk P o a C v H' := by
  obtain ⟨i, z', i1, i2, i3, i4, i5, i6, i7, i8, i9, i10⟩ := elemInfo_some hi
  simp only [aop] at h
  obtain ⟨rfl, rfl⟩ := rv_some h
  have : parts = #[] := Array.eq_empty_of_size_eq_zero hp
  subst this
  obtain ⟨hE, hR'⟩ := alloc_row hR 0 1 [] #[] e (0, 0) (.inl rfl) (by simp) (by simp [CRL])
  have hrun : (execOp a.eval o).run P C.w = .ok (.value (.slice (some ⟨C.w.heap.size, 0, none⟩) 0 0)) (C.w.alloc (.cells #[] e)) := by
    simp [execOp, ho, Instr.buildSlice, run_underlying (elemOf_some hu), sizeOf, typeInfo, i1, newRow, Instr.fill]
    rw [show Array.range 0 = #[] from rfl]; simp
  have hμ : Evo C { C with w := C.w.alloc (.cells #[] e) } ∧ Rel { C with w := C.w.alloc (.cells #[] e) } := by
    have hE2 : Evo C { C with w := C.w.alloc (.cells #[] e) } :=
      ⟨rfl, by simp, fun b hb _ => heap_alloc_lt _ _ hb, fun b h => .inl h, fun _ _ _ h => h, fun _ _ _ _ es' _ h => ⟨⟨es', h⟩, fun _ => rfl⟩,
        fun _ _ es' _ h => ⟨⟨es', h⟩, rfl⟩, fun b e n h => shape_alloc _ _ _ _ _ h, rfl, rfl, rfl⟩
    exact ⟨hE2, ⟨fun b hb => Nat.lt_of_lt_of_le (hR.fsz b hb) (by simp), fun j => BR.mono hE2 rfl (fun _ => rfl) (fun hl => heap_alloc_lt _ _ (hR.lt hl).1) (hR.blk j), hR.inj⟩⟩
  refine ⟨_, C.μ, _, .inl hrun, hμ.1, hμ.2, ?_⟩
  simp only [VR]
  exact ⟨fun _ => trivial, _, 0, rfl, Nat.le_refl _, fun _ => rfl, fun h => absurd rfl h⟩

theorem VRL_atoms {r t : Bool} : ∀ {cs : List AV} {vs : List Value}, VRL C r t cs vs → ∀ c ∈ cs, c.cells = [c]
  | [], _, _, c, hc => by simp at hc
  | c :: cs, _, h, c', hc => by
    simp only [VRL] at h
    obtain ⟨v, vs', rfl, h1, h2, h3⟩ := h
    rcases List.mem_cons.1 hc with rfl | hc
    · cases c' with
      | agg cs => simp only [VR] at h2; obtain ⟨vs, rfl, _⟩ := h2; simp [Value.oneCell'] at h1
      | _ => rfl
    · exact VRL_atoms h3 c' hc

theorem rewrap_cells {e : AV} {cs' : List AV} (h : cs'.length = e.cells.length) (h1 : ∀ c ∈ cs', c.cells = [c]) : (e.rewrap cs').cells = cs' := by
  cases e with
  | agg cs => rfl
  | _ =>
    simp only [AV.cells, List.length_singleton] at h
    obtain ⟨u, rfl⟩ := List.length_eq_one_iff.1 h
    exact h1 u (by simp)

/-- A store through a pointer into a row. -/
theorem ok_store {t : TypeId} {x y : Operand} {sx sy : SArg} {k : Nat} (ho : o.op = .store t x y) (hR : Rel C) (hT : TR C n T a.tmps) (hx : sarg x = some sx) (hy : sarg y = some sy) (hk : sizeOf? P t = some k)
    (h : aop cf xf base T C.H (.store k sx sy) = some (v, H', fp)) : StepOk P o a C v H' := by
  have hv := VR_arg hT hx
  have hu := VR_arg hT hy
  simp only [aop] at h
  split at h
  · rename_i j g ver s i off hq
    rw [hq] at hv
    split at h
    · rename_i es hes
      split at h
      · rename_i e he
        split at h
        · rename_i hc
          obtain ⟨c0, c1, c2⟩ := hc
          simp only [Option.some.injEq, Prod.mk.injEq] at h
          obtain ⟨rfl, rfl, _⟩ := h
          obtain ⟨hes1, hro⟩ := rowW_some.1 hes
          have hes' := row_some.1 hes1
          have hi : i < es.length := (List.getElem?_eq_some_iff.1 he).1
          have hne : es ≠ [] := by intro h; subst h; simp at hi
          obtain ⟨_, c, el, fzz, hobj, hok⟩ := hR.mem hes'.2.1 hne
          simp only [VR] at hv
          obtain ⟨_, _, ad, hv', hk'⟩ := hv
          have had := hk' es hes1 (by omega)
          subst had
          have hel := CRL.get i hok.cells he
          have hell := EL.length hel
          have hsc := storable_cells c0 hu
          have hlu := VRL.length hsc
          have husz : (a.eval y).cells.size = k := by simpa [c1] using hlu
          have hle := hok.le
          have hbig : i * s + s ≤ es.length * s := by rw [← Nat.succ_mul]; exact Nat.mul_le_mul_right _ hi
          have hes_s : e.cells.length = s := hel.1
          have hrun := run_storeCells_uf (P := P) (off := i * s + off) (a.eval y).cells.toList 0 c C.w hobj hok.uf (by simp [husz]; omega) (VRL.one hsc)
          simp only [Nat.add_zero, Array.length_toList, husz] at hrun
          -- the element's cells, anew
          have hnewel : EL C true true s (e.rewrap (e.cells.take off ++ (sy.ev T).cells ++ e.cells.drop (off + k)))
              (((c.toList.take (es.length * s)).drop (i * s)).take s |>.take off |> (· ++ (a.eval y).cells.toList ++ (((c.toList.take (es.length * s)).drop (i * s)).take s).drop (off + k))) := by
            have hcells : (e.rewrap (e.cells.take off ++ (sy.ev T).cells ++ e.cells.drop (off + k))).cells = e.cells.take off ++ (sy.ev T).cells ++ e.cells.drop (off + k) := by
              refine rewrap_cells (by simp [c1]; omega) (VRL_atoms (((hel.2.take off).append hsc).append (hel.2.drop (off + k))))
            refine ⟨?_, ?_⟩
            · rw [hcells]; simp [c1]; omega
            · rw [hcells]
              exact ((hel.2.take off).append hsc).append (hel.2.drop (off + k))
          have hset := CRL.set i hok.cells hi hnewel
          have hlist : (c.toList.take (i * s + off) ++ (a.eval y).cells.toList ++ c.toList.drop (i * s + off + k)).take (es.length * s) =
              (c.toList.take (es.length * s)).take (i * s) ++ ((((c.toList.take (es.length * s)).drop (i * s)).take s).take off ++ (a.eval y).cells.toList ++ (((c.toList.take (es.length * s)).drop (i * s)).take s).drop (off + k)) ++ (c.toList.take (es.length * s)).drop ((i + 1) * s) := by
            rw [show (i + 1) * s = i * s + s by rw [Nat.add_mul]; omega]
            exact splice_take c.toList (a.eval y).cells.toList (i * s) s off k (es.length * s) (by simp [husz]) (by omega) hbig (by simpa using hle)
          obtain ⟨hE, hR'⟩ := set_row hR (j := j) (s := s) (es := es) (es' := es.set i (e.rewrap (e.cells.take off ++ (sy.ev T).cells ++ e.cells.drop (off + k)))) hes'.2.1 hro (by simp) (c := c) (c' := (c.toList.take (i * s + off) ++ (a.eval y).cells.toList ++ c.toList.drop (i * s + off + k)).toArray) (el := el) (fz := fzz)
            (setObjAt C.w (C.μ j) (.cells (c.toList.take (i * s + off) ++ (a.eval y).cells.toList ++ c.toList.drop (i * s + off + k)).toArray el fzz)) (fun _ => hobj) hok.uf (by simp [husz]; omega) hle
            (fun _ => rfl) (fun h => absurd h hne) rfl rfl rfl (by simp only [List.length_set]; rw [hlist]; exact hset)
          refine ⟨Go.undef, C.μ, _, .inr ⟨?_, rfl⟩, hE, hR', by simp [VR]⟩
          simp [execOp, ho, hv', Instr.storeAt, Instr.sureAddr, storeVar, husz, run_sizeOf hk, hrun]
        · simp at h
      · simp at h
    · simp at h
  · simp at h
theorem run_markStr {b off : Nat} {c : Array Value} {el : TypeId} {fz : Nat × Nat} {w : World} (hobj : w.heap[b]? = some (.cells c el fz)) (hu : unfrozen fz c.size) :
    ∃ w' fz', (markStringish ⟨b, off, none⟩).run P w = .ok () w' ∧ unfrozen fz' c.size ∧ w'.heap = w.heap.modify b (fun _ => .cells c el fz') ∧ w'.os = w.os ∧ w'.tape = w.tape ∧ w'.output = w.output := by
  have hsh : w.shape? b = some (el, c.size) := by simp [World.shape?, hobj]
  refine ⟨w.freeze ⟨b, c.size, none⟩ 1, if fz.1 == fz.2 then (c.size, c.size + 1) else (min fz.1 c.size, max fz.2 (c.size + 1)), ?_, ?_, ?_, rfl, rfl, rfl⟩
  · simp [markStringish, hsh]
  · unfold unfrozen at hu ⊢
    split
    · right; exact Nat.le_refl _
    · rename_i hne
      simp at hne
      right; simp; omega
  · simp only [World.freeze]
    rw [if_neg (by decide)]
    dsimp only
    apply Array.ext
    · simp
    · intro k k1 k2
      simp only [Array.getElem_modify]
      split
      · rename_i e
        subst e
        obtain ⟨_, h3⟩ := Array.getElem?_eq_some_iff.1 hobj
        rw [h3]
      · rfl

theorem ok_ss {s d e0 e : TypeId} {x : Operand} {sx : SArg} (ho : o.op = .convert s d x) (hs : P.underlying s = some (.slice e0)) (hd : P.underlying d = some (.slice e)) (he : isU8 P e = true) (hsd : (s == d) = true) (hR : Rel C) (hT : TR C n T a.tmps) (hx : sarg x = some sx)
    (h : aop cf xf base T C.H (.ss sx) = some (v, H', fp)) : StepOk P o a C v H' := by
  have hx' := VR_arg hT hx
  have he' : P.underlying e = some (.int .u8) := by
    unfold isU8 at he
    split at he
    · assumption
    · simp at he
  simp only [aop] at h
  split at h
  · rename_i j g ver s' off len cap hq
    split at h
    · rename_i es hes
      split at h
      · rename_i hc
        simp only [Option.some.injEq, Prod.mk.injEq] at h
        obtain ⟨rfl, rfl, _⟩ := h
        rw [hq] at hx'
        obtain ⟨hes1, hro⟩ := rowW_some.1 hes
        obtain ⟨hg, hst, hver⟩ := row_some.1 hes1
        have hv0 := hx'
        simp only [VR] at hv0
        obtain ⟨_, _, ad, cap', hval, hcap, hk⟩ := hv0
        obtain ⟨_, _, hk3⟩ := hk es hes1
        obtain ⟨had, _⟩ := hk3 hc.1 (by omega)
        have hne : es ≠ [] := by intro h0; subst h0; simp at hver; omega
        obtain ⟨_, c, el, fzz, hobj, hok⟩ := hR.mem hst hne
        obtain ⟨w', fz', hrun, huf, hheap, hos, htape, hout⟩ := run_markStr (P := P) (off := off * s') hobj hok.uf
        obtain ⟨hE, hR'⟩ := set_row hR hst hro rfl (c := c) (c' := c) (el := el) (fz := fzz) (fz' := fz') w' (fun _ => hobj) huf rfl hok.le (fun _ => hheap) (fun h0 => absurd h0 hne) hos htape hout hok.cells
        refine ⟨a.eval x, _, w', .inl ?_, hE, hR', VR.mono hE hx'⟩
        rw [hval, had]
        rw [had] at hval
        simp [execOp, ho, hval, convert, run_underlying hs, run_underlying hd, run_underlying he', hsd, hrun]
      · simp at h
    · simp at h
  · simp at h

end ops
end Go.AI
