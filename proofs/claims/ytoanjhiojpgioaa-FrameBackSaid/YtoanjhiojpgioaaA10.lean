/- Each operation of the interpreter is the model's. Part 6: append, copy. -/
import Derived.Test.YtoanjhiojpgioaaA9
import Derived.Laws.Append
set_option linter.unusedSimpArgs false
set_option linter.unusedVariables false
namespace Go.AI

theorem growBy_le (m : Nat) : ∀ (r c : Nat), Builtin.growBy m r c ≤ max c (2 * m + 768)
  | 0, c => by simp [Builtin.growBy]; omega
  | r + 1, c => by
    unfold Builtin.growBy
    split
    · omega
    · have := growBy_le m r (c + (c + 768) / 4)
      omega

theorem nextslicecap_le (m c : Nat) (h : c ≤ m) : Builtin.nextslicecap m c ≤ 2 * m + 768 := by
  unfold Builtin.nextslicecap
  split
  · omega
  · split
    · omega
    · have := growBy_le m 4 c; omega

/-- The world behind an append that takes new memory. -/
def grown (w : World) (cs : Array Value) (e : TypeId) : World := w.drew.alloc (.cells cs e)

section ops
variable {P : Program} {o : Oper} {a : Act} {C : Ctx} {n : Nat} {T : Tmps} {cf : CallF} {xf : ExtF} {base : Nat} {v : AV} {H' : Heap} {fp : FP}

/-- What is put behind: how many, and their cells, read in any world with these blocks. -/
structure Behind (P : Program) (w : World) (u : TypeId) (e : TypeId) (s : Nat) (vx : Value) (m : Nat) (vs : List Value) : Prop where
  len : vs.length = m * s
  one : ∀ x ∈ vs, x.oneCell' = true
  src : (isInt P u = true ∧ ∃ k, vx = .int k (m : Int) ∧ m ≤ roomy ∧ ∃ i z, P.info? e = some i ∧ i.zero = some z ∧ vs = (List.replicate m z.cells.toList).flatten ∧ z.cells.size = s) ∨
    (((∃ e', P.underlying u = some (.slice e')) ∨ P.underlying u = some .string) ∧ (∀ w' : World, w'.heap = w.heap → (Builtin.lenOf vx).run P w' = .ok m w' ∧ (Builtin.firstCells s m vx).run P w' = .ok vs.toArray w'))

theorem run_zeroCells {z : Value} {m s : Nat} (h : z.cells.size = s) : Builtin.zeroCells z.cells m = (List.replicate m z.cells.toList).flatten.toArray := by
  unfold Builtin.zeroCells
  apply Array.ext'
  rw [Array.toList_map, Array.toList_range, h, range_mod _ _ h]

theorem wrap_room {m : Nat} (h : m ≤ roomy) : IntKind.i64.wrap (m : Int) = m := by
  unfold roomy at h
  simp [IntKind.wrap, IntKind.bits, IntKind.signed]; omega

theorem run_append_in {t u ty e : TypeId} {s m sLen sCap : Nat} {ad : Option Addr} {vx : Value} {vs : List Value} {w w2 : World} {i : TypeInfo} (hu : P.underlying t = some (.slice e)) (hi : P.info? e = some i) (his : i.size = s) (hb : i.bytes ≤ 1024)
    (hx : Behind P w u e s vx m vs) (hn : sLen + m ≤ sCap) (hst : match ad with | some a => (storeCells (a.add (sLen * s)) vs).run P w = .ok () w2 | none => w2 = w) :
    (Builtin.append_ #[t, u] ty #[.slice ad sLen sCap, vx]).run P w = .ok (.slice ad (sLen + m) sCap) w2 := by
  rcases hx.src with ⟨h1, k, rfl, hm, i', z, h2, h3, hvs, h5⟩ | ⟨h1, h3⟩
  · rw [hi] at h2; cases h2
    have hui : ∃ k', P.underlying u = some (.int k') := by
      unfold isInt at h1
      split at h1
      · rename_i k' hk; exact ⟨k', hk⟩
      · simp at h1
    obtain ⟨k', hui⟩ := hui
    have hbb : ¬ (281474976710656 < (m : Int) * (i.bytes : Int)) := by
      have : m * i.bytes ≤ 68719476736 * 1024 := Nat.mul_le_mul hm hb
      have h9 : ((m * i.bytes : Nat) : Int) ≤ ((68719476736 * 1024 : Nat) : Int) := Int.ofNat_le.2 this
      simp at h9 ⊢; omega
    have hneg : ¬ ((m : Int) < 0) := by omega
    have hzr : ∀ w' : World, (zeroValue e).run P w' = .ok z w' := fun w' => by simp [zeroValue, typeInfo, hi, h3]
    have hnil : m * i.size = 0 → vs = [] := fun h0 => List.eq_nil_of_length_eq_zero (by rw [hx.len, ← his]; exact h0)
    have hzc : (Builtin.zeroCells z.cells m).toList = vs := by rw [run_zeroCells h5, hvs]
    cases ad with
    | none =>
      simp only at hst; subst hst
      by_cases h0 : m * i.size = 0
      · simp [Builtin.append_, run_underlying hu, run_underlying hui, sizeOf, typeInfo, hi, asInt, asIntOf, wrap_room hm, hbb, hneg, hn, h0]
      · simp [Builtin.append_, run_underlying hu, run_underlying hui, sizeOf, typeInfo, hi, asInt, asIntOf, wrap_room hm, hbb, hneg, hn, h0, hzr]
    | some ad =>
      simp only at hst
      subst his
      by_cases h0 : m * i.size = 0
      · rw [hnil h0] at hst
        simp [Builtin.append_, run_underlying hu, run_underlying hui, sizeOf, typeInfo, hi, asInt, asIntOf, wrap_room hm, hbb, hneg, hn, h0, hst]
      · simp [Builtin.append_, run_underlying hu, run_underlying hui, sizeOf, typeInfo, hi, asInt, asIntOf, wrap_room hm, hbb, hneg, hn, h0, hzr, hzc, hst]
  · obtain ⟨k1, k2⟩ := h3 w rfl
    rcases h1 with ⟨e', hd⟩ | hd
    · cases ad with
      | none =>
        simp only at hst; subst hst
        simp [Builtin.append_, run_underlying hu, run_underlying hd, sizeOf, typeInfo, hi, his, k1, k2, hn]
      | some ad =>
        simp only at hst
        simp [Builtin.append_, run_underlying hu, run_underlying hd, sizeOf, typeInfo, hi, his, k1, k2, hn, hst]
    · cases ad with
      | none =>
        simp only at hst; subst hst
        simp [Builtin.append_, run_underlying hu, run_underlying hd, sizeOf, typeInfo, hi, his, k1, k2, hn]
      | some ad =>
        simp only at hst
        simp [Builtin.append_, run_underlying hu, run_underlying hd, sizeOf, typeInfo, hi, his, k1, k2, hn, hst]

theorem run_append_grow2 {t u ty e : TypeId} {s m sLen sCap : Nat} {ad : Option Addr} {vx : Value} {vs ov : List Value} {w : World} {i : TypeInfo} {z : Value} (hu : P.underlying t = some (.slice e)) (hi : P.info? e = some i) (his : i.size = s) (hb : i.bytes ≤ 1024) (hb0 : 0 < i.bytes) (hz : i.zero = some z)
    (hx : Behind P w u e s vx m vs) (hn : sCap < sLen + m) (hroom : sLen + m ≤ roomy)
    (hold : ∀ w' : World, w'.heap = w.heap → (Builtin.firstCells s sLen (.slice ad sLen sCap)).run P w' = .ok ov.toArray w') :
    (Builtin.append_ #[t, u] ty #[.slice ad sLen sCap, vx]).run P w =
      .ok (.slice (some ⟨w.heap.size, 0, none⟩) (sLen + m) (grownCap w (sLen + m) sCap e)) (w.drew.alloc (.cells (ov.toArray ++ vs.toArray ++ Builtin.zeroCells z.cells (grownCap w (sLen + m) sCap e - (sLen + m))) e)) := by
  have hroom' := hroom
  unfold roomy at hroom'
  have hle : ¬ (sLen + m ≤ sCap) := by omega
  have hfit : Builtin.nextslicecap (sLen + m) sCap * i.bytes ≤ 281474976710656 := by
    have h1 := AI.nextslicecap_le (sLen + m) sCap (by omega)
    have h2 : Builtin.nextslicecap (sLen + m) sCap * i.bytes ≤ (2 * 68719476736 + 768) * 1024 := Nat.mul_le_mul (by omega) hb
    omega
  have hfit' : ¬ (281474976710656 < Builtin.nextslicecap (sLen + m) sCap * i.bytes) := by omega
  have hbig : ¬ (9223372036854775807 < (sLen : Int) + (m : Int)) := by omega
  obtain hold' := hold w.drew rfl
  rcases hx.src with ⟨h1, k, rfl, hm, i', z', h2, h3, hvs, h5⟩ | ⟨h1, h3⟩
  · rw [hi] at h2; cases h2
    rw [hz] at h3; cases h3
    have hui : ∃ k', P.underlying u = some (.int k') := by
      unfold isInt at h1
      split at h1
      · rename_i k' hk; exact ⟨k', hk⟩
      · simp at h1
    obtain ⟨k', hui⟩ := hui
    have hbb : ¬ (281474976710656 < (m : Int) * (i.bytes : Int)) := by
      have : m * i.bytes ≤ 68719476736 * 1024 := Nat.mul_le_mul hm hb
      have h9 : ((m * i.bytes : Nat) : Int) ≤ ((68719476736 * 1024 : Nat) : Int) := Int.ofNat_le.2 this
      simp at h9 ⊢; omega
    have hneg : ¬ ((m : Int) < 0) := by omega
    have hzr : ∀ w' : World, (zeroValue e).run P w' = .ok z w' := fun w' => by simp [zeroValue, typeInfo, hi, hz]
    have hnil : m * i.size = 0 → vs = [] := fun h0 => List.eq_nil_of_length_eq_zero (by rw [hx.len, ← his]; exact h0)
    have hzc : Builtin.zeroCells z.cells m = vs.toArray := by rw [run_zeroCells h5, hvs]
    subst his
    by_cases h0 : m * i.size = 0
    · rw [hnil h0]
      simp [Builtin.append_, run_underlying hu, run_underlying hui, sizeOf, typeInfo, hi, asInt, asIntOf, wrap_room hm, hbb, hneg, hle, hfit', hbig, h0, Question.forced, hold', hzr, newRow, grownCap]
    · simp [Builtin.append_, run_underlying hu, run_underlying hui, sizeOf, typeInfo, hi, asInt, asIntOf, wrap_room hm, hbb, hneg, hle, hfit', hbig, h0, Question.forced, hold', hzr, hzc, newRow, grownCap]
      congr 2
      apply Array.ext'
      simp
  · obtain ⟨k1, _⟩ := h3 w rfl
    obtain ⟨_, k2⟩ := h3 w.drew rfl
    have hb1 : i.bytes ≠ 0 := by omega
    rcases h1 with ⟨e', hd⟩ | hd
    · simp [Builtin.append_, run_underlying hu, run_underlying hd, sizeOf, typeInfo, hi, his, k1, hle, hfit', hbig, hb1, Question.forced, hold', k2, zeroValue, hz, newRow, grownCap]
      congr 2
      apply Array.ext'
      simp
    · simp [Builtin.append_, run_underlying hu, run_underlying hd, sizeOf, typeInfo, hi, his, k1, hle, hfit', hbig, hb1, Question.forced, hold', k2, zeroValue, hz, newRow, grownCap]
      congr 2
      apply Array.ext'
      simp

theorem setRow_same (H : Heap) (j s : Nat) (es : List AV) (hst : (H j).st = .row s es) (hro : (H j).ro = false) : H.setRow j s es = H := by
  funext i
  unfold Heap.setRow; rw [Heap.upd_eq]
  by_cases h : i = j
  · subst h
    rw [if_pos rfl, ← hst, ← hro]
  · rw [if_neg h]

theorem splice2 {α : Type} (l u : List α) (A k N : Nat) (hu : u.length = k) (h2 : A + k ≤ N) (h3 : N ≤ l.length) :
    (l.take A ++ u ++ l.drop (A + k)).take N = (l.take N).take A ++ u ++ (l.take N).drop (A + k) := by
  have := splice_take l u A k 0 k N hu (by omega) h2 h3
  simp at this ⊢
  rw [this]

theorem zeroCells_size (z : Value) (m : Nat) : (Builtin.zeroCells z.cells m).size = m * z.cells.size := by simp [Builtin.zeroCells]

set_option maxHeartbeats 1000000 in
theorem appendTo_ok {t u ty e : TypeId} {site s m : Nat} {x : AV} {ys : List AV} {x' vx : Value} {vs : List Value} {i : TypeInfo} {z : Value} (hR : Rel C) (hu : P.underlying t = some (.slice e)) (hi : P.info? e = some i) (his : i.size = s)
    (hb : i.bytes ≤ 1024) (hb0 : 0 < i.bytes) (hz : i.zero = some z) (hzs : z.cells.size = s)
    (hx : VR C true true x x') (hB : Behind P C.w u e s vx m vs) (hm : ys.length = m) (hys : CRL C true true s ys vs)
    (h : appendTo C.H site s x ys = some (v, H', fp)) :
    ∃ v' μ' w', (Builtin.append_ #[t, u] ty #[x', vx]).run P C.w = .ok v' w' ∧ Evo C ⟨C.F, μ', H', w'⟩ ∧ Rel ⟨C.F, μ', H', w'⟩ ∧ VR ⟨C.F, μ', H', w'⟩ true true v v' := by
  subst hm
  have hnilrun : ∀ (ad : Option Addr) (l c : Nat), ys = [] → l ≤ c → (Builtin.append_ #[t, u] ty #[.slice ad l c, vx]).run P C.w = .ok (.slice ad l c) C.w := by
    intro ad l c h0 hlc
    subst h0
    have hvs : vs = [] := by simpa [CRL] using hys
    subst hvs
    have := run_append_in (P := P) (t := t) (u := u) (ty := ty) (sLen := l) (sCap := c) (ad := ad) (w2 := C.w) hu hi his hb hB (by omega) (by cases ad <;> simp [storeCells])
    simpa using this
  -- new memory
  have hnew : ∀ (ad : Option Addr) (l c : Nat) (ov : List Value), c < l + ys.length → l + ys.length ≤ roomy → ov.length = l * s → (∀ w' : World, w'.heap = C.w.heap → (Builtin.firstCells s l (.slice ad l c)).run P w' = .ok ov.toArray w') →
      ∃ cap cs, (Builtin.append_ #[t, u] ty #[.slice ad l c, vx]).run P C.w = .ok (.slice (some ⟨C.w.heap.size, 0, none⟩) (l + ys.length) cap) (C.w.drew.alloc (.cells cs e)) ∧ l + ys.length ≤ cap ∧ cs.size = cap * s ∧ cs.toList.take ((l + ys.length) * s) = ov ++ vs := by
    intro ad l c ov h1 h2 h3 h4
    have := run_append_grow2 (P := P) (t := t) (u := u) (ty := ty) (sLen := l) (sCap := c) (ad := ad) hu hi his hb hb0 hz hB h1 h2 h4
    have hc : l + ys.length ≤ grownCap C.w (l + ys.length) c e := Nat.le_add_right _ _
    refine ⟨_, _, this, hc, ?_, ?_⟩
    · simp only [Array.size_append, List.size_toArray, zeroCells_size, hzs, h3, hB.len]
      rw [← Nat.add_mul, ← Nat.add_mul]
      congr 1; omega
    · simp only [Array.toList_append]
      rw [List.take_append_of_le_length (by simp [h3, hB.len, Nat.add_mul]), List.take_of_length_le (by simp [h3, hB.len, Nat.add_mul])]
  unfold appendTo at h
  split at h
  · rename_i tt full s' es
    have hx0 := hx
    simp only [VR] at hx
    obtain ⟨htt, ad, cap', rfl, hcap, hfull, hmem⟩ := hx
    split at h
    · rename_i hn
      obtain ⟨rfl, rfl⟩ := rv_some h
      exact ⟨_, C.μ, C.w, hnilrun _ _ _ (isNil_iff.1 hn) hcap, Evo.refl C, hR, hx0⟩
    · rename_i hn
      split at h
      · rename_i hc
        obtain ⟨c1, c2, c3⟩ := hc
        have c2' := isNil_iff.1 c2
        subst c2'
        simp only [Option.some.injEq, Prod.mk.injEq] at h
        obtain ⟨rfl, rfl, _⟩ := h
        have hc0 : cap' = 0 := by simpa using hfull c1
        subst hc0
        have hpos : 0 < ys.length := by exact List.length_pos_iff.2 (fun h0 => hn (isNil_iff.2 h0))
        obtain ⟨cap, cs, r1, r2, r3, r4⟩ := hnew ad 0 0 [] (by omega) (by omega) (by simp) (fun w' _ => by cases ad <;> simp [Builtin.firstCells, loadCells, loadCellsFrom])
        simp only [Nat.zero_add, List.nil_append] at r1 r2 r4
        obtain ⟨hE0, hR0⟩ := same_heap hR C.w.drew rfl rfl rfl rfl
        obtain ⟨hE, hR'⟩ := alloc_row hR0 site s ys cs e (0, 0) (.inl rfl) (by rw [r3]; exact Nat.mul_le_mul_right _ r2) (by rw [r4]; exact CRL.mono hE0 hys)
        refine ⟨_, _, _, r1, hE0.trans hE, hR', ?_⟩
        have := VR_new (C' := ⟨C.F, updN C.μ site C.w.drew.heap.size, C.H.newRow site s ys, C.w.drew.alloc (.cells cs e)⟩)
          (j := site) (es := ys) (s := s) (g := (C.H site).gen + 1) (cap' := cap) (len := ys.length) (by simp [Heap.newRow]) (by simp) (heap_alloc_new _ _) (by omega) (by omega) (by omega) (by omega) (r := true) rfl (t := true)
        exact this
      · simp at h
  · rename_i j g ver s' off len cap
    have hx0 := hx
    simp only [VR] at hx
    obtain ⟨_, hpast, ad, cap', rfl, hcap, hk⟩ := hx
    split at h
    · rename_i hn
      obtain ⟨rfl, rfl⟩ := rv_some h
      exact ⟨_, C.μ, C.w, hnilrun _ _ _ (isNil_iff.1 hn) hcap, Evo.refl C, hR, hx0⟩
    · rename_i hn
      have hpos : 0 < ys.length := by exact List.length_pos_iff.2 (fun h0 => hn (isNil_iff.2 h0))
      split at h
      · simp at h
      · rename_i es hes
        obtain ⟨hes1, hro⟩ := rowW_some.1 hes
        obtain ⟨hg, hst, hver⟩ := row_some.1 hes1
        obtain ⟨k1, k2, k3⟩ := hk es hes1
        split at h
        · rename_i hc
          obtain ⟨rfl, hle, hroom⟩ := hc
          split at h
          · -- in the row's own room
            rename_i hin
            simp only [Option.some.injEq, Prod.mk.injEq] at h
            obtain ⟨rfl, rfl, _⟩ := h
            have hcc : cap.getD (ver - off) ≤ cap' := by cases cap <;> simp_all
            have hoff : off < ver := by omega
            obtain ⟨rfl, el0, n0, hsh, hn0⟩ := k3 hoff (by omega)
            have hne : es ≠ [] := by intro h0; subst h0; simp at hver; omega
            obtain ⟨hF, c, el, fz, hobj, hok⟩ := hR.mem hst hne
            have hle2 := hok.le
            have hvl := hB.len
            have hmul : (off + len) * s' + ys.length * s' ≤ es.length * s' := by rw [← Nat.add_mul]; exact Nat.mul_le_mul_right _ (by omega)
            have hst2 := run_storeCells_uf (P := P) (off := off * s' + len * s') vs 0 c C.w hobj hok.uf (by rw [hvl]; rw [Nat.add_mul] at hmul; omega) hB.one
            rw [Nat.add_zero, hvl, ← Nat.add_mul] at hst2
            have hrun := run_append_in (P := P) (t := t) (u := u) (ty := ty) (sLen := len) (sCap := cap') (ad := some ⟨C.μ j, off * s', none⟩) hu hi his hb hB (by omega) (by simp only [Addr_add, ← Nat.add_mul]; exact hst2)
            have hlen' : (es.take (off + len) ++ ys ++ es.drop (off + len + ys.length)).length = es.length := by simp; omega
            have hcells : CRL C true true s' (es.take (off + len) ++ ys ++ es.drop (off + len + ys.length)) ((c.toList.take ((off + len) * s') ++ vs ++ c.toList.drop ((off + len) * s' + ys.length * s')).take (es.length * s')) := by
              rw [splice2 _ _ _ _ _ hvl hmul (by simpa using hle2), ← Nat.add_mul]
              exact ((hok.cells.take (off + len)).append hys).append (hok.cells.drop (off + len + ys.length))
            obtain ⟨hE, hR'⟩ := set_row hR hst hro hlen' (c := c) (c' := (c.toList.take ((off + len) * s') ++ vs ++ c.toList.drop ((off + len) * s' + ys.length * s')).toArray) (el := el) (fz := fz)
              (setObjAt C.w (C.μ j) (.cells (c.toList.take ((off + len) * s') ++ vs ++ c.toList.drop ((off + len) * s' + ys.length * s')).toArray el fz)) (fun _ => hobj) hok.uf (by simp [hvl]; omega) hle2
              (fun _ => rfl) (fun h0 => absurd h0 hne) rfl rfl rfl (by rw [hlen']; exact hcells)
            refine ⟨_, _, _, hrun, hE, hR', ?_⟩
            simp only [VR]
            refine ⟨trivial, hE.pst _ _ _ hpast, _, cap', rfl, by omega, fun es' hes' => ⟨k1, k2, fun _ _ => ⟨rfl, el0, n0, hE.shape _ _ _ hsh, hn0⟩⟩⟩
          · rename_i hnin
            split at h
            · -- behind the row
              split at h
              · rename_i hc2
                obtain ⟨rfl, rfl⟩ := hc2
                simp only [Option.some.injEq, Prod.mk.injEq] at h
                obtain ⟨rfl, rfl, _⟩ := h
                by_cases hcp : len + ys.length ≤ cap'
                · have hver0 : 0 < len := by
                    rcases Nat.eq_zero_or_pos len with h0 | h0
                    · have := k1 h0; omega
                    · exact h0
                  obtain ⟨rfl, el0, n0, hsh, hn0⟩ := k3 hver0 (by omega)
                  have hne : es ≠ [] := by intro h0; subst h0; simp at hver; omega
                  obtain ⟨hF, c, el, fz, hobj, hok⟩ := hR.mem hst hne
                  have hcs : n0 = c.size := by
                    simp only [World.shape?, hobj] at hsh
                    simp at hsh; exact hsh.2.symm
                  have hvl := hB.len
                  have hmul : len * s' + ys.length * s' ≤ c.size := by
                    rw [← hcs]
                    refine Nat.le_trans ?_ hn0
                    rw [← Nat.add_mul]; exact Nat.mul_le_mul_right _ (by omega)
                  have hst2 := run_storeCells_uf (P := P) (off := 0 * s' + len * s') vs 0 c C.w hobj hok.uf (by rw [hvl]; omega) hB.one
                  rw [Nat.add_zero, hvl, Nat.zero_mul, Nat.zero_add] at hst2
                  have hrun := run_append_in (P := P) (t := t) (u := u) (ty := ty) (sLen := len) (sCap := cap') (ad := some ⟨C.μ j, 0 * s', none⟩) hu hi his hb hB hcp (by simp only [Addr_add, Nat.zero_mul, Nat.zero_add]; exact hst2)
                  have hlen' : (es ++ ys).length = len + ys.length := by simp; omega
                  have hcells : CRL C true true s' (es ++ ys) ((c.toList.take (len * s') ++ vs ++ c.toList.drop (len * s' + ys.length * s')).take ((es ++ ys).length * s')) := by
                    rw [hlen', List.take_append_of_le_length (by simp [hvl, Nat.add_mul]; omega), List.take_of_length_le (by simp [hvl, Nat.add_mul]; omega)]
                    have := hok.cells
                    rw [hver] at this
                    exact this.append hys
                  obtain ⟨hE, hR'⟩ := push_room hR hst hro hne (by simp) (c := c) (c' := (c.toList.take (len * s') ++ vs ++ c.toList.drop (len * s' + ys.length * s')).toArray) (el := el) (fz := fz)
                    (setObjAt C.w (C.μ j) (.cells (c.toList.take (len * s') ++ vs ++ c.toList.drop (len * s' + ys.length * s')).toArray el fz)) hobj hok.uf (by simp [hvl]; omega) (by rw [hlen', Nat.add_mul]; exact hmul)
                    rfl rfl rfl rfl hcells
                  refine ⟨_, _, _, hrun, hE, hR', ?_⟩
                  simp only [VR]
                  refine ⟨trivial, ⟨by simp [Heap.setRow]; exact hpast.1, fun _ s2 es2 hs2 => ?_⟩, _, cap', rfl, hcp, fun es' hes' => ⟨fun h0 => by omega, by simp; omega, fun _ _ => ⟨rfl, el0, n0, hE.shape _ _ _ hsh, hn0⟩⟩⟩
                  simp [Heap.setRow] at hs2
                  rw [← hs2.2, hlen']; exact Nat.le_refl _
                · -- new memory
                  have hold : ∃ ov : List Value, ov.length = len * s' ∧ CRL C true true s' es ov ∧ ∀ w' : World, w'.heap = C.w.heap → (Builtin.firstCells s' len (.slice ad len cap')).run P w' = .ok ov.toArray w' := by
                    by_cases hne : es = []
                    · subst hne
                      simp at hver; subst hver
                      refine ⟨[], by simp, by simp [CRL], fun w' _ => by cases ad <;> simp [Builtin.firstCells, loadCells, loadCellsFrom]⟩
                    · obtain ⟨hF, c, el, fz, hobj, hok⟩ := hR.mem hst hne
                      have hver0 : 0 < len := by rw [← hver]; exact List.length_pos_iff.2 hne
                      obtain ⟨rfl, el0, n0, hsh, hn0⟩ := k3 hver0 (by simp at k2; omega)
                      have hcells := hok.cells
                      rw [hver] at hcells
                      have hcl := CRL.length hcells
                      rw [hver] at hcl
                      refine ⟨c.toList.take (len * s'), hcl, hcells, fun w' hw' => ?_⟩
                      have hrow : rowAt w' (C.μ j) (0 * s') (c.toList.take (len * s')) := by
                        rw [Nat.zero_mul]; exact rowAt_block (by rw [hw']; exact hobj) _
                      have := run_loadRow (P := P) w' hrow
                      rw [hcl] at this
                      simpa [Builtin.firstCells] using this
                  obtain ⟨ov, o1, o2, o3⟩ := hold
                  obtain ⟨cap2, cs, r1, r2, r3, r4⟩ := hnew ad len cap' ov (by omega) (by omega) o1 o3
                  obtain ⟨hE0, hR0⟩ := same_heap hR C.w.drew rfl rfl rfl rfl
                  have hlen' : (es ++ ys).length = len + ys.length := by simp; omega
                  obtain ⟨hE, hR'⟩ := push_new hR0 (j := j) (s := s') (es := es) (es' := es ++ ys) hst (by simp; omega) cs e (0, 0) (.inl rfl) (by rw [hlen', r3]; exact Nat.mul_le_mul_right _ r2) (by rw [hlen', r4]; exact CRL.mono hE0 (o2.append hys))
                  refine ⟨_, _, _, r1, hE0.trans hE, hR', ?_⟩
                  have := VR_new (C' := ⟨C.F, updN C.μ j C.w.drew.heap.size, C.H.setRow j s' (es ++ ys), C.w.drew.alloc (.cells cs e)⟩)
                    (j := j) (es := es ++ ys) (s := s') (g := g) (cap' := cap2) (len := len + ys.length) (by simp [Heap.setRow, hg]) (by simp) (heap_alloc_new _ _) (by omega) (by omega) (by omega) (by omega) (r := true) rfl (t := true)
                  rw [hlen'] at this
                  exact this
              · simp at h
            · split at h
              · rename_i c0 hc0
                simp only [Option.some.injEq, Prod.mk.injEq] at h
                obtain ⟨rfl, rfl, _⟩ := h
                simp only at k2
                subst k2
                have hold : ∃ ov : List Value, ov.length = len * s' ∧ CRL C true true s' ((es.drop off).take len) ov ∧ ∀ w' : World, w'.heap = C.w.heap → (Builtin.firstCells s' len (.slice ad len cap')).run P w' = .ok ov.toArray w' := by
                  by_cases hl0 : len = 0
                  · subst hl0
                    refine ⟨[], by simp, by simp [CRL], fun w' _ => by cases ad <;> simp [Builtin.firstCells, loadCells, loadCellsFrom]⟩
                  · have hne : es ≠ [] := by intro h0; subst h0; simp at hver; omega
                    obtain ⟨hF, c, el, fz, hobj, hok⟩ := hR.mem hst hne
                    obtain ⟨rfl, el0, n0, hsh, hn0⟩ := k3 (by omega) (by omega)
                    have hcl := CRL.length ((hok.cells.drop off).take len)
                    have hl1 : ((es.drop off).take len).length = len := by simp; omega
                    rw [hl1] at hcl
                    refine ⟨_, hcl, (hok.cells.drop off).take len, fun w' hw' => ?_⟩
                    have hrow : rowAt w' (C.μ j) (off * s') (((c.toList.take (es.length * s')).drop (off * s')).take (len * s')) := by
                      have := ((rowAt_block (w := w') (b := C.μ j) (by rw [hw']; exact hobj) (es.length * s')).drop (off * s')).take (len * s')
                      simpa using this
                    have := run_loadRow (P := P) w' hrow
                    rw [hcl] at this
                    simpa [Builtin.firstCells] using this
                obtain ⟨ov, o1, o2, o3⟩ := hold
                obtain ⟨cap2, cs, r1, r2, r3, r4⟩ := hnew ad len cap' ov (by omega) (by omega) o1 o3
                obtain ⟨hE0, hR0⟩ := same_heap hR C.w.drew rfl rfl rfl rfl
                have hlen' : ((es.drop off).take len ++ ys).length = len + ys.length := by simp; omega
                obtain ⟨hE, hR'⟩ := alloc_row hR0 site s' ((es.drop off).take len ++ ys) cs e (0, 0) (.inl rfl) (by rw [hlen', r3]; exact Nat.mul_le_mul_right _ r2) (by rw [hlen', r4]; exact CRL.mono hE0 (o2.append hys))
                refine ⟨_, _, _, r1, hE0.trans hE, hR', ?_⟩
                have := VR_new (C' := ⟨C.F, updN C.μ site C.w.drew.heap.size, C.H.newRow site s' ((es.drop off).take len ++ ys), C.w.drew.alloc (.cells cs e)⟩)
                  (j := site) (es := (es.drop off).take len ++ ys) (s := s') (g := (C.H site).gen + 1) (cap' := cap2) (len := len + ys.length) (by simp [Heap.newRow]) (by simp) (heap_alloc_new _ _) (by omega) (by omega) (by omega) (by omega) (r := true) rfl (t := true)
                rw [hlen'] at this
                exact this
              · simp at h
        · simp at h
  · simp at h
theorem eltInfo {e : TypeId} {s : Nat} {z : AV} (h : elemInfo P e = some (s, z)) : ∃ i z', P.info? e = some i ∧ i.size = s ∧ i.bytes ≤ 1024 ∧ 0 < i.bytes ∧ i.zero = some z' ∧ z'.cells.size = s ∧ cvt z' = some z ∧ z.cells.length = s ∧ storable z = true := by
  obtain ⟨i, z', i1, i2, i3, i4, i5, i6, i7, i8, i9, i10⟩ := elemInfo_some h
  exact ⟨i, z', i1, i4, i7, i6, i2, i9, i3, i8, i10⟩

/-- What a slice, a text shows, as what is put behind. -/
theorem behind_elems {u e : TypeId} {s : Nat} {y : AV} {y' : Value} {ys : List AV} {js : List Nat} (hR : Rel C) (hs : 0 < s) (hy : VR C true true y y') (h : elemsOf C.H s y = some (ys, js))
    (hu : (∃ e', P.underlying u = some (.slice e')) ∨ P.underlying u = some .string) : ∃ vs, Behind P C.w u e s y' ys.length vs ∧ CRL C true true s ys vs := by
  rcases elemsOf_ok hR hy h with ⟨ad, cap, vs, rfl, hc, hm⟩ | ⟨b, rfl, hs1, rfl⟩
  · have hl := CRL.length hc
    refine ⟨vs, ⟨hl, CRL.one hc, .inr ⟨hu, fun w' hw' => ⟨by simp [Builtin.lenOf], ?_⟩⟩⟩, hc⟩
    by_cases hne : ys = []
    · subst hne
      simp only [CRL] at hc
      subst hc
      cases ad <;> simp [Builtin.firstCells, loadCells, loadCellsFrom]
    · obtain ⟨b, off, rfl, hrow⟩ := hm hne
      have hrow' : rowAt w' b off vs := fun i v hv => by
        rw [cell?_of_block (w := C.w) (by rw [hw'])]; exact hrow i v hv
      have := run_loadRow (P := P) w' hrow'
      rw [hl] at this
      simpa [Builtin.firstCells] using this
  · subst hs1
    have hbs : b.data.toList.length = b.size := by rw [Array.length_toList]; rfl
    refine ⟨b.data.toList.map fun c => Value.int .u8 c.toNat, ⟨by simp, ?_, .inr ⟨hu, fun w' hw' => ⟨by simp [Builtin.lenOf], ?_⟩⟩⟩, CRL_bytes _⟩
    · intro x hx
      simp only [List.mem_map] at hx
      obtain ⟨c, _, rfl⟩ := hx
      rfl
    · rw [List.length_map, hbs]
      have e1 : b.extract 0 b.size = b := by simp
      simp only [Builtin.firstCells, e1, Sem.run_pure]
      congr 1
      apply Array.ext'
      simp

theorem ok_app {t u e : TypeId} {x y : Operand} {sx sy : SArg} {c : Call} {site s : Nat} {z : AV} (ho : o.op = .call c) (hc : c.callee = .builtin .append) (hts : c.argTypes = #[t, u]) (hxs : c.args = #[x, y])
    (hu : elemOf? P t = some e) (hi : elemInfo P e = some (s, z)) (hui : (∃ e', P.underlying u = some (.slice e')) ∨ P.underlying u = some .string)
    (hR : Rel C) (hT : TR C n T a.tmps) (hx : sarg x = some sx) (hy : sarg y = some sy)
    (h : aop cf xf base T C.H (.app site s sx sy) = some (v, H', fp)) : StepOk P o a C v H' := by
  obtain ⟨i, z', i1, i2, i3, i4, i5, i6, i7, i8, i9⟩ := eltInfo hi
  obtain ⟨_, _, _, _, _, _, hs0, _⟩ := elemInfo_some hi
  simp only [aop, aappend] at h
  cases e1 : elemsOf C.H s (sy.ev T) with
  | none => simp [e1] at h
  | some p =>
    obtain ⟨ys, js⟩ := p
    simp only [e1, Option.bind_eq_bind, Option.bind_some, absorb] at h
    split at h
    · simp only [Option.bind_some] at h
      cases e2 : appendTo C.H (base + site) s (sx.ev T) ys with
      | none => simp [e2] at h
      | some q =>
        obtain ⟨v2, H2, f2⟩ := q
        simp only [e2, Option.bind_some, Option.some.injEq, Prod.mk.injEq] at h
        obtain ⟨rfl, rfl, _⟩ := h
        obtain ⟨vs, hB, hcr⟩ := behind_elems (P := P) (u := u) (e := e) hR hs0 (VR_arg hT hy) e1 hui
        obtain ⟨v', μ', w', r1, r2, r3, r4⟩ := appendTo_ok (P := P) (ty := o.type) hR (elemOf_some hu) i1 i2 i3 i4 i5 i6 (VR_arg hT hx) hB rfl hcr e2
        exact ⟨v', μ', w', .inl (by simp [exec_builtin ho hc, hts, hxs, builtin, r1]), r2, r3, r4⟩
    · simp at h

theorem ok_appZ {t u e : TypeId} {x y : Operand} {sx sy : SArg} {c : Call} {site s : Nat} {z : AV} (ho : o.op = .call c) (hc : c.callee = .builtin .append) (hts : c.argTypes = #[t, u]) (hxs : c.args = #[x, y])
    (hu : elemOf? P t = some e) (hi : elemInfo P e = some (s, z)) (hui : isInt P u = true)
    (hR : Rel C) (hT : TR C n T a.tmps) (hx : sarg x = some sx) (hy : sarg y = some sy)
    (h : aop cf xf base T C.H (.appZ site s z sx sy) = some (v, H', fp)) : StepOk P o a C v H' := by
  obtain ⟨i, z', i1, i2, i3, i4, i5, i6, i7, i8, i9⟩ := eltInfo hi
  simp only [aop] at h
  cases e1 : natOf (sy.ev T) with
  | none => simp [e1] at h
  | some m =>
    obtain ⟨k, hk⟩ := natOf_ok (VR_arg hT hy) e1
    simp only [e1, Option.bind_eq_bind, Option.bind_some] at h
    split at h
    · rename_i hcnd
      have hel := EL_of (C := C) (r := true) (t := true) i9 i8 (VR_cvt i7)
      have hB : Behind P C.w u e s (a.eval y) m (List.replicate m z'.cells.toList).flatten := by
        refine ⟨by simp [i6], ?_, .inl ⟨hui, k, hk, hcnd.1, i, z', i1, i5, rfl, i6⟩⟩
        intro x hx
        simp only [List.mem_flatten, List.mem_replicate] at hx
        obtain ⟨l, ⟨_, rfl⟩, hx⟩ := hx
        exact VRL.one hel.2 x hx
      obtain ⟨v', μ', w', r1, r2, r3, r4⟩ := appendTo_ok (P := P) (ty := o.type) hR (elemOf_some hu) i1 i2 i3 i4 i5 i6 (VR_arg hT hx) hB (by simp) (CRL.replicate hel m) h
      exact ⟨v', μ', w', .inl (by simp [exec_builtin ho hc, hts, hxs, builtin, r1]), r2, r3, r4⟩
    · simp at h

end ops
end Go.AI
