/- The abstract interpreter's states against the model's: the relation, and what may change under it. -/
import Derived.Test.YtoanjhiojpgioaaA0
import Derived.Laws.Cells
import Derived.Laws.Tables
import Derived.Laws.Rows
namespace Go.AI

def Blk.live (b : Blk) : Bool :=
  match b.st with
  | .row _ (_ :: _) => true
  | .map _ => true
  | _ => false
def Blk.mut (b : Blk) : Bool := b.live && !b.ro

structure Ctx where
  F : Nat → Prop
  μ : Nat → Nat
  H : Heap
  w : World

def Own (C : Ctx) (b : Nat) : Prop := ∃ j, (C.H j).mut = true ∧ C.μ j = b
def IB (C : Ctx) (t : Bool) (b : Nat) : Prop := b < C.w.heap.size ∧ ¬ Own C b ∧ (t = false → ¬ C.F b)
def rowAt (w : World) (b o : Nat) (vs : List Value) : Prop := ∀ i v, vs[i]? = some v → w.cell? ⟨b, o + i, none⟩ = some v

/-- A name that is not of a later time than the heap. -/
def past (H : Heap) (j g ver : Nat) : Prop := g ≤ (H j).gen ∧ (g = (H j).gen → ∀ s es, (H j).st = .row s es → ver ≤ es.length)

def SlcOk (C : Ctx) (j ver s off : Nat) (cap : Option Nat) (a : Option Addr) (cap' : Nat) : Prop :=
  (ver = 0 → cap' = 0) ∧ (match cap with | none => ver - off ≤ cap' | some c => cap' = c) ∧
    (off < ver → 0 < cap' → a = some ⟨C.μ j, off * s, none⟩ ∧ ∃ e n, C.w.shape? (C.μ j) = some (e, n) ∧ (off + cap') * s ≤ n)

mutual
def VR (C : Ctx) (r t : Bool) : AV → Value → Prop
  | .int k n, v => v = .int k n
  | .bool b, v => v = .bool b
  | .str s, v => v = .string s
  | .undef, v => v = Go.undef
  | .junk, _ => True
  | .nilp, v => v = .pointer none
  | .nilf, v => v = .nilFunc
  | .ptr j g ver s i off, v => r = true ∧ past C.H j g ver ∧ ∃ a, v = .pointer (some a) ∧
      (∀ es, C.H.row j g ver s = some es → i < ver → a = ⟨C.μ j, i * s + off, none⟩)
  | .iptr tt cells, v => (tt = true → t = true) ∧ ∃ b o vs, v = .pointer (some ⟨b, o, none⟩) ∧ IB C tt b ∧ rowAt C.w b o vs ∧ VRL C false tt cells vs
  | .slc j g ver s off len cap, v => r = true ∧ past C.H j g ver ∧ ∃ a cap', v = .slice a len cap' ∧ len ≤ cap' ∧
      (∀ es, C.H.row j g ver s = some es → SlcOk C j ver s off cap a cap')
  | .islc tt full s es, v => (tt = true → t = true) ∧ ∃ a cap', v = .slice a es.length cap' ∧ es.length ≤ cap' ∧ (full = true → cap' = es.length) ∧
      (es ≠ [] → ∃ b o vs, a = some ⟨b, o, none⟩ ∧ IB C tt b ∧ rowAt C.w b o vs ∧ CRL C false tt s es vs)
  | .agg cs, v => ∃ vs : Array Value, v = .agg vs ∧ VRL C r t cs vs.toList
  | .tup cs, v => ∃ vs : Array Value, v = .tuple vs ∧ VRT C r t cs vs.toList
  | .fn f cs, v => ∃ vs : Array Value, v = .func (.func f) #[] vs ∧ VRT C r t cs vs.toList
  | .mp j g, v => r = true ∧ past C.H j g 0 ∧ ∃ b, v = .map (some b) ∧ (∀ es, C.H.mapAt j g = some es → b = C.μ j)
def VRL (C : Ctx) (r t : Bool) : List AV → List Value → Prop
  | [], vs => vs = []
  | a :: as, vs => ∃ v vs', vs = v :: vs' ∧ v.oneCell' = true ∧ VR C r t a v ∧ VRL C r t as vs'
def VRT (C : Ctx) (r t : Bool) : List AV → List Value → Prop
  | [], vs => vs = []
  | a :: as, vs => ∃ v vs', vs = v :: vs' ∧ VR C r t a v ∧ VRT C r t as vs'
def CRL (C : Ctx) (r t : Bool) (s : Nat) : List AV → List Value → Prop
  | [], vs => vs = []
  | e :: es, vs => (e.cells.length = s ∧ s ≤ vs.length ∧ ∃ v, VR C r t e v ∧ v.cells.toList = vs.take s ∧ ∀ u ∈ vs.take s, u.oneCell' = true) ∧ CRL C r t s es (vs.drop s)
end

/-- What a step, a call, any number of them, leave of a state. -/
structure Evo (C C' : Ctx) : Prop where
  F : C'.F = C.F
  size : C.w.heap.size ≤ C'.w.heap.size
  keep : ∀ b, b < C.w.heap.size → ¬ Own C b → C'.w.heap[b]? = C.w.heap[b]?
  own : ∀ b, Own C' b → Own C b ∨ C.w.heap.size ≤ b
  pst : ∀ j g ver, past C.H j g ver → past C'.H j g ver
  row : ∀ j g ver s es', past C.H j g ver → C'.H.row j g ver s = some es' → (∃ es, C.H.row j g ver s = some es) ∧ (0 < ver → C'.μ j = C.μ j)
  map : ∀ j g es', past C.H j g 0 → C'.H.mapAt j g = some es' → (∃ es, C.H.mapAt j g = some es) ∧ C'.μ j = C.μ j
  shape : ∀ b e n, C.w.shape? b = some (e, n) → C'.w.shape? b = some (e, n)
  os : C'.w.os = C.w.os
  tape : C'.w.tape = C.w.tape
  output : C'.w.output = C.w.output

theorem Evo.refl (C : Ctx) : Evo C C :=
  ⟨rfl, Nat.le_refl _, fun _ _ _ => rfl, fun _ h => .inl h, fun _ _ _ h => h, fun _ _ _ _ es' _ h => ⟨⟨es', h⟩, fun _ => rfl⟩, fun _ _ es' _ h => ⟨⟨es', h⟩, rfl⟩, fun _ _ _ h => h, rfl, rfl, rfl⟩

theorem Evo.trans {A B C : Ctx} (h : Evo A B) (k : Evo B C) : Evo A C where
  F := k.F.trans h.F
  size := Nat.le_trans h.size k.size
  keep b hb ho := by
    have hb' : b < B.w.heap.size := Nat.lt_of_lt_of_le hb h.size
    rw [k.keep b hb' (fun hB => (h.own b hB).elim ho (by omega)), h.keep b hb ho]
  own b hb := (k.own b hb).elim (fun hB => h.own b hB) (fun hs => .inr (Nat.le_trans h.size hs))
  pst j g ver hp := k.pst _ _ _ (h.pst _ _ _ hp)
  row j g ver s es' hp hr := by
    obtain ⟨⟨es, h1⟩, h2⟩ := k.row j g ver s es' (h.pst _ _ _ hp) hr
    obtain ⟨h3, h4⟩ := h.row j g ver s es hp h1
    exact ⟨h3, fun hv => (h2 hv).trans (h4 hv)⟩
  map j g es' hp hr := by
    obtain ⟨⟨es, h1⟩, h2⟩ := k.map j g es' (h.pst _ _ _ hp) hr
    obtain ⟨h3, h4⟩ := h.map j g es hp h1
    exact ⟨h3, h2.trans h4⟩
  shape b e n hs := k.shape b e n (h.shape b e n hs)
  os := k.os.trans h.os
  tape := k.tape.trans h.tape
  output := k.output.trans h.output

theorem cell?_of_block {w w' : World} {a : Addr} (h : w'.heap[a.block]? = w.heap[a.block]?) : w'.cell? a = w.cell? a := by
  unfold World.cell?; rw [h]

theorem Evo.ib {C C' : Ctx} (h : Evo C C') {t : Bool} {b : Nat} (hb : IB C t b) : IB C' t b :=
  ⟨Nat.lt_of_lt_of_le hb.1 h.size, fun ho => (h.own b ho).elim hb.2.1 (by have := hb.1; omega), by rw [h.F]; exact hb.2.2⟩

theorem Evo.rowAt {C C' : Ctx} (h : Evo C C') {t : Bool} {b o : Nat} {vs : List Value} (hb : IB C t b) (hr : rowAt C.w b o vs) : rowAt C'.w b o vs :=
  fun i v hv => by rw [cell?_of_block (h.keep b hb.1 hb.2.1)]; exact hr i v hv

theorem Evo.slcOk {C C' : Ctx} (h : Evo C C') {j g ver s off : Nat} {cap : Option Nat} {a : Option Addr} {cap' : Nat} {es'}
    (hp : past C.H j g ver) (hr' : C'.H.row j g ver s = some es') (hk : ∀ es, C.H.row j g ver s = some es → SlcOk C j ver s off cap a cap') : SlcOk C' j ver s off cap a cap' := by
  obtain ⟨⟨es, h1⟩, h2⟩ := h.row j g ver s es' hp hr'
  obtain ⟨a1, a2, a3⟩ := hk es h1
  refine ⟨a1, a2, fun ho hc => ?_⟩
  obtain ⟨b1, e, n, b2, b3⟩ := a3 ho hc
  have hm := h2 (by omega)
  exact ⟨by rw [hm]; exact b1, e, n, by rw [hm]; exact h.shape _ _ _ b2, b3⟩

mutual
theorem VR.mono {C C' : Ctx} (h : Evo C C') {r t : Bool} : ∀ {a : AV} {v : Value}, VR C r t a v → VR C' r t a v
  | .int _ _, _, hv => by simpa [VR] using hv
  | .bool _, _, hv => by simpa [VR] using hv
  | .str _, _, hv => by simpa [VR] using hv
  | .undef, _, hv => by simpa [VR] using hv
  | .junk, _, _ => by simp [VR]
  | .nilp, _, hv => by simpa [VR] using hv
  | .nilf, _, hv => by simpa [VR] using hv
  | .ptr j g ver s i off, _, hv => by
    simp only [VR] at hv ⊢
    obtain ⟨h1, h2, a, h3, h4⟩ := hv
    refine ⟨h1, h.pst _ _ _ h2, a, h3, fun es' hr hi => ?_⟩
    obtain ⟨⟨es, hr0⟩, hm⟩ := h.row _ _ _ _ _ h2 hr
    rw [hm (by omega)]; exact h4 es hr0 hi
  | .iptr tt cells, _, hv => by
    simp only [VR] at hv ⊢
    obtain ⟨h1, b, o, vs, h2, h3, h4, h5⟩ := hv
    exact ⟨h1, b, o, vs, h2, h.ib h3, h.rowAt h3 h4, VRL.mono h h5⟩
  | .slc j g ver s off len cap, _, hv => by
    simp only [VR] at hv ⊢
    obtain ⟨h1, h2, a, cap', h3, h5, h4⟩ := hv
    exact ⟨h1, h.pst _ _ _ h2, a, cap', h3, h5, fun es' hr => h.slcOk h2 hr h4⟩
  | .islc tt full s es, _, hv => by
    simp only [VR] at hv ⊢
    obtain ⟨h1, a, cap', h2, h3, h4, h5⟩ := hv
    refine ⟨h1, a, cap', h2, h3, h4, fun hne => ?_⟩
    obtain ⟨b, o, vs, k1, k2, k3, k4⟩ := h5 hne
    exact ⟨b, o, vs, k1, h.ib k2, h.rowAt k2 k3, CRL.mono h k4⟩
  | .agg cs, _, hv => by
    simp only [VR] at hv ⊢
    obtain ⟨vs, h1, h2⟩ := hv
    exact ⟨vs, h1, VRL.mono h h2⟩
  | .tup cs, _, hv => by
    simp only [VR] at hv ⊢
    obtain ⟨vs, h1, h2⟩ := hv
    exact ⟨vs, h1, VRT.mono h h2⟩
  | .fn f cs, _, hv => by
    simp only [VR] at hv ⊢
    obtain ⟨vs, h1, h2⟩ := hv
    exact ⟨vs, h1, VRT.mono h h2⟩
  | .mp j g, _, hv => by
    simp only [VR] at hv ⊢
    obtain ⟨h1, h2, b, h3, h4⟩ := hv
    refine ⟨h1, h.pst _ _ _ h2, b, h3, fun es' hr => ?_⟩
    obtain ⟨⟨es, hr0⟩, hm⟩ := h.map _ _ _ h2 hr
    rw [hm]; exact h4 es hr0
theorem VRL.mono {C C' : Ctx} (h : Evo C C') {r t : Bool} : ∀ {as : List AV} {vs : List Value}, VRL C r t as vs → VRL C' r t as vs
  | [], _, hv => by simpa [VRL] using hv
  | a :: as, _, hv => by
    simp only [VRL] at hv ⊢
    obtain ⟨v, vs', h1, h2, h3, h4⟩ := hv
    exact ⟨v, vs', h1, h2, VR.mono h h3, VRL.mono h h4⟩
theorem VRT.mono {C C' : Ctx} (h : Evo C C') {r t : Bool} : ∀ {as : List AV} {vs : List Value}, VRT C r t as vs → VRT C' r t as vs
  | [], _, hv => by simpa [VRT] using hv
  | a :: as, _, hv => by
    simp only [VRT] at hv ⊢
    obtain ⟨v, vs', h1, h3, h4⟩ := hv
    exact ⟨v, vs', h1, VR.mono h h3, VRT.mono h h4⟩
theorem CRL.mono {C C' : Ctx} (h : Evo C C') {r t : Bool} {s : Nat} : ∀ {as : List AV} {vs : List Value}, CRL C r t s as vs → CRL C' r t s as vs
  | [], _, hv => by simpa [CRL] using hv
  | a :: as, _, hv => by
    simp only [CRL] at hv ⊢
    obtain ⟨⟨h0, h5, v, h1, h2, h3⟩, h4⟩ := hv
    exact ⟨⟨h0, h5, v, VR.mono h h1, h2, h3⟩, CRL.mono h h4⟩
end

def MapRel (C : Ctx) : List (Int × AV) → List MapEntry → Prop
  | [], es => es = []
  | (k, a) :: r, es => ∃ e es', es = e :: es' ∧ e.key = .int .i64 k ∧ VR C true true a e.val ∧ MapRel C r es'

theorem MapRel.mono {C C' : Ctx} (h : Evo C C') : ∀ {as : List (Int × AV)} {es : List MapEntry}, MapRel C as es → MapRel C' as es
  | [], _, hv => by simpa [MapRel] using hv
  | (k, a) :: as, _, hv => by
    simp only [MapRel] at hv ⊢
    obtain ⟨e, es', h1, h2, h3, h4⟩ := hv
    exact ⟨e, es', h1, h2, VR.mono h h3, MapRel.mono h h4⟩

def unfrozen (fz : Nat × Nat) (n : Nat) : Prop := fz.1 = fz.2 ∨ n ≤ fz.1
theorem unfrozen.not {fz : Nat × Nat} {n o : Nat} (h : unfrozen fz n) (ho : o < n) : ¬ (fz.1 ≤ o ∧ o < fz.2) := by
  unfold unfrozen at h; omega

/-- A row's cells. -/
structure RowOk (C : Ctx) (j s : Nat) (es : List AV) (c : Array Value) (fz : Nat × Nat) : Prop where
  uf : unfrozen fz c.size
  le : es.length * s ≤ c.size
  cells : CRL C true true s es (c.toList.take (es.length * s))

def BR (C : Ctx) (j : Nat) : Prop :=
  match (C.H j).st with
  | .row s (e :: es) => ¬ C.F (C.μ j) ∧ ∃ c el fz, C.w.heap[C.μ j]? = some (.cells c el fz) ∧ RowOk C j s (e :: es) c fz
  | .map es => ¬ C.F (C.μ j) ∧ ∃ ents clock, C.w.heap[C.μ j]? = some (.map ents clock) ∧ MapRel C es ents.toList
  | _ => True

structure Rel (C : Ctx) : Prop where
  fsz : ∀ b, C.F b → b < C.w.heap.size
  blk : ∀ j, BR C j
  inj : ∀ i j, (C.H i).mut = true → (C.H j).live = true → i ≠ j → C.μ i ≠ C.μ j

theorem BR.mono {C C' : Ctx} (h : Evo C C') {j : Nat} (hst : (C'.H j).st = (C.H j).st) (hm : (C.H j).live = true → C'.μ j = C.μ j)
    (hk : (C.H j).live = true → C'.w.heap[C.μ j]? = C.w.heap[C.μ j]?) (hb : BR C j) : BR C' j := by
  unfold BR at hb ⊢
  rw [hst]
  unfold Blk.live at hm hk
  split
  · rename_i s e es hs
    simp only [hs] at hb hm hk
    obtain ⟨h1, c, el, fz, h2, h3⟩ := hb
    rw [hm trivial]
    exact ⟨by rw [h.F]; exact h1, c, el, fz, by rw [hk trivial]; exact h2, h3.uf, h3.le, CRL.mono h h3.cells⟩
  · rename_i es hs
    simp only [hs] at hb hm hk
    obtain ⟨h1, ents, clock, h2, h3⟩ := hb
    rw [hm trivial]
    exact ⟨by rw [h.F]; exact h1, ents, clock, by rw [hk trivial]; exact h2, MapRel.mono h h3⟩
  · trivial

end Go.AI
