/- How one block's turn is carried over. -/
import Derived.Test.YtoanjhiojpgioaaA1
namespace Go.AI

def updN (μ : Nat → Nat) (j m : Nat) : Nat → Nat := fun i => if i = j then m else μ i

@[simp] theorem upd_same (H : Heap) (j : Nat) (b : Blk) : H.upd j b j = b := by simp [Heap.upd_eq]
theorem upd_ne (H : Heap) {i j : Nat} (b : Blk) (h : i ≠ j) : H.upd j b i = H i := by simp [Heap.upd_eq, h]
@[simp] theorem updN_same (μ : Nat → Nat) (j m : Nat) : updN μ j m j = m := by simp [updN]
theorem updN_ne (μ : Nat → Nat) {i j : Nat} (m : Nat) (h : i ≠ j) : updN μ j m i = μ i := by simp [updN, h]

theorem row_some {H : Heap} {j g ver s : Nat} {es : List AV} : H.row j g ver s = some es ↔ (H j).gen = g ∧ (H j).st = .row s es ∧ es.length = ver := by
  unfold Heap.row
  rcases hH : H j with ⟨g', ro, st⟩
  cases st with
  | row s' es' =>
    simp only
    constructor
    · intro h
      split at h
      · rename_i hc
        obtain ⟨rfl, h2, rfl⟩ := hc
        simp at h; subst h
        exact ⟨rfl, rfl, h2⟩
      · simp at h
    · rintro ⟨rfl, h2, h3⟩
      cases h2
      simp [h3]
  | dead => simp
  | map _ => simp

theorem rowW_some {H : Heap} {j g ver s : Nat} {es : List AV} : H.rowW j g ver s = some es ↔ H.row j g ver s = some es ∧ (H j).ro = false := by
  rw [row_some]
  unfold Heap.rowW
  rcases hH : H j with ⟨g', ro, st⟩
  cases st with
  | row s' es' =>
    cases ro with
    | true => simp
    | false =>
      simp only
      constructor
      · intro h
        split at h
        · rename_i hc
          obtain ⟨rfl, h2, rfl⟩ := hc
          simp at h; subst h
          exact ⟨⟨rfl, rfl, h2⟩, trivial⟩
        · simp at h
      · rintro ⟨⟨rfl, h2, h3⟩, _⟩
        cases h2
        simp [h3]
  | dead => simp
  | map _ => cases ro <;> simp

theorem mapAt_some {H : Heap} {j g : Nat} {es : List (Int × AV)} : H.mapAt j g = some es ↔ (H j).gen = g ∧ (H j).ro = false ∧ (H j).st = .map es := by
  unfold Heap.mapAt
  rcases hH : H j with ⟨g', ro, st⟩
  cases st with
  | map es' =>
    cases ro with
    | true => simp
    | false =>
      simp only
      constructor
      · intro h
        split at h
        · simp at h; subst h; simp_all
        · simp at h
      · rintro ⟨rfl, _, h2⟩
        cases h2; simp
  | dead => cases ro <;> simp
  | row _ _ => cases ro <;> simp

theorem live_row {b : Blk} {s : Nat} {es : List AV} (h : b.st = .row s es) (hne : es ≠ []) : b.live = true := by
  unfold Blk.live; rw [h]; cases es with
  | nil => exact absurd rfl hne
  | cons _ _ => rfl
theorem live_map {b : Blk} {es : List (Int × AV)} (h : b.st = .map es) : b.live = true := by unfold Blk.live; rw [h]
theorem mut_live {b : Blk} (h : b.mut = true) : b.live = true := by unfold Blk.mut at h; simp at h; exact h.1

theorem Rel.lt {C : Ctx} (h : Rel C) {j : Nat} (hl : (C.H j).live = true) : C.μ j < C.w.heap.size ∧ ¬ C.F (C.μ j) := by
  have hb := h.blk j
  unfold BR at hb
  unfold Blk.live at hl
  split at hb
  · obtain ⟨hF, c, el, fz, h2, _⟩ := hb
    exact ⟨(Array.getElem?_eq_some_iff.1 h2).1, hF⟩
  · obtain ⟨hF, c, el, h2, _⟩ := hb
    exact ⟨(Array.getElem?_eq_some_iff.1 h2).1, hF⟩
  · rename_i h1 h2
    split at hl
    · rename_i s e es hs; exact absurd hs (h1 s e es)
    · rename_i es hs; exact absurd hs (h2 es)
    · simp at hl

theorem upd_gen {C : Ctx} (hR : Rel C) (j : Nat) (b' : Blk) (m' : Nat) (w' : World)
    (hgen : (C.H j).gen ≤ b'.gen)
    (hrow : b'.gen = (C.H j).gen → ∀ s es, b'.st = .row s es → ∃ es0, (C.H j).st = .row s es0 ∧ es0.length ≤ es.length ∧ (es.length = es0.length → 0 < es.length → m' = C.μ j))
    (hmap : b'.gen = (C.H j).gen → ∀ es, b'.st = .map es → b'.ro = false → (∃ es0, (C.H j).st = .map es0) ∧ (C.H j).ro = false ∧ m' = C.μ j)
    (hsz : C.w.heap.size ≤ w'.heap.size)
    (hkeep : ∀ b, b < C.w.heap.size → ¬ ((C.H j).mut = true ∧ b = C.μ j) → w'.heap[b]? = C.w.heap[b]?)
    (hshape : ∀ b e n, C.w.shape? b = some (e, n) → w'.shape? b = some (e, n))
    (hown : b'.mut = true → (m' = C.μ j ∧ (C.H j).mut = true) ∨ C.w.heap.size ≤ m')
    (hlive : b'.live = true → (m' = C.μ j ∧ (C.H j).live = true) ∨ C.w.heap.size ≤ m')
    (hos : w'.os = C.w.os) (htape : w'.tape = C.w.tape) (hout : w'.output = C.w.output) :
    Evo C ⟨C.F, updN C.μ j m', C.H.upd j b', w'⟩ ∧ (BR ⟨C.F, updN C.μ j m', C.H.upd j b', w'⟩ j → Rel ⟨C.F, updN C.μ j m', C.H.upd j b', w'⟩) := by
  have hE : Evo C ⟨C.F, updN C.μ j m', C.H.upd j b', w'⟩ := by
    refine ⟨rfl, hsz, fun b hb hn => hkeep b hb fun ⟨h1, h2⟩ => hn ⟨j, h1, h2.symm⟩, ?_, ?_, ?_, ?_, hshape, hos, htape, hout⟩
    · rintro b ⟨i, h1, h2⟩
      by_cases hi : i = j
      · subst hi
        simp only [upd_same, updN_same] at h1 h2
        subst h2
        exact (hown h1).imp (fun ⟨e, hm⟩ => ⟨i, hm, e.symm⟩) id
      · simp only [upd_ne _ _ hi, updN_ne _ _ hi] at h1 h2
        exact .inl ⟨i, h1, h2⟩
    · rintro i g ver ⟨h1, h2⟩
      by_cases hi : i = j
      · subst hi
        unfold past
        simp only [upd_same]
        refine ⟨Nat.le_trans h1 hgen, fun hg s es hs => ?_⟩
        have hg' : b'.gen = (C.H i).gen := Nat.le_antisymm (hg ▸ h1) hgen
        obtain ⟨es0, k1, k2, _⟩ := hrow hg' s es hs
        exact Nat.le_trans (h2 (hg.trans hg') s es0 k1) k2
      · unfold past
        simp only [upd_ne _ _ hi]
        exact ⟨h1, h2⟩
    · intro i g ver s es' hp hr
      by_cases hi : i = j
      · subst hi
        rw [row_some] at hr
        simp only [upd_same] at hr
        obtain ⟨r1, r2, r3⟩ := hr
        obtain ⟨h1, h2⟩ := hp
        have hg' : b'.gen = (C.H i).gen := Nat.le_antisymm (r1 ▸ h1) hgen
        obtain ⟨es0, k1, k2, k3⟩ := hrow hg' s es' r2
        have hl : es0.length = ver := Nat.le_antisymm (r3 ▸ k2) (h2 (r1.symm.trans hg') s es0 k1)
        refine ⟨⟨es0, row_some.2 ⟨(hg'.symm.trans r1), k1, hl⟩⟩, fun hv => ?_⟩
        simp only [updN_same]
        exact k3 (r3.trans hl.symm) (r3 ▸ hv)
      · rw [row_some] at hr
        simp only [upd_ne _ _ hi] at hr
        exact ⟨⟨es', row_some.2 hr⟩, fun _ => updN_ne _ _ hi⟩
    · intro i g es' hp hr
      by_cases hi : i = j
      · subst hi
        rw [mapAt_some] at hr
        simp only [upd_same] at hr
        obtain ⟨r1, r2, r3⟩ := hr
        obtain ⟨h1, h2⟩ := hp
        have hg' : b'.gen = (C.H i).gen := Nat.le_antisymm (r1 ▸ h1) hgen
        obtain ⟨⟨es0, k1⟩, k2, k3⟩ := hmap hg' es' r3 r2
        exact ⟨⟨es0, mapAt_some.2 ⟨hg'.symm.trans r1, k2, k1⟩⟩, by simp only [updN_same]; exact k3⟩
      · rw [mapAt_some] at hr
        simp only [upd_ne _ _ hi] at hr
        exact ⟨⟨es', mapAt_some.2 hr⟩, updN_ne _ _ hi⟩
  refine ⟨hE, fun hbr => ⟨fun b hb => Nat.lt_of_lt_of_le (hR.fsz b hb) hsz, fun k => ?_, ?_⟩⟩
  · by_cases hk : k = j
    · subst hk; exact hbr
    · refine BR.mono hE (by simp only [upd_ne _ _ hk]) (fun _ => updN_ne _ _ hk) (fun hl => ?_) (hR.blk k)
      exact hkeep _ (hR.lt hl).1 fun ⟨h1, h2⟩ => hR.inj j k h1 hl (Ne.symm hk) h2.symm
  · intro i k h1 h2 hne
    by_cases hi : i = j
    · subst hi
      have hk : k ≠ i := Ne.symm hne
      simp only [upd_same, upd_ne _ _ hk, updN_same, updN_ne _ _ hk] at h1 h2 ⊢
      rcases hown h1 with ⟨e, hm⟩ | hs
      · rw [e]; exact hR.inj i k hm h2 hne
      · have := (hR.lt h2).1; omega
    · by_cases hk : k = j
      · subst hk
        simp only [upd_same, upd_ne _ _ hi, updN_same, updN_ne _ _ hi] at h1 h2 ⊢
        rcases hlive h2 with ⟨e, hl⟩ | hs
        · rw [e]; exact hR.inj i k h1 hl hne
        · have := (hR.lt (mut_live h1)).1; omega
      · simp only [upd_ne _ _ hi, upd_ne _ _ hk, updN_ne _ _ hi, updN_ne _ _ hk] at h1 h2 ⊢
        exact hR.inj i k h1 h2 hne

/-- A world whose blocks are the same. -/
theorem same_heap {C : Ctx} (hR : Rel C) (w' : World) (hh : w'.heap = C.w.heap) (hos : w'.os = C.w.os) (htape : w'.tape = C.w.tape) (hout : w'.output = C.w.output) :
    Evo C { C with w := w' } ∧ Rel { C with w := w' } := by
  have hE : Evo C { C with w := w' } :=
    ⟨rfl, by simp [hh], fun b _ _ => by simp [hh], fun b h => .inl h, fun _ _ _ h => h, fun _ _ _ _ es' _ h => ⟨⟨es', h⟩, fun _ => rfl⟩,
      fun _ _ es' _ h => ⟨⟨es', h⟩, rfl⟩, fun b e n h => by simpa [World.shape?, hh] using h, hos, htape, hout⟩
  exact ⟨hE, ⟨fun b hb => by simpa [hh] using hR.fsz b hb, fun j => BR.mono hE rfl (fun _ => rfl) (fun _ => by simp [hh]) (hR.blk j), hR.inj⟩⟩

theorem shape_alloc (w : World) (o : Obj) (b : Nat) (e : TypeId) (n : Nat) (h : w.shape? b = some (e, n)) : (w.alloc o).shape? b = some (e, n) := by
  unfold World.shape? at h ⊢
  have hb : b < w.heap.size := by
    rcases Nat.lt_or_ge b w.heap.size with h' | h'
    · exact h'
    · simp [Array.getElem?_eq_none h'] at h
  simp only [World.alloc, Array.getElem?_push, Nat.ne_of_lt hb, if_false]
  exact h

theorem heap_alloc_lt (w : World) (o : Obj) {b : Nat} (h : b < w.heap.size) : (w.alloc o).heap[b]? = w.heap[b]? := by
  simp only [World.alloc, Array.getElem?_push, Nat.ne_of_lt h, if_false]
theorem heap_alloc_new (w : World) (o : Obj) : (w.alloc o).heap[w.heap.size]? = some o := by
  show (w.heap.push o)[w.heap.size]? = some o
  simp

/-- A new row, its memory new. -/
theorem alloc_row {C : Ctx} (hR : Rel C) (j s : Nat) (es : List AV) (c : Array Value) (el : TypeId) (fz : Nat × Nat) (hf : unfrozen fz c.size)
    (hle : es.length * s ≤ c.size) (hc : CRL C true true s es (c.toList.take (es.length * s))) :
    Evo C ⟨C.F, updN C.μ j C.w.heap.size, C.H.newRow j s es, C.w.alloc (.cells c el fz)⟩ ∧ Rel ⟨C.F, updN C.μ j C.w.heap.size, C.H.newRow j s es, C.w.alloc (.cells c el fz)⟩ := by
  have hg : ¬ ((C.H j).gen + 1 = (C.H j).gen) := by omega
  obtain ⟨hE, hr⟩ := upd_gen hR j ⟨(C.H j).gen + 1, false, .row s es⟩ C.w.heap.size (C.w.alloc (.cells c el fz)) (by simp) (fun h => absurd h hg) (fun h => absurd h hg)
    (by simp) (fun b hb _ => heap_alloc_lt _ _ hb) (fun b e n h => shape_alloc _ _ _ _ _ h) (fun _ => .inr (Nat.le_refl _)) (fun _ => .inr (Nat.le_refl _)) rfl rfl rfl
  refine ⟨hE, hr ?_⟩
  unfold BR
  simp only [upd_same, updN_same]
  cases es with
  | nil => trivial
  | cons e es => exact ⟨fun hF => by have := hR.fsz _ hF; omega, c, el, fz, heap_alloc_new _ _, hf, hle, CRL.mono hE hc⟩

/-- A new row of nothing: whatever memory it has, or has not. -/
theorem nil_row {C : Ctx} (hR : Rel C) (j s : Nat) : Evo C { C with H := C.H.newRow j s [] } ∧ Rel { C with H := C.H.newRow j s [] } := by
  have hg : ¬ ((C.H j).gen + 1 = (C.H j).gen) := by omega
  have hμ : updN C.μ j (C.μ j) = C.μ := by funext i; by_cases h : i = j <;> simp [updN, h]
  obtain ⟨hE, hr⟩ := upd_gen hR j ⟨(C.H j).gen + 1, false, .row s []⟩ (C.μ j) C.w (by simp) (fun h => absurd h hg) (fun h => absurd h hg)
    (Nat.le_refl _) (fun b hb _ => rfl) (fun b e n h => h) (fun h => by simp [Blk.mut, Blk.live] at h) (fun h => by simp [Blk.live] at h) rfl rfl rfl
  rw [hμ] at hE hr
  exact ⟨hE, hr (by unfold BR; simp)⟩

/-- A row's elements turned in place, its memory turned with them. -/
theorem set_row {C : Ctx} (hR : Rel C) {j s : Nat} {es es' : List AV} (hst : (C.H j).st = .row s es) (hro : (C.H j).ro = false) (hlen : es'.length = es.length)
    {c c' : Array Value} {el : TypeId} {fz fz' : Nat × Nat} (w' : World)
    (hobj : es ≠ [] → C.w.heap[C.μ j]? = some (.cells c el fz)) (hf : unfrozen fz' c.size) (hc' : c'.size = c.size) (hle : es.length * s ≤ c.size)
    (hw : es ≠ [] → w'.heap = C.w.heap.modify (C.μ j) (fun _ => .cells c' el fz')) (hw0 : es = [] → w'.heap = C.w.heap)
    (hos : w'.os = C.w.os) (htape : w'.tape = C.w.tape) (hout : w'.output = C.w.output)
    (hc : CRL C true true s es' (c'.toList.take (es'.length * s))) :
    Evo C ⟨C.F, C.μ, C.H.setRow j s es', w'⟩ ∧ Rel ⟨C.F, C.μ, C.H.setRow j s es', w'⟩ := by
  have hμ : updN C.μ j (C.μ j) = C.μ := by funext i; by_cases h : i = j <;> simp [updN, h]
  have hne' : es' ≠ [] ↔ es ≠ [] := by rw [← List.length_pos_iff, ← List.length_pos_iff, hlen]
  have hsz : w'.heap.size = C.w.heap.size := by
    by_cases h : es = []
    · rw [hw0 h]
    · rw [hw h]; simp
  have hk : ∀ b, ¬ (es ≠ [] ∧ b = C.μ j) → w'.heap[b]? = C.w.heap[b]? := fun b hb => by
    by_cases h : es = []
    · rw [hw0 h]
    · rw [hw h, Array.getElem?_modify, if_neg (fun e => hb ⟨h, e.symm⟩)]
  have hmut : es ≠ [] → (C.H j).mut = true := fun h => by unfold Blk.mut; rw [live_row hst h, hro]; rfl
  obtain ⟨hE, hr⟩ := upd_gen hR j ⟨(C.H j).gen, false, .row s es'⟩ (C.μ j) w' (Nat.le_refl _)
    (fun _ s1 es1 h1 => by cases h1; exact ⟨es, hst, by omega, fun _ _ => rfl⟩) (fun _ es1 h1 => by simp at h1)
    (by omega) (fun b hb hn => hk b fun ⟨h1, h2⟩ => hn ⟨hmut h1, h2⟩)
    (fun b e n h => by
      by_cases hb : es ≠ [] ∧ b = C.μ j
      · obtain ⟨h1, rfl⟩ := hb
        have ho := hobj h1
        unfold World.shape? at h ⊢
        rw [ho] at h
        rw [hw h1, Array.getElem?_modify, if_pos rfl, ho]
        simpa [hc'] using h
      · unfold World.shape? at h ⊢
        rw [hk b hb]; exact h)
    (fun h => .inl ⟨rfl, hmut (hne'.1 (fun h0 => by subst h0; simp [Blk.mut, Blk.live] at h))⟩)
    (fun h => .inl ⟨rfl, live_row hst (hne'.1 (fun h0 => by subst h0; simp [Blk.live] at h))⟩) hos htape hout
  rw [hμ] at hE hr
  refine ⟨hE, hr ?_⟩
  unfold BR
  simp only [upd_same]
  cases es' with
  | nil => trivial
  | cons e es1 =>
    have hne : es ≠ [] := hne'.1 (by simp)
    refine ⟨(hR.lt (live_row hst hne)).2, c', el, fz', ?_, by rw [hc']; exact hf, by rw [hlen, hc']; exact hle, CRL.mono hE hc⟩
    rw [hw hne, Array.getElem?_modify, if_pos rfl, hobj hne]; rfl

/-- Elements put behind a row: in new memory. -/
theorem push_new {C : Ctx} (hR : Rel C) {j s : Nat} {es es' : List AV} (hst : (C.H j).st = .row s es) (hlen : es.length < es'.length)
    (c : Array Value) (el : TypeId) (fz : Nat × Nat) (hf : unfrozen fz c.size)
    (hle : es'.length * s ≤ c.size) (hc : CRL C true true s es' (c.toList.take (es'.length * s))) :
    Evo C ⟨C.F, updN C.μ j C.w.heap.size, C.H.setRow j s es', C.w.alloc (.cells c el fz)⟩ ∧ Rel ⟨C.F, updN C.μ j C.w.heap.size, C.H.setRow j s es', C.w.alloc (.cells c el fz)⟩ := by
  obtain ⟨hE, hr⟩ := upd_gen hR j ⟨(C.H j).gen, false, .row s es'⟩ C.w.heap.size (C.w.alloc (.cells c el fz)) (Nat.le_refl _)
    (fun _ s1 es1 h1 => by cases h1; exact ⟨es, hst, by omega, fun h _ => by omega⟩) (fun _ es1 h1 => by simp at h1)
    (by simp) (fun b hb _ => heap_alloc_lt _ _ hb) (fun b e n h => shape_alloc _ _ _ _ _ h) (fun _ => .inr (Nat.le_refl _)) (fun _ => .inr (Nat.le_refl _)) rfl rfl rfl
  refine ⟨hE, hr ?_⟩
  unfold BR
  simp only [upd_same, updN_same]
  cases es' with
  | nil => trivial
  | cons e es => exact ⟨fun hF => by have := hR.fsz _ hF; omega, c, el, fz, heap_alloc_new _ _, hf, hle, CRL.mono hE hc⟩

/-- Elements put behind a row: in the room that it has. -/
theorem push_room {C : Ctx} (hR : Rel C) {j s : Nat} {es es' : List AV} (hst : (C.H j).st = .row s es) (hro : (C.H j).ro = false) (hne : es ≠ []) (hlen : es.length ≤ es'.length)
    {c c' : Array Value} {el : TypeId} {fz : Nat × Nat} (w' : World)
    (hobj : C.w.heap[C.μ j]? = some (.cells c el fz)) (hf : unfrozen fz c.size) (hc' : c'.size = c.size) (hle : es'.length * s ≤ c.size)
    (hw : w'.heap = C.w.heap.modify (C.μ j) (fun _ => .cells c' el fz))
    (hos : w'.os = C.w.os) (htape : w'.tape = C.w.tape) (hout : w'.output = C.w.output)
    (hc : CRL C true true s es' (c'.toList.take (es'.length * s))) :
    Evo C ⟨C.F, C.μ, C.H.setRow j s es', w'⟩ ∧ Rel ⟨C.F, C.μ, C.H.setRow j s es', w'⟩ := by
  have hμ : updN C.μ j (C.μ j) = C.μ := by funext i; by_cases h : i = j <;> simp [updN, h]
  have hsz : w'.heap.size = C.w.heap.size := by rw [hw]; simp
  have hk : ∀ b, b ≠ C.μ j → w'.heap[b]? = C.w.heap[b]? := fun b hb => by rw [hw, Array.getElem?_modify, if_neg (Ne.symm hb)]
  have hl := live_row hst hne
  have hmut : (C.H j).mut = true := by unfold Blk.mut; rw [hl, hro]; rfl
  obtain ⟨hE, hr⟩ := upd_gen hR j ⟨(C.H j).gen, false, .row s es'⟩ (C.μ j) w' (Nat.le_refl _)
    (fun _ s1 es1 h1 => by cases h1; exact ⟨es, hst, by omega, fun _ _ => rfl⟩) (fun _ es1 h1 => by simp at h1)
    (by omega) (fun b hb hn => hk b fun h2 => hn ⟨hmut, h2⟩)
    (fun b e n h => by
      by_cases hb : b = C.μ j
      · subst hb
        unfold World.shape? at h ⊢
        rw [hobj] at h
        rw [hw, Array.getElem?_modify, if_pos rfl, hobj]
        simpa [hc'] using h
      · unfold World.shape? at h ⊢
        rw [hk b hb]; exact h)
    (fun h => .inl ⟨rfl, hmut⟩) (fun h => .inl ⟨rfl, hl⟩) hos htape hout
  rw [hμ] at hE hr
  refine ⟨hE, hr ?_⟩
  unfold BR
  simp only [upd_same]
  cases es' with
  | nil => trivial
  | cons e es1 =>
    refine ⟨(hR.lt hl).2, c', el, fz, ?_, by rw [hc']; exact hf, by rw [hc']; exact hle, CRL.mono hE hc⟩
    rw [hw, Array.getElem?_modify, if_pos rfl, hobj]; rfl

/-- A block that is nobody's any more, or may not be written any more. -/
theorem set_ro {C : Ctx} (hR : Rel C) (j : Nat) : Evo C { C with H := C.H.upd j ⟨(C.H j).gen, true, (C.H j).st⟩ } ∧ Rel { C with H := C.H.upd j ⟨(C.H j).gen, true, (C.H j).st⟩ } := by
  have hμ : updN C.μ j (C.μ j) = C.μ := by funext i; by_cases h : i = j <;> simp [updN, h]
  obtain ⟨hE, hr⟩ := upd_gen hR j ⟨(C.H j).gen, true, (C.H j).st⟩ (C.μ j) C.w (Nat.le_refl _)
    (fun _ s1 es1 h1 => ⟨es1, h1, Nat.le_refl _, fun _ _ => rfl⟩) (fun _ es1 h1 h2 => by simp at h2)
    (Nat.le_refl _) (fun b hb _ => rfl) (fun b e n h => h) (fun h => by simp [Blk.mut] at h) (fun h => .inl ⟨rfl, by simpa [Blk.live] using h⟩) rfl rfl rfl
  rw [hμ] at hE hr
  refine ⟨hE, hr ?_⟩
  exact BR.mono hE (by simp) (fun _ => rfl) (fun _ => rfl) (hR.blk j)

theorem kill {C : Ctx} (hR : Rel C) (j : Nat) : Evo C { C with H := C.H.upd j ⟨(C.H j).gen, false, .dead⟩ } ∧ Rel { C with H := C.H.upd j ⟨(C.H j).gen, false, .dead⟩ } := by
  have hμ : updN C.μ j (C.μ j) = C.μ := by funext i; by_cases h : i = j <;> simp [updN, h]
  obtain ⟨hE, hr⟩ := upd_gen hR j ⟨(C.H j).gen, false, .dead⟩ (C.μ j) C.w (Nat.le_refl _)
    (fun _ s1 es1 h1 => by simp at h1) (fun _ es1 h1 h2 => by simp at h1)
    (Nat.le_refl _) (fun b hb _ => rfl) (fun b e n h => h) (fun h => by simp [Blk.mut, Blk.live] at h) (fun h => by simp [Blk.live] at h) rfl rfl rfl
  rw [hμ] at hE hr
  exact ⟨hE, hr (by unfold BR; simp)⟩

end Go.AI
