/- Lists of values; what is turned to values. -/
import Derived.Test.YtoanjhiojpgioaaA2
namespace Go.AI

section lists
variable {C : Ctx} {r t : Bool}

theorem VRL.length : ∀ {as : List AV} {vs : List Value}, VRL C r t as vs → vs.length = as.length
  | [], _, h => by simp only [VRL] at h; simp [h]
  | a :: as, _, h => by
    simp only [VRL] at h
    obtain ⟨v, vs', rfl, _, _, h⟩ := h
    simp [VRL.length h]

theorem VRL.one : ∀ {as : List AV} {vs : List Value}, VRL C r t as vs → ∀ u ∈ vs, u.oneCell' = true
  | [], _, h => by simp only [VRL] at h; simp [h]
  | a :: as, _, h => by
    simp only [VRL] at h
    obtain ⟨v, vs', rfl, h1, _, h⟩ := h
    intro u hu
    rcases List.mem_cons.1 hu with rfl | hu
    · exact h1
    · exact VRL.one h u hu

theorem VRL.get : ∀ {as : List AV} {vs : List Value} (i : Nat) {a : AV}, VRL C r t as vs → as[i]? = some a → ∃ v, vs[i]? = some v ∧ v.oneCell' = true ∧ VR C r t a v
  | [], _, i, _, _, ha => by simp at ha
  | a :: as, _, 0, _, h, ha => by
    simp only [VRL] at h
    obtain ⟨v, vs', rfl, h1, h2, _⟩ := h
    simp at ha; subst ha
    exact ⟨v, by simp, h1, h2⟩
  | a :: as, _, i + 1, _, h, ha => by
    simp only [VRL] at h
    obtain ⟨v, vs', rfl, _, _, h⟩ := h
    simp at ha
    obtain ⟨v', h1, h2⟩ := VRL.get i h ha
    exact ⟨v', by simpa using h1, h2⟩

theorem VRT.length : ∀ {as : List AV} {vs : List Value}, VRT C r t as vs → vs.length = as.length
  | [], _, h => by simp only [VRT] at h; simp [h]
  | a :: as, _, h => by
    simp only [VRT] at h
    obtain ⟨v, vs', rfl, _, h⟩ := h
    simp [VRT.length h]

theorem VRT.get : ∀ {as : List AV} {vs : List Value} (i : Nat) {a : AV}, VRT C r t as vs → as[i]? = some a → ∃ v, vs[i]? = some v ∧ VR C r t a v
  | [], _, i, _, _, ha => by simp at ha
  | a :: as, _, 0, _, h, ha => by
    simp only [VRT] at h
    obtain ⟨v, vs', rfl, h2, _⟩ := h
    simp at ha; subst ha
    exact ⟨v, by simp, h2⟩
  | a :: as, _, i + 1, _, h, ha => by
    simp only [VRT] at h
    obtain ⟨v, vs', rfl, _, h⟩ := h
    simp at ha
    obtain ⟨v', h1, h2⟩ := VRT.get i h ha
    exact ⟨v', by simpa using h1, h2⟩

theorem VRT.append : ∀ {as bs : List AV} {vs us : List Value}, VRT C r t as vs → VRT C r t bs us → VRT C r t (as ++ bs) (vs ++ us)
  | [], _, _, _, h, k => by simp only [VRT] at h; subst h; simpa using k
  | a :: as, _, _, _, h, k => by
    simp only [VRT] at h
    obtain ⟨v, vs', rfl, h2, h⟩ := h
    simp only [List.cons_append, VRT]
    exact ⟨v, _, rfl, h2, VRT.append h k⟩

theorem VRL.append : ∀ {as bs : List AV} {vs us : List Value}, VRL C r t as vs → VRL C r t bs us → VRL C r t (as ++ bs) (vs ++ us)
  | [], _, _, _, h, k => by simp only [VRL] at h; subst h; simpa using k
  | a :: as, _, _, _, h, k => by
    simp only [VRL] at h
    obtain ⟨v, vs', rfl, h1, h2, h⟩ := h
    simp only [List.cons_append, VRL]
    exact ⟨v, _, rfl, h1, h2, VRL.append h k⟩

theorem VRL.drop : ∀ {as : List AV} {vs : List Value} (n : Nat), VRL C r t as vs → VRL C r t (as.drop n) (vs.drop n)
  | _, _, 0, h => by simpa using h
  | [], _, n + 1, h => by simp only [VRL] at h; subst h; simp [VRL]
  | a :: as, _, n + 1, h => by
    simp only [VRL] at h
    obtain ⟨v, vs', rfl, _, _, h⟩ := h
    simpa using VRL.drop n h

theorem VRL.take : ∀ {as : List AV} {vs : List Value} (n : Nat), VRL C r t as vs → VRL C r t (as.take n) (vs.take n)
  | _, _, 0, h => by simp [VRL]
  | [], _, n + 1, h => by simp only [VRL] at h; subst h; simp [VRL]
  | a :: as, _, n + 1, h => by
    simp only [VRL] at h
    obtain ⟨v, vs', rfl, h1, h2, h⟩ := h
    simp only [List.take_succ_cons, VRL]
    exact ⟨v, _, rfl, h1, h2, VRL.take n h⟩

/-- An element against its cells. -/
def EL (C : Ctx) (r t : Bool) (s : Nat) (e : AV) (us : List Value) : Prop := e.cells.length = s ∧ VRL C r t e.cells us

theorem VR.cells {e : AV} {v : Value} (h : VR C r t e v) (h1 : ∀ u ∈ v.cells.toList, u.oneCell' = true) (hl : v.cells.toList.length = e.cells.length) : VRL C r t e.cells v.cells.toList := by
  cases e with
  | agg cs =>
    simp only [VR] at h
    obtain ⟨vs, rfl, h⟩ := h
    exact h
  | junk =>
    simp only [AV.cells, List.length_singleton] at hl ⊢
    obtain ⟨u, hu⟩ := List.length_eq_one_iff.1 hl
    rw [hu] at h1 ⊢
    simp only [VRL]
    exact ⟨u, [], rfl, h1 u (by simp), by simp [VR], rfl⟩
  | tup l =>
    simp only [VR] at h
    obtain ⟨vs, rfl, _⟩ := h
    have := h1 (.tuple vs) (by simp [Value.cells])
    simp [Value.oneCell'] at this
  | _ =>
    have hv := h
    simp only [VR] at h
    have : v.cells = #[v] := by
      unfold Value.cells
      split
      · simp_all [Go.undef]
      · rfl
    rw [this] at h1 ⊢
    simp only [AV.cells, VRL]
    exact ⟨v, [], by simp, h1 v (by simp), hv, rfl⟩

theorem VR.of_cells {e : AV} {us : List Value} (h : VRL C r t e.cells us) : ∃ v, VR C r t e v ∧ v.cells.toList = us := by
  have hone := VRL.one h
  cases e with
  | agg cs => exact ⟨.agg us.toArray, by simp only [VR]; exact ⟨us.toArray, rfl, by simpa [AV.cells] using h⟩, by simp [Value.cells]⟩
  | _ =>
    simp only [AV.cells, VRL] at h
    obtain ⟨v, vs', rfl, h1, h2, rfl⟩ := h
    refine ⟨v, h2, ?_⟩
    cases v <;> simp_all [Value.cells, Value.oneCell']

theorem crl_cons {s : Nat} {e : AV} {es : List AV} {vs : List Value} : CRL C r t s (e :: es) vs ↔ EL C r t s e (vs.take s) ∧ CRL C r t s es (vs.drop s) := by
  simp only [CRL, EL]
  constructor
  · rintro ⟨⟨h0, h5, v, h1, h2, h3⟩, h4⟩
    refine ⟨⟨h0, ?_⟩, h4⟩
    have hl : (vs.take s).length = s := by simp; omega
    rw [← h2] at h3 hl ⊢
    exact VR.cells h1 h3 (hl.trans h0.symm)
  · rintro ⟨⟨h0, h1⟩, h4⟩
    obtain ⟨v, h5, h6⟩ := VR.of_cells h1
    have := VRL.length h1
    simp only [List.length_take] at this
    exact ⟨⟨h0, by omega, v, h5, h6, VRL.one h1⟩, h4⟩

theorem EL.length {s : Nat} {e : AV} {us : List Value} (h : EL C r t s e us) : us.length = s := (VRL.length h.2).trans h.1

theorem CRL.length {s : Nat} : ∀ {es : List AV} {vs : List Value}, CRL C r t s es vs → vs.length = es.length * s
  | [], _, h => by simp only [CRL] at h; simp [h]
  | e :: es, vs, h => by
    rw [crl_cons] at h
    have h1 := EL.length h.1
    have h2 := CRL.length h.2
    simp only [List.length_take, List.length_drop, List.length_cons] at *
    rw [Nat.add_mul]; omega

theorem CRL.get {s : Nat} : ∀ {es : List AV} {vs : List Value} (i : Nat) {e : AV}, CRL C r t s es vs → es[i]? = some e → EL C r t s e ((vs.drop (i * s)).take s)
  | [], _, i, _, _, he => by simp at he
  | e :: es, vs, 0, _, h, he => by
    rw [crl_cons] at h
    simp at he; subst he
    simpa using h.1
  | e :: es, vs, i + 1, _, h, he => by
    rw [crl_cons] at h
    simp at he
    have := CRL.get i h.2 he
    rwa [List.drop_drop, show s + i * s = (i + 1) * s by rw [Nat.add_mul]; omega] at this

theorem CRL.append {s : Nat} : ∀ {es fs : List AV} {vs us : List Value}, CRL C r t s es vs → CRL C r t s fs us → CRL C r t s (es ++ fs) (vs ++ us)
  | [], _, _, _, h, k => by simp only [CRL] at h; subst h; simpa using k
  | e :: es, fs, vs, us, h, k => by
    have hl := CRL.length h
    rw [List.length_cons, Nat.add_mul] at hl
    rw [crl_cons] at h
    rw [List.cons_append, crl_cons, List.take_append_of_le_length (by omega), List.drop_append_of_le_length (by omega)]
    exact ⟨h.1, CRL.append h.2 k⟩

theorem CRL.drop {s : Nat} : ∀ {es : List AV} {vs : List Value} (n : Nat), CRL C r t s es vs → CRL C r t s (es.drop n) (vs.drop (n * s))
  | _, _, 0, h => by simpa using h
  | [], vs, n + 1, h => by simp only [CRL] at h; subst h; simp [CRL]
  | e :: es, vs, n + 1, h => by
    rw [crl_cons] at h
    have := CRL.drop n h.2
    rwa [List.drop_drop, show s + n * s = (n + 1) * s by rw [Nat.add_mul]; omega] at this

theorem CRL.take {s : Nat} : ∀ {es : List AV} {vs : List Value} (n : Nat), CRL C r t s es vs → CRL C r t s (es.take n) (vs.take (n * s))
  | _, _, 0, h => by simp [CRL]
  | [], vs, n + 1, h => by simp only [CRL] at h; subst h; simp [CRL]
  | e :: es, vs, n + 1, h => by
    rw [crl_cons] at h
    have := CRL.take n h.2
    rw [List.take_succ_cons, crl_cons, List.take_take, List.drop_take, Nat.add_mul, Nat.one_mul, Nat.add_sub_cancel, Nat.min_eq_left (by omega)]
    exact ⟨h.1, this⟩

theorem crl_single {s : Nat} {e : AV} {us : List Value} (h : EL C r t s e us) : CRL C r t s [e] us := by
  have hl := EL.length h
  rw [crl_cons, List.take_of_length_le (by omega), List.drop_of_length_le (by omega)]
  exact ⟨h, rfl⟩

theorem CRL.set {s : Nat} {es : List AV} {vs : List Value} (i : Nat) {e : AV} {us : List Value} (h : CRL C r t s es vs) (hi : i < es.length) (he : EL C r t s e us) :
    CRL C r t s (es.set i e) (vs.take (i * s) ++ us ++ vs.drop ((i + 1) * s)) := by
  rw [List.set_eq_take_append_cons_drop, if_pos hi, ← List.singleton_append, ← List.append_assoc]
  exact ((h.take i).append (crl_single he)).append (h.drop (i + 1))

theorem CRL.replicate {s : Nat} {e : AV} {us : List Value} (h : EL C r t s e us) : ∀ n, CRL C r t s (List.replicate n e) (List.replicate n us).flatten
  | 0 => by simp [CRL]
  | n + 1 => by
    rw [List.replicate_succ, List.replicate_succ, List.flatten_cons, ← List.singleton_append]
    exact (crl_single h).append (CRL.replicate h n)

theorem CRL.one {s : Nat} : ∀ {es : List AV} {vs : List Value}, CRL C r t s es vs → ∀ u ∈ vs, u.oneCell' = true
  | [], _, h => by simp only [CRL] at h; simp [h]
  | e :: es, vs, h => by
    rw [crl_cons] at h
    intro u hu
    rw [← List.take_append_drop s vs] at hu
    rcases List.mem_append.1 hu with hu | hu
    · exact VRL.one h.1.2 u hu
    · exact CRL.one h.2 u hu
end lists

section cast
variable {C D : Ctx}
mutual
/-- What names no block says the same of another state over the same world. -/
theorem VR.cast {t : Bool} (hw : D.w = C.w) (hI : ∀ tt b, (tt = true → t = true) → IB C tt b → IB D tt b) {r : Bool} : ∀ {a : AV} {v : Value}, a.norefs = true → VR C r t a v → VR D false t a v
  | .int _ _, _, _, hv => by simpa [VR] using hv
  | .bool _, _, _, hv => by simpa [VR] using hv
  | .str _, _, _, hv => by simpa [VR] using hv
  | .undef, _, _, hv => by simpa [VR] using hv
  | .junk, _, _, _ => by simp [VR]
  | .nilp, _, _, hv => by simpa [VR] using hv
  | .nilf, _, _, hv => by simpa [VR] using hv
  | .ptr j g ver s i off, _, h, _ => by simp [AV.norefs] at h
  | .slc j g ver s off len cap, _, h, _ => by simp [AV.norefs] at h
  | .mp j g, _, h, _ => by simp [AV.norefs] at h
  | .iptr tt cells, _, _, hv => by
    simp only [VR] at hv ⊢
    obtain ⟨h1, b, o, vs, h2, h3, h4, h5⟩ := hv
    exact ⟨h1, b, o, vs, h2, hI _ _ h1 h3, by rw [hw]; exact h4, VRL.castI hw (fun t' b h => hI t' b (fun h' => h1 (h h'))) h5⟩
  | .islc tt full s es, _, _, hv => by
    simp only [VR] at hv ⊢
    obtain ⟨h1, a, cap', h2, h3, h4, h5⟩ := hv
    refine ⟨h1, a, cap', h2, h3, h4, fun hne => ?_⟩
    obtain ⟨b, o, vs, k1, k2, k3, k4⟩ := h5 hne
    exact ⟨b, o, vs, k1, hI _ _ h1 k2, by rw [hw]; exact k3, CRL.castI hw (fun t' b h => hI t' b (fun h' => h1 (h h'))) k4⟩
  | .agg cs, _, h, hv => by
    simp only [VR, AV.norefs] at hv h ⊢
    obtain ⟨vs, h1, h2⟩ := hv
    exact ⟨vs, h1, VRL.cast hw hI h h2⟩
  | .tup cs, _, h, hv => by
    simp only [VR, AV.norefs] at hv h ⊢
    obtain ⟨vs, h1, h2⟩ := hv
    exact ⟨vs, h1, VRT.cast hw hI h h2⟩
  | .fn f cs, _, h, hv => by
    simp only [VR, AV.norefs] at hv h ⊢
    obtain ⟨vs, h1, h2⟩ := hv
    exact ⟨vs, h1, VRT.cast hw hI h h2⟩
theorem VRL.cast {t : Bool} (hw : D.w = C.w) (hI : ∀ tt b, (tt = true → t = true) → IB C tt b → IB D tt b) {r : Bool} : ∀ {as : List AV} {vs : List Value}, norefsL as = true → VRL C r t as vs → VRL D false t as vs
  | [], _, _, hv => by simpa [VRL] using hv
  | a :: as, _, h, hv => by
    simp only [VRL, norefsL, Bool.and_eq_true] at hv h ⊢
    obtain ⟨v, vs', h1, h2, h3, h4⟩ := hv
    exact ⟨v, vs', h1, h2, VR.cast hw hI h.1 h3, VRL.cast hw hI h.2 h4⟩
theorem VRT.cast {t : Bool} (hw : D.w = C.w) (hI : ∀ tt b, (tt = true → t = true) → IB C tt b → IB D tt b) {r : Bool} : ∀ {as : List AV} {vs : List Value}, norefsL as = true → VRT C r t as vs → VRT D false t as vs
  | [], _, _, hv => by simpa [VRT] using hv
  | a :: as, _, h, hv => by
    simp only [VRT, norefsL, Bool.and_eq_true] at hv h ⊢
    obtain ⟨v, vs', h1, h3, h4⟩ := hv
    exact ⟨v, vs', h1, VR.cast hw hI h.1 h3, VRT.cast hw hI h.2 h4⟩
theorem VR.castI {t : Bool} (hw : D.w = C.w) (hI : ∀ tt b, (tt = true → t = true) → IB C tt b → IB D tt b) : ∀ {a : AV} {v : Value}, VR C false t a v → VR D false t a v
  | .int _ _, _, hv => by simpa [VR] using hv
  | .bool _, _, hv => by simpa [VR] using hv
  | .str _, _, hv => by simpa [VR] using hv
  | .undef, _, hv => by simpa [VR] using hv
  | .junk, _, _ => by simp [VR]
  | .nilp, _, hv => by simpa [VR] using hv
  | .nilf, _, hv => by simpa [VR] using hv
  | .ptr j g ver s i off, _, h => by simp [VR] at h
  | .slc j g ver s off len cap, _, h => by simp [VR] at h
  | .mp j g, _, h => by simp [VR] at h
  | .iptr tt cells, _, hv => by
    simp only [VR] at hv ⊢
    obtain ⟨h1, b, o, vs, h2, h3, h4, h5⟩ := hv
    exact ⟨h1, b, o, vs, h2, hI _ _ h1 h3, by rw [hw]; exact h4, VRL.castI hw (fun t' b h => hI t' b (fun h' => h1 (h h'))) h5⟩
  | .islc tt full s es, _, hv => by
    simp only [VR] at hv ⊢
    obtain ⟨h1, a, cap', h2, h3, h4, h5⟩ := hv
    refine ⟨h1, a, cap', h2, h3, h4, fun hne => ?_⟩
    obtain ⟨b, o, vs, k1, k2, k3, k4⟩ := h5 hne
    exact ⟨b, o, vs, k1, hI _ _ h1 k2, by rw [hw]; exact k3, CRL.castI hw (fun t' b h => hI t' b (fun h' => h1 (h h'))) k4⟩
  | .agg cs, _, hv => by
    simp only [VR] at hv ⊢
    obtain ⟨vs, h1, h2⟩ := hv
    exact ⟨vs, h1, VRL.castI hw hI h2⟩
  | .tup cs, _, hv => by
    simp only [VR] at hv ⊢
    obtain ⟨vs, h1, h2⟩ := hv
    exact ⟨vs, h1, VRT.castI hw hI h2⟩
  | .fn f cs, _, hv => by
    simp only [VR] at hv ⊢
    obtain ⟨vs, h1, h2⟩ := hv
    exact ⟨vs, h1, VRT.castI hw hI h2⟩
theorem VRL.castI {t : Bool} (hw : D.w = C.w) (hI : ∀ tt b, (tt = true → t = true) → IB C tt b → IB D tt b) : ∀ {as : List AV} {vs : List Value}, VRL C false t as vs → VRL D false t as vs
  | [], _, hv => by simpa [VRL] using hv
  | a :: as, _, hv => by
    simp only [VRL] at hv ⊢
    obtain ⟨v, vs', h1, h2, h3, h4⟩ := hv
    exact ⟨v, vs', h1, h2, VR.castI hw hI h3, VRL.castI hw hI h4⟩
theorem VRT.castI {t : Bool} (hw : D.w = C.w) (hI : ∀ tt b, (tt = true → t = true) → IB C tt b → IB D tt b) : ∀ {as : List AV} {vs : List Value}, VRT C false t as vs → VRT D false t as vs
  | [], _, hv => by simpa [VRT] using hv
  | a :: as, _, hv => by
    simp only [VRT] at hv ⊢
    obtain ⟨v, vs', h1, h3, h4⟩ := hv
    exact ⟨v, vs', h1, VR.castI hw hI h3, VRT.castI hw hI h4⟩
theorem CRL.castI {t : Bool} {s : Nat} (hw : D.w = C.w) (hI : ∀ tt b, (tt = true → t = true) → IB C tt b → IB D tt b) : ∀ {as : List AV} {vs : List Value}, CRL C false t s as vs → CRL D false t s as vs
  | [], _, hv => by simpa [CRL] using hv
  | a :: as, _, hv => by
    simp only [CRL] at hv ⊢
    obtain ⟨⟨h0, h5, v, h1, h2, h3⟩, h4⟩ := hv
    exact ⟨⟨h0, h5, v, VR.castI hw hI h1, h2, h3⟩, CRL.castI hw hI h4⟩
end

mutual
theorem VR.weak {r r' t t' : Bool} (hr : r = true → r' = true) (ht : t = true → t' = true) : ∀ {a : AV} {v : Value}, VR C r t a v → VR C r' t' a v
  | .int _ _, _, hv => by simpa [VR] using hv
  | .bool _, _, hv => by simpa [VR] using hv
  | .str _, _, hv => by simpa [VR] using hv
  | .undef, _, hv => by simpa [VR] using hv
  | .junk, _, _ => by simp [VR]
  | .nilp, _, hv => by simpa [VR] using hv
  | .nilf, _, hv => by simpa [VR] using hv
  | .ptr j g ver s i off, _, h => by simp only [VR] at h ⊢; exact ⟨hr h.1, h.2⟩
  | .slc j g ver s off len cap, _, h => by simp only [VR] at h ⊢; exact ⟨hr h.1, h.2⟩
  | .mp j g, _, h => by simp only [VR] at h ⊢; exact ⟨hr h.1, h.2⟩
  | .iptr tt cells, _, hv => by
    simp only [VR] at hv ⊢
    exact ⟨fun h => ht (hv.1 h), hv.2⟩
  | .islc tt full s es, _, hv => by
    simp only [VR] at hv ⊢
    exact ⟨fun h => ht (hv.1 h), hv.2⟩
  | .agg cs, _, hv => by
    simp only [VR] at hv ⊢
    obtain ⟨vs, h1, h2⟩ := hv
    exact ⟨vs, h1, VRL.weak hr ht h2⟩
  | .tup cs, _, hv => by
    simp only [VR] at hv ⊢
    obtain ⟨vs, h1, h2⟩ := hv
    exact ⟨vs, h1, VRT.weak hr ht h2⟩
  | .fn f cs, _, hv => by
    simp only [VR] at hv ⊢
    obtain ⟨vs, h1, h2⟩ := hv
    exact ⟨vs, h1, VRT.weak hr ht h2⟩
theorem VRL.weak {r r' t t' : Bool} (hr : r = true → r' = true) (ht : t = true → t' = true) : ∀ {as : List AV} {vs : List Value}, VRL C r t as vs → VRL C r' t' as vs
  | [], _, hv => by simpa [VRL] using hv
  | a :: as, _, hv => by
    simp only [VRL] at hv ⊢
    obtain ⟨v, vs', h1, h2, h3, h4⟩ := hv
    exact ⟨v, vs', h1, h2, VR.weak hr ht h3, VRL.weak hr ht h4⟩
theorem VRT.weak {r r' t t' : Bool} (hr : r = true → r' = true) (ht : t = true → t' = true) : ∀ {as : List AV} {vs : List Value}, VRT C r t as vs → VRT C r' t' as vs
  | [], _, hv => by simpa [VRT] using hv
  | a :: as, _, hv => by
    simp only [VRT] at hv ⊢
    obtain ⟨v, vs', h1, h3, h4⟩ := hv
    exact ⟨v, vs', h1, VR.weak hr ht h3, VRT.weak hr ht h4⟩
end

theorem CRL.weak {r r' t t' : Bool} {s : Nat} (hr : r = true → r' = true) (ht : t = true → t' = true) : ∀ {as : List AV} {vs : List Value}, CRL C r t s as vs → CRL C r' t' s as vs
  | [], _, hv => by simpa [CRL] using hv
  | a :: as, _, hv => by
    rw [crl_cons] at hv ⊢
    exact ⟨⟨hv.1.1, VRL.weak hr ht hv.1.2⟩, CRL.weak hr ht hv.2⟩
end cast

theorem rowAt.drop {w : World} {b o : Nat} {vs : List Value} (n : Nat) (h : rowAt w b o vs) : rowAt w b (o + n) (vs.drop n) := fun i v hv => by
  rw [List.getElem?_drop] at hv
  have := h _ _ hv
  rwa [← Nat.add_assoc] at this
theorem rowAt.take {w : World} {b o : Nat} {vs : List Value} (n : Nat) (h : rowAt w b o vs) : rowAt w b o (vs.take n) := fun i v hv => by
  rw [List.getElem?_take] at hv
  split at hv
  · exact h _ _ hv
  · simp at hv

theorem rowAt_block {w : World} {b : Nat} {c : Array Value} {el : TypeId} {fz : Nat × Nat} (h : w.heap[b]? = some (.cells c el fz)) (n : Nat) : rowAt w b 0 (c.toList.take n) := fun i v hv => by
  rw [List.getElem?_take] at hv
  split at hv
  · simp only [World.cell?, h]
    simpa using hv
  · simp at hv

/-- A row that has elements: its memory. -/
theorem Rel.mem {C : Ctx} (hR : Rel C) {j s : Nat} {es : List AV} (hst : (C.H j).st = .row s es) (hne : es ≠ []) :
    ¬ C.F (C.μ j) ∧ ∃ c el fz, C.w.heap[C.μ j]? = some (.cells c el fz) ∧ RowOk C j s es c fz := by
  have := hR.blk j
  unfold BR at this
  cases es with
  | nil => exact absurd rfl hne
  | cons e es => rw [hst] at this; exact this

/-- What 'fz' makes of a value. -/
theorem fz_gen (out : Bool) {C D : Ctx} (hR : Rel C) (hw : D.w = C.w) (hI : ∀ tt b, (tt = true → (!out) = true) → IB C tt b → IB D tt b) (Q : Prop)
    (hrow : Q → ∀ j s es, (C.H j).st = .row s es → es ≠ [] → IB D (!out) (C.μ j)) :
    ∀ (n : Nat) {a : AV} {v : Value}, (Q ∨ a.norefs = true) → VR C true true a v → VR D false (!out) (fz out n C.H a) v ∧ (fz out n C.H a).cells.length = a.cells.length := by
  intro n
  induction n with
  | zero =>
    intro a v hq hv
    unfold fz
    split
    · rename_i hc
      simp only [Bool.and_eq_true, Bool.not_eq_true'] at hc
      obtain ⟨hn, rfl⟩ := hc
      exact ⟨VR.cast hw (fun tt b _ => hI tt b (fun _ => rfl)) hn hv, rfl⟩
    · rename_i hneg
      clear hneg
      cases a with
      | agg cs =>
        simp only [VR] at hv ⊢
        obtain ⟨vs, rfl, hv⟩ := hv
        refine ⟨⟨vs, rfl, ?_⟩, by simp [AV.cells]⟩
        clear hI hrow hq
        generalize vs.toList = us at hv
        induction cs generalizing us with
        | nil => simpa [VRL] using hv
        | cons c cs ih =>
          simp only [VRL] at hv
          obtain ⟨v, vs', rfl, k1, _, k2⟩ := hv
          simp only [List.map_cons, VRL]
          exact ⟨v, vs', rfl, k1, by simp [VR], ih _ k2⟩
      | _ => exact ⟨by simp [VR], by simp [AV.cells]⟩
  | succ n ih =>
    have hq2 : ∀ {a : AV} {as : List AV}, (Q ∨ norefsL (a :: as) = true) → (Q ∨ a.norefs = true) ∧ (Q ∨ norefsL as = true) := by
      intro a as h
      rcases h with h | h
      · exact ⟨.inl h, .inl h⟩
      · simp only [norefsL, Bool.and_eq_true] at h; exact ⟨.inr h.1, .inr h.2⟩
    have ihL : ∀ {as : List AV} {vs : List Value}, (Q ∨ norefsL as = true) → VRL C true true as vs → VRL D false (!out) (as.map (fz out n C.H)) vs := by
      intro as
      induction as with
      | nil => intro vs _ h; simpa [VRL] using h
      | cons a as iha =>
        intro vs hq h
        simp only [VRL] at h
        obtain ⟨v, vs', rfl, k1, k2, k3⟩ := h
        simp only [List.map_cons, VRL]
        exact ⟨v, vs', rfl, k1, (ih (hq2 hq).1 k2).1, iha (hq2 hq).2 k3⟩
    have ihT : ∀ {as : List AV} {vs : List Value}, (Q ∨ norefsL as = true) → VRT C true true as vs → VRT D false (!out) (as.map (fz out n C.H)) vs := by
      intro as
      induction as with
      | nil => intro vs _ h; simpa [VRT] using h
      | cons a as iha =>
        intro vs hq h
        simp only [VRT] at h
        obtain ⟨v, vs', rfl, k2, k3⟩ := h
        simp only [List.map_cons, VRT]
        exact ⟨v, vs', rfl, (ih (hq2 hq).1 k2).1, iha (hq2 hq).2 k3⟩
    have ihC : ∀ {s : Nat} {as : List AV} {vs : List Value}, (Q ∨ norefsL as = true) → CRL C true true s as vs → CRL D false (!out) s (as.map (fz out n C.H)) vs := by
      intro s as
      induction as with
      | nil => intro vs _ h; simpa [CRL] using h
      | cons a as iha =>
        intro vs hq h
        simp only [CRL] at h
        obtain ⟨⟨k0, k5, v, k1, k2, k3⟩, k4⟩ := h
        simp only [List.map_cons, CRL]
        exact ⟨⟨(ih (hq2 hq).1 k1).2.trans k0, k5, v, (ih (hq2 hq).1 k1).1, k2, k3⟩, iha (hq2 hq).2 k4⟩
    intro a v hq hv
    cases a with
    | ptr j g ver s i off =>
      have hq : Q := hq.resolve_right (by simp [AV.norefs])
      simp only [fz]
      split
      · rename_i es hes
        split
        · rename_i e he
          refine ⟨?_, by simp [AV.cells]⟩
          simp only [VR] at hv ⊢
          obtain ⟨_, _, a, rfl, hk⟩ := hv
          have hes' := row_some.1 hes
          have hi : i < es.length := (List.getElem?_eq_some_iff.1 he).1
          have hne : es ≠ [] := by intro h; subst h; simp at hi
          obtain ⟨_, c, el, fzz, hobj, hok⟩ := hR.mem hes'.2.1 hne
          rw [hk es hes (by omega)]
          have hel := CRL.get i hok.cells he
          refine ⟨fun h => h, C.μ j, i * s + off, _, rfl, hrow hq j s es hes'.2.1 hne, ?_, ihL (.inl hq) (VRL.drop off hel.2)⟩
          rw [hw]
          have hr := ((rowAt_block (w := C.w) hobj (es.length * s)).drop (i * s)).take s |>.drop off
          simpa using hr
        · exact ⟨by simp [VR], by simp [AV.cells]⟩
      · exact ⟨by simp [VR], by simp [AV.cells]⟩
    | slc j g ver s off len cap =>
      have hq : Q := hq.resolve_right (by simp [AV.norefs])
      simp only [fz]
      split
      · rename_i es hes
        split
        · rename_i hle
          refine ⟨?_, by simp [AV.cells]⟩
          simp only [VR] at hv ⊢
          obtain ⟨_, _, a, cap', rfl, hcap, hk⟩ := hv
          have hes' := row_some.1 hes
          obtain ⟨k1, k2, k3⟩ := hk es hes
          have hlen : (List.map (fz out n C.H) (List.take len (List.drop off es))).length = len := by simp; omega
          refine ⟨fun h => h, a, cap', by rw [hlen], by rw [hlen]; exact hcap, fun h => by simp at h, fun hne' => ?_⟩
          have hl : 0 < len := by
            rcases Nat.eq_zero_or_pos len with h | h
            · subst h; simp at hne'
            · exact h
          have hne : es ≠ [] := by intro h; subst h; simp at hes'; omega
          obtain ⟨_, c, el, fzz, hobj, hok⟩ := hR.mem hes'.2.1 hne
          obtain ⟨k4, _⟩ := k3 (by omega) (by omega)
          refine ⟨C.μ j, off * s, _, k4, hrow hq j s es hes'.2.1 hne, ?_, ihC (.inl hq) ((hok.cells.drop off).take len)⟩
          rw [hw]
          have hr := ((rowAt_block (w := C.w) hobj (es.length * s)).drop (off * s)).take (len * s)
          simpa using hr
        · exact ⟨by simp [VR], by simp [AV.cells]⟩
      · exact ⟨by simp [VR], by simp [AV.cells]⟩
    | iptr tt cs =>
      simp only [fz]
      split
      · exact ⟨by simp [VR], by simp [AV.cells]⟩
      · rename_i hc
        refine ⟨?_, by simp [AV.cells]⟩
        have ht : tt = true → (!out) = true := fun h => by subst h; simpa using hc
        simp only [VR] at hv ⊢
        obtain ⟨_, b, o, vs, k2, k3, k4, k5⟩ := hv
        exact ⟨ht, b, o, vs, k2, hI _ _ ht k3, by rw [hw]; exact k4, VRL.castI hw (fun t' b h => hI t' b (fun h' => ht (h h'))) k5⟩
    | islc tt full s es =>
      simp only [fz]
      split
      · exact ⟨by simp [VR], by simp [AV.cells]⟩
      · rename_i hc
        refine ⟨?_, by simp [AV.cells]⟩
        have ht : tt = true → (!out) = true := fun h => by subst h; simpa using hc
        simp only [VR] at hv ⊢
        obtain ⟨_, a, cap', k2, k3, k4, k5⟩ := hv
        refine ⟨ht, a, cap', k2, k3, k4, fun hne => ?_⟩
        obtain ⟨b, o, vs, m1, m2, m3, m4⟩ := k5 hne
        exact ⟨b, o, vs, m1, hI _ _ ht m2, by rw [hw]; exact m3, CRL.castI hw (fun t' b h => hI t' b (fun h' => ht (h h'))) m4⟩
    | agg cs =>
      simp only [fz, VR] at hv ⊢
      obtain ⟨vs, h1, h2⟩ := hv
      exact ⟨⟨vs, h1, ihL (by simpa [AV.norefs] using hq) h2⟩, by simp [AV.cells]⟩
    | tup cs =>
      simp only [fz, VR] at hv ⊢
      obtain ⟨vs, h1, h2⟩ := hv
      exact ⟨⟨vs, h1, ihT (by simpa [AV.norefs] using hq) h2⟩, by simp [AV.cells]⟩
    | fn f cs =>
      simp only [fz, VR] at hv ⊢
      obtain ⟨vs, h1, h2⟩ := hv
      exact ⟨⟨vs, h1, ihT (by simpa [AV.norefs] using hq) h2⟩, by simp [AV.cells]⟩
    | mp j g => exact ⟨by simp [fz, VR], by simp [fz, AV.cells]⟩
    | junk => exact ⟨by simp [fz, VR], by simp [fz]⟩
    | _ => exact ⟨by simpa [fz, VR] using hv, by simp [fz]⟩


theorem fz_ok (out : Bool) {C D : Ctx} (hR : Rel C) (hw : D.w = C.w) (h1 : ∀ b, Own D b → out = true ∧ C.F b) (h2 : ∀ b, D.F b → C.F b ∨ (out = false ∧ Own C b))
    (n : Nat) {a : AV} {v : Value} (hv : VR C true true a v) : VR D false (!out) (fz out n C.H a) v := by
  have hI : ∀ tt b, (tt = true → (!out) = true) → IB C tt b → IB D tt b := by
    intro tt b ht ⟨a1, a2, a3⟩
    refine ⟨by rw [hw]; exact a1, fun ho => ?_, fun htt hF => ?_⟩
    · obtain ⟨e1, e2⟩ := h1 b ho
      subst e1
      cases tt with
      | false => exact a3 rfl e2
      | true => simp at ht
    · rcases h2 b hF with e | ⟨_, e⟩
      · exact a3 htt e
      · exact a2 e
  have hrow : ∀ j s es, (C.H j).st = .row s es → es ≠ [] → IB D (!out) (C.μ j) := by
    intro j s es hst hne
    have hl := hR.lt (live_row hst hne)
    refine ⟨by rw [hw]; exact hl.1, fun ho => hl.2 (h1 _ ho).2, fun htt hF => ?_⟩
    rcases h2 _ hF with e | ⟨e, _⟩
    · exact hl.2 e
    · subst e; simp at htt
  exact (fz_gen out hR hw hI True (fun _ => hrow) n (.inl trivial) hv).1

theorem fz_okT (out : Bool) {C D : Ctx} (hR : Rel C) (hw : D.w = C.w) (h1 : ∀ b, Own D b → out = true ∧ C.F b) (h2 : ∀ b, D.F b → C.F b ∨ (out = false ∧ Own C b))
    (n : Nat) : ∀ {as : List AV} {vs : List Value}, VRT C true true as vs → VRT D false (!out) (as.map (fz out n C.H)) vs
  | [], _, h => by simpa [VRT] using h
  | a :: as, _, h => by
    simp only [VRT] at h
    obtain ⟨v, vs', rfl, k2, k3⟩ := h
    simp only [List.map_cons, VRT]
    exact ⟨v, vs', rfl, fz_ok out hR hw h1 h2 n k2, fz_okT out hR hw h1 h2 n k3⟩

theorem norefsL_mem : ∀ {as : List AV}, norefsL as = true → ∀ a ∈ as, a.norefs = true
  | [], _, a, ha => by simp at ha
  | b :: as, h, a, ha => by
    simp only [norefsL, Bool.and_eq_true] at h
    rcases List.mem_cons.1 ha with rfl | ha
    · exact h.1
    · exact norefsL_mem h.2 a ha

end Go.AI
