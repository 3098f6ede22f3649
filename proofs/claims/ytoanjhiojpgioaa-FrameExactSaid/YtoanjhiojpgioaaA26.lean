/- Arguments, as they come in, for the interpreter. -/
import Derived.Test.YtoanjhiojpgioaaA24
set_option linter.unusedSimpArgs false
set_option linter.unusedVariables false
namespace Go.AI
open Go.ChangeShapes Go.WideShapes Go.RowKit

section
variable {H : Type} {enc : TypeId × Value → H} {P : Program} {W : World}

/-- What is read as data of a type is a value of the interpreter. -/
def Opens (enc : TypeId × Value → H) (P : Program) (W : World) (t : TypeId) (A : Type) (av : A → List AV) (Q : A → Prop) : Prop :=
  ∀ fuel cs x, DataW.trod enc P W 0 (fun _ => true) true fuel t cs = some x → ∃ a, Q a ∧ VRL (start W) false false (av a) cs

theorem opens_map {t : TypeId} {A B : Type} {av : A → List AV} {av' : B → List AV} {Q : A → Prop} {Q' : B → Prop} (h : Opens enc P W t A av Q) (g : A → B) (hg : ∀ a, Q a → Q' (g a) ∧ av' (g a) = av a) : Opens enc P W t B av' Q' := by
  intro fuel cs x hx
  obtain ⟨a, h1, h2⟩ := h fuel cs x hx
  obtain ⟨h3, h4⟩ := hg a h1
  exact ⟨g a, h3, by rw [h4]; exact h2⟩

theorem opens_int {t : TypeId} {k : IntKind} (ht : P.underlying t = some (.int k)) : Opens enc P W t Int (fun n => [.int k n]) (fun n => (Lit.int k n).wf = true) := by
  intro fuel cs x hx
  obtain ⟨n, rfl, _, hw⟩ := DataW.trod_int ht hx
  exact ⟨n, hw, _, _, rfl, rfl, by simp [VR], by simp [VRL]⟩

theorem opens_u8 {t : TypeId} (ht : P.underlying t = some (.int .u8)) : Opens enc P W t UInt8 (fun c => [u8 c]) (fun _ => True) := by
  refine opens_map (opens_int ht) (fun n => UInt8.ofNat n.toNat) fun n hn => ⟨trivial, ?_⟩
  simp only [Lit.wf, Bool.and_eq_true, decide_eq_true_eq] at hn
  have h1 : (0 : Int) ≤ n := hn.1
  have h2 : n ≤ 255 := hn.2
  simp only [u8, UInt8.toNat_ofNat']
  congr 2
  omega

theorem opens_bool {t : TypeId} (ht : P.underlying t = some .bool) : Opens enc P W t Bool (fun b => [.bool b]) (fun _ => True) := by
  intro fuel cs x hx
  obtain ⟨b, rfl, _⟩ := DataW.trod_bool ht hx
  exact ⟨b, trivial, _, _, rfl, rfl, by simp [VR], by simp [VRL]⟩

theorem vrl_len {C : Ctx} {r t : Bool} {as : List AV} {vs : List Value} (h : VRL C r t as vs) : vs.length = as.length := (VRL.length h).symm ▸ rfl

theorem vrl_one {C : Ctx} {r t : Bool} : ∀ {as : List AV} {vs : List Value}, VRL C r t as vs → ∀ u ∈ vs, u.oneCell' = true
  | [], vs, h, u, hu => by simp only [VRL] at h; subst h; cases hu
  | a :: as, vs, h, u, hu => by
    simp only [VRL] at h
    obtain ⟨v, vs', rfl, h1, _, h3⟩ := h
    rcases List.mem_cons.1 hu with rfl | hu
    · exact h1
    · exact vrl_one h3 u hu

theorem opens_slice {t e : TypeId} {s : Nat} {A : Type} {av : A → List AV} {Q : A → Prop} (ht : P.underlying t = some (.slice e)) (hs : P.cellsOf e = s) (h0 : 0 < s) (hE : Opens enc P W e A av Q) (el : A → AV) (hel : ∀ a, (el a).cells = av a)
    (hlen : ∀ a, (av a).length = s) : Opens enc P W t (List A) (fun l => [.islc false false s (l.map el)]) (fun l => l.length ≤ maxLen ∧ ∀ a ∈ l, Q a) := by
  intro fuel cs x hx
  rcases DataW.trod_slice ht hx with ⟨rfl, _⟩ | ⟨a, len, cap, elems, rest, n, _, rfl, _, _, hl, hm, hlen2, hel2, _⟩
  · refine ⟨[], ⟨by simp, (fun a h => by cases h)⟩, ?_⟩
    exact ⟨_, _, rfl, rfl, by simp [VR], by simp [VRL]⟩
  · rw [hs] at hel2
    have key : ∀ k i, i + k = len → ∃ (l : List A) (vs : List Value), l.length = k ∧ (∀ a ∈ l, Q a) ∧ vs.length = k * s ∧ CRL (start W) false false s (l.map el) vs ∧ (∀ j v, vs[j]? = some v → W.cell? (a.add (i * s + j)) = some v) := by
      intro k
      induction k with
      | zero => exact fun i _ => ⟨[], [], rfl, (fun _ h => by cases h), by simp, by simp [CRL], (fun j v h => by simp at h)⟩
      | succ k ih =>
        intro i hi
        obtain ⟨l, vs, h1, h2, h3, h4, h5⟩ := ih (i + 1) (by omega)
        have hi2 : i < elems.length := by omega
        have hx2 := hel2 i (by omega)
        rw [List.getElem?_eq_getElem hi2, Option.bind_eq_some_iff] at hx2
        obtain ⟨ci, hci, htr⟩ := hx2
        obtain ⟨_, hcl, hcell⟩ := World.cells?_some hci
        obtain ⟨ai, hq, hv⟩ := hE _ _ _ htr
        refine ⟨ai :: l, ci ++ vs, by simp [h1], ?_, ?_, ?_, ?_⟩
        · intro b hb
          rcases List.mem_cons.1 hb with rfl | hb
          · exact hq
          · exact h2 b hb
        · rw [List.length_append, hcl, h3, Nat.succ_mul]; omega
        · simp only [List.map_cons, CRL]
          have ht1 : (ci ++ vs).take s = ci := by rw [← hcl, List.take_left]
          have ht2 : (ci ++ vs).drop s = vs := by rw [← hcl, List.drop_left]
          rw [ht1, ht2]
          obtain ⟨v, hv1, hv2⟩ := VR.of_cells (e := el ai) (us := ci) (by rw [hel]; exact hv)
          exact ⟨⟨by rw [hel, hlen], by simp [hcl], v, hv1, hv2, fun u hu => vrl_one hv u hu⟩, h4⟩
        · intro j v hj
          by_cases hjs : j < s
          · rw [List.getElem?_append_left (by omega)] at hj
            have := hcell j hjs
            rw [hj] at this
            have e : (a.add (i * s)).add j = a.add (i * s + j) := by
              unfold Addr.add
              by_cases h1 : i * s = 0 <;> by_cases h2 : j = 0 <;> simp [h1, h2]
              · omega
            rw [← e]; exact this
          · rw [List.getElem?_append_right (by omega), hcl] at hj
            have := h5 _ _ hj
            rw [show (i + 1) * s + (j - s) = i * s + j by rw [Nat.succ_mul]; omega] at this
            exact this
    obtain ⟨l, vs, h1, h2, h3, h4, h5⟩ := key len 0 (by omega)
    refine ⟨l, ⟨by omega, h2⟩, ?_⟩
    refine ⟨_, _, rfl, rfl, ?_, by simp [VRL]⟩
    simp only [VR, List.length_map]
    refine ⟨fun h => h, some a, cap, by rw [h1], by omega, fun h => (by cases h), fun hne => ?_⟩
    have hk : 0 < len := by
      rcases Nat.eq_zero_or_pos len with h | h
      · rw [h] at h1; exact absurd (by rw [List.eq_nil_of_length_eq_zero h1]; rfl) hne
      · exact h
    have hvs : 0 < vs.length := by rw [h3]; exact Nat.mul_pos hk h0
    have hc0 := h5 0 _ (List.getElem?_eq_getElem hvs)
    obtain ⟨b, off, spot⟩ := a
    have hspot : spot = none := by simpa [Addr.add] using World.cell?_spot hc0
    subst hspot
    refine ⟨b, off, vs, rfl, ?_, ?_, h4⟩
    · refine start_ib ?_ false
      unfold World.cell? at hc0
      simp only [Nat.zero_mul, Nat.zero_add, Addr.add, if_true] at hc0
      cases hh : W.heap[b]? with
      | none => rw [hh] at hc0; cases hc0
      | some o => exact (Array.getElem?_eq_some_iff.1 hh).1
    · intro j v hj
      have := h5 j v hj
      rw [Go.WideShapes.add_plain] at this
      show W.cell? _ = _
      simpa using this

/-- Fields, one behind the other. -/
def OpensF (enc : TypeId × Value → H) (P : Program) (W : World) (fs : List Field) (off tot : Nat) (A : Type) (av : A → List AV) (Q : A → Prop) : Prop :=
  ∀ (n : Nat) (cs : List Value), cs.length = tot → (∀ f ∈ fs, ∃ x, DataW.trod enc P W 0 (fun _ => true) true n f.type ((cs.drop f.offset).take (P.cellsOf f.type)) = some x) → ∃ a, Q a ∧ VRL (start W) false false (av a) (cs.drop off)

theorem opensF_nil {off : Nat} : OpensF enc P W [] off off Unit (fun _ => []) (fun _ => True) := by
  intro n cs hl _
  exact ⟨(), trivial, by rw [List.drop_of_length_le (by omega)]; simp [VRL]⟩

theorem opensF_cons {f : Field} {fs : List Field} {off k tot : Nat} {A B : Type} {av : A → List AV} {av' : B → List AV} {Q : A → Prop} {Q' : B → Prop} (ho : f.offset = off) (hk : P.cellsOf f.type = k) (hE : Opens enc P W f.type A av Q)
    (hF : OpensF enc P W fs (off + k) tot B av' Q') : OpensF enc P W (f :: fs) off tot (A × B) (fun p => av p.1 ++ av' p.2) (fun p => Q p.1 ∧ Q' p.2) := by
  intro n cs hl h
  obtain ⟨x, hx⟩ := h f (by simp)
  obtain ⟨a, h1, h2⟩ := hE _ _ _ hx
  obtain ⟨b, h3, h4⟩ := hF n cs hl (fun g hg => h g (by simp [hg]))
  refine ⟨(a, b), ⟨h1, h3⟩, ?_⟩
  rw [ho, hk] at h2
  have e : cs.drop off = (cs.drop off).take k ++ cs.drop (off + k) := by rw [← List.drop_drop, List.take_append_drop]
  rw [e]
  exact VRL.append h2 h4

theorem opens_struct {t : TypeId} {fs : Array Field} {tot : Nat} {A : Type} {av : A → List AV} {Q : A → Prop} (ht : P.underlying t = some (.struct fs)) (hc : P.cellsOf t = tot) (hF : OpensF enc P W fs.toList 0 tot A av Q) : Opens enc P W t A av Q := by
  intro fuel cs x hx
  obtain ⟨xs, n, _, _, hl, hxs, hf⟩ := DataW.trod_struct ht hx
  obtain ⟨a, h1, h2⟩ := hF n cs (by omega) (fun f hfm => by
    obtain ⟨i, hi⟩ := List.getElem?_of_mem hfm
    have hi' : fs[i]? = some f := by simpa using hi
    have hlt : i < xs.length := by
      have := (Array.getElem?_eq_some_iff.1 hi').1
      omega
    exact ⟨xs[i], by rw [hf i f hi', List.getElem?_eq_getElem hlt]⟩)
  exact ⟨a, h1, by simpa using h2⟩

theorem opens_array {t e : TypeId} {m s : Nat} {A : Type} {av : A → List AV} {Q : A → Prop} (ht : P.underlying t = some (.array m e)) (hs : P.cellsOf e = s) (hc : P.cellsOf t = m * s) (hE : Opens enc P W e A av Q) :
    Opens enc P W t (List A) (fun l => l.flatMap av) (fun l => l.length = m ∧ ∀ a ∈ l, Q a) := by
  intro fuel cs x hx
  obtain ⟨xs, n, _, _, hl, hxs, hf⟩ := DataW.trod_array ht hx
  rw [hs] at hf
  have key : ∀ k i, i + k = m → ∃ l : List A, l.length = k ∧ (∀ a ∈ l, Q a) ∧ VRL (start W) false false (l.flatMap av) (cs.drop (i * s)) := by
    intro k
    induction k with
    | zero =>
      intro i hi
      refine ⟨[], rfl, (fun _ h => by cases h), ?_⟩
      rw [List.drop_of_length_le (by rw [hl, hc, show i = m by omega]; exact Nat.le_refl _)]
      simp [VRL]
    | succ k ih =>
      intro i hi
      obtain ⟨l, h1, h2, h3⟩ := ih (i + 1) (by omega)
      have hx2 := hf i (by omega)
      rw [List.getElem?_eq_getElem (by omega)] at hx2
      obtain ⟨ai, hq, hv⟩ := hE _ _ _ hx2
      refine ⟨ai :: l, by simp [h1], ?_, ?_⟩
      · intro b hb
        rcases List.mem_cons.1 hb with rfl | hb
        · exact hq
        · exact h2 b hb
      · have e : cs.drop (i * s) = (cs.drop (i * s)).take s ++ cs.drop ((i + 1) * s) := by
          rw [Nat.succ_mul, ← List.drop_drop, List.take_append_drop]
        rw [e, List.flatMap_cons]
        exact VRL.append hv h3
  obtain ⟨l, h1, h2, h3⟩ := key m 0 (by omega)
  exact ⟨l, ⟨h1, h2⟩, by simpa using h3⟩

/-- An argument of one cell. -/
theorem arg_one {t : TypeId} {A : Type} {av : A → List AV} {Q : A → Prop} {v : Value} {d : DataW H} {ps : List MemPlace} (hE : Opens enc P W t A av Q) (hd : DataW.Trod enc P W 0 (fun _ => true) true t v d ps) (hv : v.cells = #[v]) {el : A → AV} (hel : ∀ a, av a = [el a]) :
    ∃ a, Q a ∧ VR (start W) true true (el a) v := by
  obtain ⟨fuel, hf⟩ := hd
  obtain ⟨a, h1, h2⟩ := hE _ _ _ hf
  rw [hel, hv] at h2
  simp only [VRL] at h2
  obtain ⟨u, us, h3, _, h5, h6⟩ := h2
  subst h6
  simp at h3
  subst h3
  exact ⟨a, h1, VR.weak (fun h => (by cases h)) (fun h => (by cases h)) h5⟩

/-- An argument of many cells. -/
theorem arg_agg {t : TypeId} {A : Type} {av : A → List AV} {Q : A → Prop} {cs : Array Value} {d : DataW H} {ps : List MemPlace} (hE : Opens enc P W t A av Q) (hd : DataW.Trod enc P W 0 (fun _ => true) true t (.agg cs) d ps) :
    ∃ a, Q a ∧ VR (start W) true true (.agg (av a)) (.agg cs) := by
  obtain ⟨fuel, hf⟩ := hd
  obtain ⟨a, h1, h2⟩ := hE _ _ _ hf
  refine ⟨a, h1, ?_⟩
  simp only [VR]
  refine ⟨cs, rfl, ?_⟩
  have h3 : VR (start W) true true (.agg (av a)) (.agg cs) := VR.weak (r := false) (t := false) (fun h => (by cases h)) (fun h => (by cases h)) (by simp only [VR]; exact ⟨cs, rfl, by simpa [Value.cells] using h2⟩)
  simp only [VR] at h3
  obtain ⟨cs', h4, h5⟩ := h3
  cases h4
  exact h5
end
end Go.AI
