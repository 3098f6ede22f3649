/- A region, in whatever order: what the interpreter says in the order of the text is said in every order. -/
import Derived.Test.YtoanjhiojpgioaaA15
set_option linter.unusedSimpArgs false
set_option linter.unusedVariables false
namespace Go.AI

section perm
variable {cf : CallF} {xf : ExtF} {base : Nat} {l : List SOper} {T T' : Tmps} {H H' : Heap} {Ts : Nat → Tmps} {Hs : Nat → Heap} {vs : Nat → AV} {fps : Nat → FP}
  {bef : Nat → List Nat}

def dstOf (l : List SOper) (k : Nat) : Option Nat := (l[k]?).bind (·.dst)

/-- What the checks of a region give. -/
structure Checked (l : List SOper) (bef : Nat → List Nat) : Prop where
  laid : ∀ (i : Nat) (o : SOper), l[i]? = some o → AI.laid o.op = true
  pair : ∀ (k i : Nat) (x y : SOper), k < i → l[k]? = some x → l[i]? = some y → k ∈ bef i ∨ (tmpsApart x y = true ∧ (inTheWay x.op y.op = true → k ∈ y.un))

def TD (l : List SOper) (vs : Nat → AV) (T : Tmps) (D : Nat → Bool) : Tmps := fun t => lastW (fun k => D k && dstOf l k == some t) vs (T t) l.length
def HD (l : List SOper) (Hs : Nat → Heap) (fps : Nat → FP) (H : Heap) (D : Nat → Bool) : Heap := fun j => lastW (fun k => D k && (fps k).writes j) (fun k => Hs (k + 1) j) (H j) l.length

variable (ht : Trace cf xf base l T H T' H' Ts Hs vs fps []) (hc : Checked l bef)
include ht

theorem Ts_eq (t : Nat) : ∀ i, i ≤ l.length → Ts i t = lastW (fun k => dstOf l k == some t) vs (T t) i
  | 0, _ => by rw [ht.t0]; rfl
  | i + 1, h => by
    have ho : l[i]? = some l[i] := List.getElem?_eq_getElem (by omega)
    obtain ⟨h1, _⟩ := ht.step i _ ho
    rw [h1]
    simp only [lastW, dstOf, ho, Option.bind_some]
    cases hd : l[i].dst with
    | none => simp only [Tmps.put]; rw [Ts_eq t i (by omega)]; rfl
    | some d =>
      simp only [Tmps.put, Tmps.upd_eq]
      by_cases hdt : t = d
      · subst hdt; simp
      · rw [if_neg hdt, Ts_eq t i (by omega)]
        have : (some d == some t) = false := by simpa using (Ne.symm hdt)
        rw [this]; rfl

include hc

theorem Hs_eq (j : Nat) : ∀ i, i ≤ l.length → Hs i j = lastW (fun k => (fps k).writes j) (fun k => Hs (k + 1) j) (H j) i
  | 0, _ => by rw [ht.h0]; rfl
  | i + 1, h => by
    have ho : l[i]? = some l[i] := List.getElem?_eq_getElem (by omega)
    obtain ⟨_, h2⟩ := ht.step i _ ho
    simp only [lastW]
    split
    · rfl
    · rename_i hw
      simp only [FP.writes, Bool.or_eq_true, List.contains_iff_mem, not_or, Bool.not_eq_true] at hw
      rw [← Hs_eq j i (by omega)]
      rcases h2 with ⟨_, _, h3, _⟩ | ⟨_, h3, _⟩
      · rw [h3]
      · exact (aop_local (hc.laid i _ ho) h3 hw.1).1 j hw.2

omit ht hc in
theorem cls_two (op : SOp) : cls op = 0 ∨ cls op = 1 ∨ cls op = 2 := by
  cases op
  case call m _ _ => cases m <;> simp [cls]
  case callv m _ _ => cases m <;> simp [cls]
  all_goals simp [cls]

theorem nc {k i : Nat} {x y : SOper} (hki : k < i) (hx : l[k]? = some x) (hy : l[i]? = some y) (hb : k ∉ bef i) : NC (fps k) (fps i) ∧ tmpsApart x y = true := by
  obtain ⟨h1, h2⟩ := (hc.pair k i x y hki hx hy).resolve_left hb
  refine ⟨?_, h1⟩
  obtain ⟨_, s1⟩ := ht.step k x hx
  obtain ⟨_, s2⟩ := ht.step i y hy
  rcases s1 with ⟨_, _, _, e1⟩ | ⟨_, e1, _⟩
  · exact .inl (by rw [e1]; exact ⟨rfl, rfl, rfl⟩)
  rcases s2 with ⟨_, _, _, e2⟩ | ⟨_, e2, e3⟩
  · exact .inr (.inl (by rw [e2]; exact ⟨rfl, rfl, rfl⟩))
  have c1 := cls_fp (hc.laid k x hx) e1
  have c2 := cls_fp (hc.laid i y hy) e2
  by_cases hw : inTheWay x.op y.op = true
  · have hu := h2 hw
    simp only [logOk, List.nil_append, List.all_eq_true] at e3
    have := e3 k hu
    rw [List.getElem?_map, List.getElem?_range hki] at this
    exact .inr (.inr (.inr this))
  · simp only [inTheWay, Bool.and_eq_true, Bool.or_eq_true, bne_iff_ne, beq_iff_eq, decide_eq_true_eq, not_and, not_or] at hw
    rcases cls_two x.op with a1 | a1 | a1
    · exact .inl (c1.1 a1)
    · rcases cls_two y.op with a2 | a2 | a2
      · exact .inr (.inl (c2.1 a2))
      · exact .inr (.inr (.inl ⟨(c1.2 a1).1, (c2.2 a2).1, (c1.2 a1).2, (c2.2 a2).2⟩))
      · simp [a1, a2] at hw
    · rcases cls_two y.op with a2 | a2 | a2
      · exact .inr (.inl (c2.1 a2))
      · simp [a1, a2] at hw
      · simp [a1, a2] at hw

/-- One more operation, of those that may come up. -/
theorem perm_step {D : Nat → Bool} {i : Nat} {o : SOper} (ho : l[i]? = some o) (hi : D i = false) (hup : ∀ k ∈ bef i, D k = true) (hcl : ∀ m, D m = true → m < l.length → ∀ k ∈ bef m, D k = true)
    {D' : Nat → Bool} (hD' : ∀ k, D' k = (D k || k == i)) :
    TD l vs T D' = (TD l vs T D).put o.dst (vs i) ∧
      ((awanted (TD l vs T D) o.guard = some false ∧ vs i = .undef ∧ HD l Hs fps H D' = HD l Hs fps H D) ∨
        (awanted (TD l vs T D) o.guard = some true ∧ aop cf xf base (TD l vs T D) (HD l Hs fps H D) o.op = some (vs i, HD l Hs fps H D', fps i))) := by
  have hil : i < l.length := (List.getElem?_eq_some_iff.1 ho).1
  -- which come later, of those that are done
  have hlater : ∀ k, i < k → k < l.length → D k = true → NC (fps i) (fps k) ∧ ∀ y, l[k]? = some y → tmpsApart o y = true := by
    intro k h1 h2 h3
    have hk : l[k]? = some l[k] := List.getElem?_eq_getElem h2
    have hb : i ∉ bef k := fun hb => by have := hcl k h3 h2 i hb; rw [hi] at this; simp at this
    have := nc ht hc h1 ho hk hb
    refine ⟨this.1, fun y hy => ?_⟩
    rw [hk] at hy; cases hy
    exact this.2
  have hearlier : ∀ k, k < i → D k = false → NC (fps k) (fps i) ∧ ∀ x, l[k]? = some x → tmpsApart x o = true := by
    intro k h1 h3
    have hk : l[k]? = some l[k] := List.getElem?_eq_getElem (by omega)
    have hb : k ∉ bef i := fun hb => by have := hup k hb; rw [h3] at this; simp at this
    have := nc ht hc h1 hk ho hb
    refine ⟨this.1, fun x hx => ?_⟩
    rw [hk] at hx; cases hx
    exact this.2
  have hread : ∀ t ∈ sreads o, TD l vs T D t = Ts i t := by
    intro t htr
    rw [Ts_eq ht t i (by omega)]
    unfold TD
    have e1 : lastW (fun k => D k && dstOf l k == some t) vs (T t) l.length = lastW (fun k => decide (k < i) && dstOf l k == some t) vs (T t) l.length := by
      refine lastW_congr fun k hk => ?_
      by_cases hd : dstOf l k = some t
      · have hdb : (dstOf l k == some t) = true := by simpa using hd
        rw [hdb, Bool.and_true, Bool.and_true]
        have hkk : l[k]? = some l[k] := List.getElem?_eq_getElem hk
        have hdk : l[k].dst = some t := by simpa [dstOf, hkk] using hd
        rcases Nat.lt_trichotomy k i with h1 | h1 | h1
        · cases hDk : D k with
          | true => simp [h1]
          | false =>
            have := (hearlier k h1 hDk).2 _ hkk
            simp [tmpsApart, hdk, htr] at this
        · subst h1; simp [hi]
        · cases hDk : D k with
          | false => simp; omega
          | true =>
            have := (hlater k h1 hk hDk).2 _ hkk
            simp [tmpsApart, hdk, htr] at this
      · have hdb : (dstOf l k == some t) = false := by simpa using hd
        rw [hdb, Bool.and_false, Bool.and_false]
    rw [e1, lastW_none (i := i) (by omega) fun k h1 _ => by simp; omega]
    exact lastW_congr fun k hk => by simp [hk]
  have hlook : ∀ j, (fps i).looks j = true → HD l Hs fps H D j = Hs i j := by
    intro j hj
    rw [Hs_eq ht hc j i (by omega)]
    unfold HD
    have e1 : lastW (fun k => D k && (fps k).writes j) (fun k => Hs (k + 1) j) (H j) l.length = lastW (fun k => decide (k < i) && (fps k).writes j) (fun k => Hs (k + 1) j) (H j) l.length := by
      refine lastW_congr fun k hk => ?_
      cases hw : (fps k).writes j with
      | false => simp
      | true =>
        rw [Bool.and_true, Bool.and_true]
        rcases Nat.lt_trichotomy k i with h1 | h1 | h1
        · cases hDk : D k with
          | true => simp [h1]
          | false => exact absurd ⟨hw, hj⟩ ((hearlier k h1 hDk).1.spec j).1
        · subst h1; simp [hi]
        · cases hDk : D k with
          | false => simp; omega
          | true => exact absurd ⟨hw, hj⟩ ((hlater k h1 hk hDk).1.spec j).2
    rw [e1, lastW_none (i := i) (by omega) fun k h1 _ => by simp; omega]
    exact lastW_congr fun k hk => by simp [hk]
  have hTD : TD l vs T D' = (TD l vs T D).put o.dst (vs i) := by
    funext t
    have hput : (TD l vs T D).put o.dst (vs i) t = if o.dst = some t then vs i else TD l vs T D t := by
      cases hd : o.dst with
      | none => simp [Tmps.put]
      | some d =>
        simp only [Tmps.put, Tmps.upd_eq, Option.some.injEq]
        by_cases h : t = d
        · subst h; simp
        · rw [if_neg h, if_neg (Ne.symm h)]
    rw [hput]
    by_cases hd : o.dst = some t
    · rw [if_pos hd]
      unfold TD
      rw [lastW_none (i := i + 1) (by omega) fun k h1 h2 => ?_]
      · have : (D' i && dstOf l i == some t) = true := by simp [hD', dstOf, ho, hd]
        simp only [lastW, this, if_true]
      · refine Bool.eq_false_iff.2 fun hne => ?_
        simp only [Bool.and_eq_true, beq_iff_eq] at hne
        obtain ⟨n1, n2⟩ := hne
        rw [hD'] at n1
        have hDk : D k = true := by
          have : (k == i) = false := by simp; omega
          simpa [this] using n1
        have hkk : l[k]? = some l[k] := List.getElem?_eq_getElem h2
        have hdk : l[k].dst = some t := by simpa [dstOf, hkk] using n2
        have := (hlater k (by omega) h2 hDk).2 _ hkk
        simp [tmpsApart, hd, hdk] at this
    · rw [if_neg hd]
      unfold TD
      refine lastW_congr fun k hk => ?_
      rw [hD']
      by_cases hki : k = i
      · subst hki
        have : (dstOf l k == some t) = false := by simp [dstOf, ho, hd]
        rw [this, Bool.and_false, Bool.and_false]
      · have : (k == i) = false := by simpa using hki
        rw [this, Bool.or_false]
  have hHD : ∀ j, HD l Hs fps H D' j = if (fps i).writes j = true then Hs (i + 1) j else HD l Hs fps H D j := by
    intro j
    by_cases hw : (fps i).writes j = true
    · rw [if_pos hw]
      unfold HD
      rw [lastW_none (i := i + 1) (by omega) fun k h1 h2 => ?_]
      · have : (D' i && (fps i).writes j) = true := by simp [hD', hw]
        simp only [lastW, this, if_true]
      · refine Bool.eq_false_iff.2 fun hne => ?_
        simp only [Bool.and_eq_true] at hne
        obtain ⟨n1, n2⟩ := hne
        rw [hD'] at n1
        have hDk : D k = true := by
          have : (k == i) = false := by simp; omega
          simpa [this] using n1
        have hl : (fps i).looks j = true := by
          unfold FP.writes at hw; unfold FP.looks; simp only [Bool.or_eq_true] at hw ⊢; exact .inl hw
        exact ((hlater k (by omega) h2 hDk).1.spec j).2 ⟨n2, hl⟩
    · rw [if_neg hw]
      unfold HD
      refine lastW_congr fun k hk => ?_
      rw [hD']
      by_cases hki : k = i
      · subst hki
        have : (fps k).writes j = false := by simpa using hw
        rw [this, Bool.and_false, Bool.and_false]
      · have : (k == i) = false := by simpa using hki
        rw [this, Bool.or_false]
  refine ⟨hTD, ?_⟩
  have hg : awanted (TD l vs T D) o.guard = awanted (Ts i) o.guard := by
    cases hgu : o.guard with
    | none => rfl
    | some g =>
      obtain ⟨t, b⟩ := g
      have := hread t (by simp [sreads, hgu])
      simp only [awanted, this]
  obtain ⟨_, hs⟩ := ht.step i o ho
  rcases hs with ⟨s1, s2, s3, s4⟩ | ⟨s1, s2, _⟩
  · refine .inl ⟨hg.trans s1, s2, ?_⟩
    funext j
    rw [hHD j, if_neg (by rw [s4]; simp [FP.z, FP.writes])]
  · refine .inr ⟨hg.trans s1, ?_⟩
    rw [aop_congr cf xf base (T := Ts i) (T2 := TD l vs T D) (HD l Hs fps H D) (fun x hx => ?_)]
    · cases htop : (fps i).top with
      | true =>
        have e1 : HD l Hs fps H D = Hs i := funext fun j => hlook j (by simp [FP.looks, htop])
        have e2 : HD l Hs fps H D' = Hs (i + 1) := funext fun j => by rw [hHD j, if_pos (by simp [FP.writes, htop])]
        rw [e1, e2]; exact s2
      | false =>
        obtain ⟨_, k2⟩ := aop_local (hc.laid i o ho) s2 htop
        obtain ⟨H2', m1, m2, m3⟩ := k2 (HD l Hs fps H D) (fun j hj => hlook j (by simp [FP.looks, htop]; rcases hj with h | h <;> simp [h]))
        have : HD l Hs fps H D' = H2' := by
          funext j
          rw [hHD j]
          by_cases hw : j ∈ (fps i).wr
          · rw [if_pos (by simp [FP.writes, hw]), m2 j hw]
          · rw [if_neg (by simp [FP.writes, htop, hw]), m3 j hw]
        rw [this]; exact m1
    · cases x with
      | c v => rfl
      | t n => exact hread n (by simp only [sreads, List.mem_append, List.mem_filterMap]; exact .inl ⟨_, hx, rfl⟩)

end perm
end Go.AI
