/- A region, in whatever order. -/
import Derived.Test.YtoanjhiojpgioaaA14
set_option linter.unusedSimpArgs false
set_option linter.unusedVariables false
namespace Go.AI

def lastW {α : Type} (p : Nat → Bool) (v : Nat → α) (d : α) : Nat → α
  | 0 => d
  | n + 1 => if p n then v n else lastW p v d n

theorem lastW_congr {α : Type} {p q : Nat → Bool} {v : Nat → α} {d : α} : ∀ {n : Nat}, (∀ k, k < n → p k = q k) → lastW p v d n = lastW q v d n
  | 0, _ => rfl
  | n + 1, h => by
    simp only [lastW, h n (by omega)]
    rw [lastW_congr (n := n) fun k hk => h k (by omega)]

theorem lastW_none {α : Type} {p : Nat → Bool} {v : Nat → α} {d : α} {i : Nat} : ∀ {n : Nat}, i ≤ n → (∀ k, i ≤ k → k < n → p k = false) → lastW p v d n = lastW p v d i
  | 0, h, _ => by simp at h; subst h; rfl
  | n + 1, h, hp => by
    rcases Nat.lt_or_ge i (n + 1) with h1 | h1
    · rw [← lastW_none (n := n) (by omega) fun k h1 h2 => hp k h1 (by omega)]
      simp only [lastW, hp n (by omega) (by omega), Bool.false_eq_true, if_false]
    · have : i = n + 1 := by omega
      subst this; rfl

/-- The walk of a region in the order of the text. -/
structure Trace (cf : CallF) (xf : ExtF) (base : Nat) (l : List SOper) (T : Tmps) (H : Heap) (T' : Tmps) (H' : Heap) (Ts : Nat → Tmps) (Hs : Nat → Heap) (vs : Nat → AV) (fps : Nat → FP) (log : List FP) : Prop where
  t0 : Ts 0 = T
  h0 : Hs 0 = H
  tn : Ts l.length = T'
  hn : Hs l.length = H'
  step : ∀ i o, l[i]? = some o → Ts (i + 1) = (Ts i).put o.dst (vs i) ∧
    ((awanted (Ts i) o.guard = some false ∧ vs i = .undef ∧ Hs (i + 1) = Hs i ∧ fps i = .z) ∨
      (awanted (Ts i) o.guard = some true ∧ aop cf xf base (Ts i) (Hs i) o.op = some (vs i, Hs (i + 1), fps i) ∧ logOk (log ++ (List.range i).map fps) (fps i) o.un = true))

theorem aops_trace {cf : CallF} {xf : ExtF} {base : Nat} : ∀ {l : List SOper} {log : List FP} {T : Tmps} {H : Heap} {T' : Tmps} {H' : Heap}, aops cf xf base l log T H = some (T', H') →
    ∃ Ts Hs vs fps, Trace cf xf base l T H T' H' Ts Hs vs fps log
  | [], log, T, H, T', H', h => by
    simp [aops] at h
    obtain ⟨rfl, rfl⟩ := h
    exact ⟨fun _ => T, fun _ => H, fun _ => .undef, fun _ => .z, rfl, rfl, rfl, rfl, fun i o h => by simp at h⟩
  | o :: l, log, T, H, T', H', h => by
    have key : ∀ (v : AV) (H1 : Heap) (fp : FP), aops cf xf base l (log ++ [fp]) (T.put o.dst v) H1 = some (T', H') →
        ((awanted T o.guard = some false ∧ v = .undef ∧ H1 = H ∧ fp = .z) ∨ (awanted T o.guard = some true ∧ aop cf xf base T H o.op = some (v, H1, fp) ∧ logOk log fp o.un = true)) →
        ∃ Ts Hs vs fps, Trace cf xf base (o :: l) T H T' H' Ts Hs vs fps log := by
      intro v H1 fp h1 h2
      obtain ⟨Ts, Hs, vs, fps, ht⟩ := aops_trace h1
      refine ⟨fun | 0 => T | i + 1 => Ts i, fun | 0 => H | i + 1 => Hs i, fun | 0 => v | i + 1 => vs i, fun | 0 => fp | i + 1 => fps i, rfl, rfl, by simpa using ht.tn, by simpa using ht.hn, fun i o' ho => ?_⟩
      cases i with
      | zero =>
        simp at ho; subst ho
        refine ⟨ht.t0, ?_⟩
        rcases h2 with h2 | h2
        · exact .inl ⟨h2.1, h2.2.1, ht.h0.trans h2.2.2.1, h2.2.2.2⟩
        · refine .inr ⟨h2.1, ?_, by simpa using h2.2.2⟩
          show aop cf xf base T H o.op = some (v, Hs 0, fp)
          rw [ht.h0]; exact h2.2.1
      | succ i =>
        simp at ho
        obtain ⟨k1, k2⟩ := ht.step i o' ho
        refine ⟨k1, ?_⟩
        rcases k2 with k2 | k2
        · exact .inl k2
        · refine .inr ⟨k2.1, k2.2.1, ?_⟩
          have : log ++ [fp] ++ (List.range i).map fps = log ++ (List.range (i + 1)).map (fun | 0 => fp | i + 1 => fps i) := by
            rw [List.range_succ_eq_map, List.map_cons, List.map_map, List.append_assoc]
            rfl
          rw [← this]
          exact k2.2.2
    simp only [aops] at h
    split at h
    · simp at h
    · rename_i hw
      exact key .undef H .z h (.inl ⟨hw, rfl, rfl, rfl⟩)
    · rename_i hw
      split at h
      · simp at h
      · rename_i v H1 fp hop
        split at h
        · rename_i hlog
          exact key v H1 fp h (.inr ⟨hw, hop, hlog⟩)
        · simp at h

/-- Neither stands in the other's way. -/
def NC (a b : FP) : Prop := (a.rd = [] ∧ a.wr = [] ∧ a.top = false) ∨ (b.rd = [] ∧ b.wr = [] ∧ b.top = false) ∨ (a.wr = [] ∧ b.wr = [] ∧ a.top = false ∧ b.top = false) ∨ a.apart b = true

def FP.writes (f : FP) (j : Nat) : Bool := f.top || f.wr.contains j
def FP.looks (f : FP) (j : Nat) : Bool := f.top || f.wr.contains j || f.rd.contains j

theorem NC.spec {a b : FP} (h : NC a b) (j : Nat) : ¬ (a.writes j = true ∧ b.looks j = true) ∧ ¬ (b.writes j = true ∧ a.looks j = true) := by
  unfold FP.writes FP.looks
  rcases h with ⟨h1, h2, h3⟩ | ⟨h1, h2, h3⟩ | ⟨h1, h2, h3, h4⟩ | h
  · simp [h1, h2, h3]
  · simp [h1, h2, h3]
  · simp [h1, h2, h3, h4]
  · simp only [FP.apart, Bool.and_eq_true, Bool.not_eq_true', List.all_eq_true] at h
    obtain ⟨⟨⟨h1, h2⟩, h3⟩, h4⟩ := h
    simp only [h1, h2, Bool.false_or, Bool.or_eq_true, List.contains_iff_mem]
    constructor
    · rintro ⟨k1, k2⟩
      have := h3 j k1
      simp at this
      rcases k2 with k2 | k2
      · exact this.2 k2
      · exact this.1 k2
    · rintro ⟨k1, k2⟩
      rcases k2 with k2 | k2
      · have := h3 j k2
        simp at this
        exact this.2 k1
      · have := h4 j k1
        simp at this
        exact this k2

/-- The footprint of an operation, by its class. -/
theorem cls_fp {cf : CallF} {xf : ExtF} {base : Nat} {T : Tmps} {H H' : Heap} {op : SOp} {v : AV} {fp : FP} (hl : laid op = true) (h : aop cf xf base T H op = some (v, H', fp)) :
    (cls op = 0 → fp.rd = [] ∧ fp.wr = [] ∧ fp.top = false) ∧ (cls op = 1 → fp.wr = [] ∧ fp.top = false) := by
  by_cases hq : quiet op = true
  · rw [pure_op hq] at h
    have hz : fp = .z := by
      cases hx : (aop cf xf base T Heap.none op).map (·.1) with
      | none => rw [hx] at h; simp at h
      | some u => rw [hx] at h; simp [rv] at h; exact h.2.2.symm
    subst hz
    exact ⟨fun _ => ⟨rfl, rfl, rfl⟩, fun _ => ⟨rfl, rfl⟩⟩
  · have one : ∀ {m : Mode} {f : Nat} {args : List AV}, (m matches .pure | .ext) = true → acallM cf xf base m f args H = some (v, H', fp) → fp.wr = [] ∧ fp.top = false := by
      intro m f args hm h
      cases m with
      | pure =>
        simp only [acallM] at h
        cases e1 : cf f 0 (args.map (fz false deep H)) Heap.none with
        | none => simp [e1] at h
        | some p => simp [e1] at h; obtain ⟨_, _, rfl⟩ := h; exact ⟨rfl, rfl⟩
      | ext =>
        simp only [acallM] at h
        cases e1 : xf f (args.map (fz false deep H)) with
        | none => simp [e1] at h
        | some p => simp [e1] at h; obtain ⟨_, _, rfl⟩ := h; exact ⟨rfl, rfl⟩
      | _ => simp at hm
    refine ⟨fun hc => ?_, fun hc => ?_⟩
    · exfalso
      cases op <;> first
        | (simp [quiet] at hq; done)
        | (simp [cls] at hc; done)
        | (simp [laid] at hl; done)
        | (rename_i m _ _; cases m <;> simp [cls] at hc)
    · cases op
      case call m f args =>
        simp only [aop] at h
        cases m <;> simp [cls] at hc
        · exact one (by rfl) h
        · exact one (by rfl) h
      case callv m x args =>
        simp only [aop] at h
        split at h
        · cases m <;> simp [cls] at hc
          · exact one (by rfl) h
          · exact one (by rfl) h
        · simp at h
      case load k agg x =>
        simp only [aop] at h
        (repeat' split at h) <;> simp [rv, FP.z] at h <;> obtain ⟨_, _, rfl⟩ := h <;> exact ⟨rfl, rfl⟩
      case slice s x lo hi mx =>
        simp only [aop] at h
        cases e1 : optNat T lo with
        | none => simp [e1] at h
        | some l =>
        cases e2 : optNat T hi with
        | none => simp [e1, e2] at h
        | some hh =>
        cases e3 : optNat T mx with
        | none => simp [e1, e2, e3] at h
        | some m =>
        simp only [e1, e2, e3, Option.bind_eq_bind, Option.bind_some, aslice] at h
        (repeat' split at h) <;> simp [rv, FP.z] at h <;> obtain ⟨_, _, rfl⟩ := h <;> exact ⟨rfl, rfl⟩
      case iaddr s x i =>
        simp only [aop] at h
        cases e1 : natOf (i.ev T) with
        | none => simp [e1] at h
        | some i0 =>
          simp only [e1, Option.bind_eq_bind, Option.bind_some] at h
          split at h
          · rename_i j g ver s' off len cap hq
            cases hes : H.row j g ver s' with
            | none => simp [hes] at h
            | some es =>
              simp only [hes, Option.bind_some] at h
              split at h
              · simp at h; obtain ⟨_, _, rfl⟩ := h; exact ⟨rfl, rfl⟩
              · simp at h
          · (repeat' split at h) <;> simp [rv, FP.z] at h <;> obtain ⟨_, _, rfl⟩ := h <;> exact ⟨rfl, rfl⟩
          · simp at h
      case b2s x =>
        simp only [aop] at h
        split at h
        · simp at h
        · cases e1 : elemsOf H 1 (x.ev T) with
          | none => simp [e1] at h
          | some p =>
            obtain ⟨ys, js⟩ := p
            simp only [e1, Option.bind_eq_bind, Option.bind_some] at h
            cases e2 : bytesOf ys with
            | none => simp [e2] at h
            | some bs => simp [e2] at h; obtain ⟨_, _, rfl⟩ := h; exact ⟨rfl, rfl⟩
      all_goals first
        | (simp [quiet] at hq; done)
        | (simp [cls] at hc; done)
        | (simp [laid] at hl; done)

end Go.AI
