/- Plain laws of streams: what is bent is none. -/
import Derived.Test.YtnakicjkolpacaaDoorP9
set_option linter.unusedSimpArgs false
set_option linter.unusedVariables false
set_option maxRecDepth 10000
set_option maxHeartbeats 4000000
namespace Go.Proofs.YtnakicjkolpacaaDoor
open Go.AI

theorem bent_good {seq : Int} {c : Cmd} {a : Nat} {x : List UInt8} (ha : a + 4 ≤ (frB seq c).length) (hc : chF x 4 = true) (hg : goodP (bent (frB seq c) a x 4) = true) : False := by
  have hlen := bent_length (frB seq c) a x 4
  have hfl := frB_length seq c
  have hget := fun j => bent_get (frB seq c) a x 4 j ha
  have hp1 : (bent (frB seq c) a x 4).take a = (frB seq c).take a := by
    apply List.ext_getElem?
    intro j
    by_cases hj : j < a
    · rw [List.getElem?_take_of_lt hj, List.getElem?_take_of_lt hj, hget, if_neg (by omega)]
    · rw [List.getElem?_eq_none (by simp; omega), List.getElem?_eq_none (by simp; omega)]
  have hp2 : (bent (frB seq c) a x 4).drop (a + 4) = (frB seq c).drop (a + 4) := by
    apply List.ext_getElem?
    intro j
    rw [List.getElem?_drop, List.getElem?_drop, hget, if_neg (by omega)]
  have split (l : List UInt8) : l = l.take a ++ (l.drop a).take 4 ++ l.drop (a + 4) := by
    rw [List.append_assoc, ← List.drop_drop, List.take_append_drop, List.take_append_drop]
  have g1 := frB_good seq c
  rw [split (frB seq c)] at g1
  rw [split (bent (frB seq c) a x 4), hp1, hp2] at hg
  have hw := burst (by simp; omega) (by simp; omega) g1 hg
  obtain ⟨j, hj1, hj2⟩ := chF_true hc
  have hwj : (((frB seq c).drop a).take 4)[j]? = (((bent (frB seq c) a x 4).drop a).take 4)[j]? := by rw [hw]
  rw [List.getElem?_take_of_lt hj1, List.getElem?_take_of_lt hj1, List.getElem?_drop, List.getElem?_drop, hget, if_pos (by omega), List.getElem?_eq_getElem (by omega)] at hwj
  simp only [Option.map_some, Option.some.injEq, Nat.add_sub_cancel_left] at hwj
  exact u8_xor_ne hj2 hwj.symm

/-- Bent behind its length, whatever stands behind it. -/
theorem parse_bent_more {seq : Int} {c : Cmd} (h : chkP c) {a : Nat} {x more : List UInt8} (h16 : 16 ≤ a) (ha : a + 4 ≤ (frB seq c).length) (hc : chF x 4 = true) : pErr (bent (frB seq c) a x 4 ++ more) ≠ 0 := by
  intro h0
  obtain ⟨e0, hg, _, _⟩ := pErr_ok h0
  obtain ⟨n, hn1, hn2, hn3, hn4, hn5⟩ := lenP_ok e0
  have hlen := bent_length (frB seq c) a x 4
  have hfl := frB_length seq c
  have hpl := payB_le h
  have hget := fun j => bent_get (frB seq c) a x 4 j ha
  have e12 : ((bent (frB seq c) a x 4 ++ more).drop 12).take 4 = ((frB seq c).drop 12).take 4 := by
    apply List.ext_getElem?
    intro j
    by_cases hj : j < 4
    · rw [List.getElem?_take_of_lt hj, List.getElem?_take_of_lt hj, List.getElem?_drop, List.getElem?_drop, List.getElem?_append_left (by omega), hget, if_neg (by omega)]
    · rw [List.getElem?_eq_none (by simp; omega), List.getElem?_eq_none (by simp; omega)]
  rw [e12, frB_len4 hpl] at hn4
  have hD : pD (bent (frB seq c) a x 4 ++ more) = bent (frB seq c) a x 4 := by
    unfold pD
    rw [hn1, Int.toNat_natCast, List.take_append_of_le_length (by omega), List.take_of_length_le (by omega)]
  rw [hD] at hg
  exact bent_good ha hc hg

theorem frsB_ge (a : List (Int × Cmd)) : a.length ≤ (frsB a).length := by
  induction a with
  | nil => simp [frsB]
  | cons x a ih =>
    obtain ⟨q, c⟩ := x
    simp only [frsB, List.length_append, frB_length, List.length_cons]
    omega
theorem parse_stop {a : List (Int × Cmd)} {q : Int} {c : Cmd} {more : List UInt8} (hm : Mids ps0 a) (hc : chkP c) (hq : 0 ≤ q ∧ q ≤ 4294967295) (he : takeE (after ps0 a) c q ≠ 0) :
    parseS (frsB a ++ (frB q c ++ more)) = (after ps0 a, (frsB a).length, takeE (after ps0 a) c q) := by
  have h1 := frsB_ge a
  have h2 := frB_length q c
  obtain ⟨k, hk⟩ : ∃ k, (frsB a ++ (frB q c ++ more)).length + 1 = k + 1 + a.length := ⟨(frsB a ++ (frB q c ++ more)).length - a.length, by simp only [List.length_append]; omega⟩
  unfold parseS
  rw [hk, goS_mids a (k + 1) ps0 0 _ hm, goS_frame hc hq, if_pos he, Nat.zero_add]

/-- A stream as its frames. -/
structure Stm (b : List UInt8) (M : List (Int × Cmd)) (qz : Int) (z : Cmd) : Prop where
  bytes : b = frsB (M ++ [(qz, z)])
  mids : Mids ps0 M
  chk : chkP z
  rng : 0 ≤ qz ∧ qz ≤ 4294967295
  take : takeE (after ps0 M) z qz = 0
  six : z.kind = 6

theorem stream_parts {l : List Cmd} (h : wholeP l) (hl : l.length ≤ 1000) : ∃ M qz z, Stm (bytesS l (0 : Nat)) M qz z ∧ M.length + 1 = l.length := by
  obtain ⟨mids, z, h1, h2, h3, h4, h5, h6, h7, h8, h9, h10⟩ := whole_split h (s := 0) h.1
  have hb := chk_count h8 h9 (n := ((0 : Nat) : Int)) (by omega)
  have hM := mids_frames (s := 0) (mids := mids) hb h9 rfl h2 (by omega)
  have hE := take_end (z := z) hb h9 rfl h2 (by omega) h5 (by rw [h6]; omega) h7
  have hsp := bytesS_split h1
  refine ⟨_, _, z, ⟨?_, hM.1, h4, by omega, hE, h5⟩, ?_⟩
  · rw [hsp, frsB_append]
    simp [frsB]
  · simp only [framesM, List.length_cons, numd_length]
    omega

theorem mids_last {A : List (Int × Cmd)} {q : Int} {c : Cmd} (h : Mids ps0 (A ++ [(q, c)])) (hA : A ≠ []) :
    Mids ps0 A ∧ chkP c ∧ (0 ≤ q ∧ q ≤ 4294967295) ∧ q = (after ps0 A).next ∧ (after ps0 (A ++ [(q, c)])).next = q + 1 := by
  obtain ⟨h1, h2, h3, h4, h5, _⟩ := (mids_append A [(q, c)] ps0).1 h
  obtain ⟨h6, h7⟩ := takeE_seq h4
  have hne : (after ps0 A).l ≠ [] := by
    rw [after_l]
    cases A with
    | nil => exact absurd rfl hA
    | cons x A => simp [ps0]
  refine ⟨h1, h2, h3, h7, ?_⟩
  rw [after_append]
  show (if c.kind = 1 then _ else (after ps0 A).next) + 1 = _
  rw [if_neg fun hk => hne (h6.2 hk), h7]

theorem stm_at {b : List UInt8} {M A R : List (Int × Cmd)} {qz q q' : Int} {z c c' : Cmd} (h : Stm b M qz z) (he : M ++ [(qz, z)] = A ++ (q, c) :: (q', c') :: R) :
    Mids ps0 (A ++ [(q, c)]) ∧ chkP c' ∧ (0 ≤ q' ∧ q' ≤ 4294967295) ∧ takeE (after ps0 (A ++ [(q, c)])) c' q' = 0 := by
  rcases List.eq_nil_or_concat R with rfl | ⟨R', y, rfl⟩
  · have e : M ++ [(qz, z)] = (A ++ [(q, c)]) ++ [(q', c')] := by rw [he]; simp
    obtain ⟨e1, e2⟩ := List.append_inj' e rfl
    simp only [List.cons.injEq, Prod.mk.injEq, and_true] at e2
    obtain ⟨rfl, rfl⟩ := e2
    subst e1
    exact ⟨h.mids, h.chk, h.rng, h.take⟩
  · have e : M ++ [(qz, z)] = (A ++ [(q, c)] ++ (q', c') :: R') ++ [y] := by rw [he]; simp
    obtain ⟨e1, e2⟩ := List.append_inj' e rfl
    have hm := h.mids
    rw [e1] at hm
    obtain ⟨h1, h2, h3, h4, _⟩ := (mids_append _ _ ps0).1 hm
    exact ⟨h1, h2, h3, h4⟩

theorem bent_twice {b : List UInt8} {M A R : List (Int × Cmd)} {qz q q' : Int} {z c c' : Cmd} (h : Stm b M qz z) (he : M ++ [(qz, z)] = A ++ (q, c) :: (q', c') :: R) (hA : A ≠ []) (more : List UInt8) :
    (parseS (frsB A ++ (frB q c ++ (frB q c ++ more)))).2.2 ≠ 0 := by
  obtain ⟨h1, _⟩ := stm_at h he
  obtain ⟨h2, h3, h4, h5, h6⟩ := mids_last h1 hA
  have hne : takeE (after ps0 (A ++ [(q, c)])) c q ≠ 0 := fun h0 => by
    have := (takeE_seq h0).2
    omega
  have := parse_stop (more := more) h1 h3 h4 hne
  rw [frsB_append] at this
  simp only [frsB, List.append_nil, List.append_assoc] at this
  rw [this]
  exact hne
theorem bent_left {b : List UInt8} {M A R : List (Int × Cmd)} {qz q q' : Int} {z c c' : Cmd} (h : Stm b M qz z) (he : M ++ [(qz, z)] = A ++ (q, c) :: (q', c') :: R) (hA : A ≠ []) (more : List UInt8) :
    (parseS (frsB A ++ (frB q' c' ++ more))).2.2 ≠ 0 := by
  obtain ⟨h1, h7, h8, h9⟩ := stm_at h he
  obtain ⟨h2, h3, h4, h5, h6⟩ := mids_last h1 hA
  have hq := (takeE_seq h9).2
  have hne : takeE (after ps0 A) c' q' ≠ 0 := fun h0 => by
    have := (takeE_seq h0).2
    omega
  rw [parse_stop h2 h7 h8 hne]
  exact hne
theorem bent_more {b : List UInt8} {M : List (Int × Cmd)} {qz : Int} {z : Cmd} (h : Stm b M qz z) {more : List UInt8} (hm : more ≠ []) : (parseS (b ++ more)).2.2 ≠ 0 := by
  have h1 := frsB_ge M
  have hb : b ++ more = frsB M ++ (frB qz z ++ more) := by rw [h.bytes, frsB_append]; simp [frsB]
  rw [hb]
  obtain ⟨k, hk⟩ : ∃ k, (frsB M ++ (frB qz z ++ more)).length + 1 = k + 1 + M.length := ⟨(frsB M ++ (frB qz z ++ more)).length - M.length, by simp only [List.length_append]; omega⟩
  unfold parseS
  rw [hk, goS_mids M (k + 1) ps0 0 _ h.mids, goS_frame h.chk h.rng, if_neg (by rw [h.take]; simp), if_pos h.six, if_neg hm]
  show (13 : Int) ≠ 0
  decide
theorem bent_within {b : List UInt8} {M A R : List (Int × Cmd)} {qz q q' : Int} {z c c' : Cmd} (h : Stm b M qz z) (he : M ++ [(qz, z)] = A ++ (q, c) :: (q', c') :: R) (hA : A ≠ []) {a : Nat} {x : List UInt8} (h16 : 16 ≤ a) (ha : a + 4 ≤ (frB q c).length) (hc : chF x 4 = true) (more : List UInt8) :
    (parseS (frsB A ++ (bent (frB q c) a x 4 ++ more))).2.2 ≠ 0 := by
  obtain ⟨h1, _⟩ := stm_at h he
  obtain ⟨h2, h3, h4, h5, h6⟩ := mids_last h1 hA
  have hp := parse_bent_more (seq := q) (more := more) h3 h16 ha hc
  have hge := frsB_ge A
  have hl := bent_length (frB q c) a x 4
  obtain ⟨k, hk⟩ : ∃ k, (frsB A ++ (bent (frB q c) a x 4 ++ more)).length + 1 = k + 1 + A.length := ⟨(frsB A ++ (bent (frB q c) a x 4 ++ more)).length - A.length, by simp only [List.length_append]; omega⟩
  unfold parseS
  rw [hk, goS_mids A (k + 1) ps0 0 _ h2]
  simp only [goS]
  rw [if_pos hp]
  exact hp
/-- A stream read. -/
theorem stm_parse {b : List UInt8} {M : List (Int × Cmd)} {qz : Int} {z : Cmd} (h : Stm b M qz z) : (parseS b).2.2 = 0 := by
  have h1 := frsB_ge M
  have hb : b = frsB M ++ (frB qz z ++ []) := by rw [h.bytes, frsB_append]; simp [frsB]
  rw [hb]
  obtain ⟨k, hk⟩ : ∃ k, (frsB M ++ (frB qz z ++ [])).length + 1 = k + 1 + M.length := ⟨(frsB M ++ (frB qz z ++ [])).length - M.length, by simp only [List.length_append]; omega⟩
  unfold parseS
  rw [hk, goS_mids M (k + 1) ps0 0 _ h.mids, goS_frame h.chk h.rng, if_neg (by rw [h.take]; simp), if_pos h.six, if_pos rfl]

/-- Bent within a longer row. -/
theorem bent_append (p l s : List UInt8) (a : Nat) (x : List UInt8) : ∀ i, a + i ≤ l.length → bent (p ++ (l ++ s)) (p.length + a) x i = p ++ (bent l a x i ++ s)
  | 0, _ => rfl
  | i + 1, h => by
    have ih := bent_append p l s a x i (by omega)
    have hl := bent_length l a x i
    simp only [bent, ih]
    have e1 : bAt (p ++ (bent l a x i ++ s)) ((p.length + a + i : Nat) : Int) = bAt (bent l a x i) ((a + i : Nat) : Int) := by
      unfold bAt
      rw [Int.toNat_natCast, Int.toNat_natCast, List.getD_eq_getElem?_getD, List.getD_eq_getElem?_getD, List.getElem?_append_right (by omega), show p.length + a + i - p.length = a + i by omega, List.getElem?_append_left (by omega)]
    rw [e1, List.set_append_right _ _ (by omega), show p.length + a + i - p.length = a + i by omega, List.set_append_left _ _ (by omega)]

end Go.Proofs.YtnakicjkolpacaaDoor
