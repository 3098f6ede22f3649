/- Plain laws of streams: what a reader of frames does. -/
import Derived.Test.YtnakicjkolpacaaDoorP6
set_option linter.unusedSimpArgs false
set_option linter.unusedVariables false
set_option maxRecDepth 10000
namespace Go.Proofs.YtnakicjkolpacaaDoor
open Go.AI

/-- A command, and how its data are held. -/
structure CV where
  c : Cmd
  f : Bool
  s : Nat
def CV.av (x : CV) : AV := x.c.av false x.f x.s
def CV.ok (x : CV) : Prop := x.s = 1 ∨ x.c.data = []
def rawV (kind : Int) (b : List UInt8) : CV := ⟨rawC kind b, !rawD kind b, if rawD kind b then 1 else 0⟩
def pCV (l : List UInt8) : CV := rawV (pKind l) (pPay l)
def cvOf (c : Cmd) : CV := ⟨c, !rawD c.kind (payB c), if rawD c.kind (payB c) then 1 else 0⟩

/-- A reader of a stream. -/
structure PS where
  l : List CV
  next : Int
  sum : Int

def PS.cnt (p : PS) : Int := (p.l.head?.map fun x => x.c.count).getD 0

/-- Why a frame is not taken. -/
def takeE (p : PS) (c : Cmd) (seq : Int) : Int :=
  if ¬ (p.l = [] ↔ c.kind = 1) ∨ seq ≠ p.next then 14
  else if c.kind = 6 then
    if c.count ≠ p.next - 1 then 14
    else if p.cnt = 0 ∧ c.digest ≠ p.sum then 15 else 0
  else 0

/-- Behind a frame that is taken. -/
def takeP (p : PS) (x : CV) : PS :=
  ⟨p.l ++ [x], (if x.c.kind = 1 then x.c.count else p.next) + 1, if x.c.kind = 1 ∨ x.c.kind = 6 then p.sum else crcMore p.sum (payB x.c)⟩

/-- Frames read one by one: the reader then, how far, why it ends. -/
def goS : Nat → PS → Nat → List UInt8 → PS × Nat × Int
  | 0, p, g, _ => (p, g, 0)
  | k + 1, p, g, r =>
    if pErr r ≠ 0 then (p, g, pErr r)
    else if takeE p (pCmd r) (pSeq r) ≠ 0 then (p, g, takeE p (pCmd r) (pSeq r))
    else if (pCmd r).kind = 6 then (takeP p (pCV r), g + (lenP r).1.toNat, if (lenP r).1.toNat < r.length then 13 else 0)
    else goS k (takeP p (pCV r)) (g + (lenP r).1.toNat) (r.drop (lenP r).1.toNat)

def ps0 : PS := ⟨[], 0, 0⟩
def parseS (b : List UInt8) : PS × Nat × Int := goS (b.length + 1) ps0 0 b

theorem lenP_pos {r : List UInt8} (h : pErr r = 0) : 20 ≤ (lenP r).1.toNat ∧ (lenP r).1.toNat ≤ r.length := by
  obtain ⟨e0, _, _, _⟩ := pErr_ok h
  obtain ⟨n, h1, h2, _⟩ := lenP_ok e0
  omega

/-- More steps than bytes are as many as are wanted. -/
theorem goS_fuel : ∀ (k k' : Nat) (p : PS) (g : Nat) (r : List UInt8), r.length < k → r.length < k' → goS k p g r = goS k' p g r
  | 0, _, _, _, _, h, _ => by omega
  | _ + 1, 0, _, _, _, _, h => by omega
  | k + 1, k' + 1, p, g, r, h, h' => by
    simp only [goS]
    by_cases h0 : pErr r = 0
    · have hl := lenP_pos h0
      rw [goS_fuel k k' _ _ (r.drop (lenP r).1.toNat) (by simp; omega) (by simp; omega)]
    · rw [if_pos h0, if_pos h0]

/-- How far it was right. -/
theorem goS_good : ∀ (k : Nat) (p : PS) (g : Nat) (r : List UInt8), (goS k p g r).2.1 ≤ g + r.length ∧ g ≤ (goS k p g r).2.1
  | 0, p, g, r => by simp [goS]
  | k + 1, p, g, r => by
    simp only [goS]
    split
    · simp
    split
    · simp
    rename_i h0 _
    have hl := lenP_pos (Classical.not_not.1 h0)
    split
    · simp; omega
    · have ih := goS_good k (takeP p (pCV r)) (g + (lenP r).1.toNat) (r.drop (lenP r).1.toNat)
      simp only [List.length_drop] at ih
      omega

/-- A frame that is right, ahead of others. -/
theorem goS_frame {k : Nat} {p : PS} {g : Nat} {seq : Int} {c : Cmd} {more : List UInt8} (hc : chkP c) (hs : 0 ≤ seq ∧ seq ≤ 4294967295) :
    goS (k + 1) p g (frB seq c ++ more) = if takeE p c seq ≠ 0 then (p, g, takeE p c seq)
      else if c.kind = 6 then (takeP p (cvOf c), g + (frB seq c).length, if more = [] then 0 else 13)
      else goS k (takeP p (cvOf c)) (g + (frB seq c).length) more := by
  obtain ⟨h1, h2, h3, h4, h5, h6⟩ := parse_frB hc hs more
  have hcv : pCV (frB seq c ++ more) = cvOf c := by
    unfold pCV rawV cvOf
    rw [h5, h6, (rawC_payB hc).2]
  simp only [goS]
  rw [if_neg (by rw [h1]; simp), h2, h3, h4, hcv, Int.toNat_natCast, List.drop_left]
  by_cases hm : more = []
  · subst hm
    have e : ¬ (frB seq c).length < (frB seq c ++ []).length := by simp
    rw [if_neg e, if_pos rfl]
  · have e : (frB seq c).length < (frB seq c ++ more).length := by have := List.length_pos_iff.2 hm; simp; omega
    rw [if_pos e, if_neg hm]

/-- Frames one behind the other. -/
def frsB : List (Int × Cmd) → List UInt8
  | [] => []
  | (q, c) :: r => frB q c ++ frsB r
def after (p : PS) (l : List (Int × Cmd)) : PS := l.foldl (fun p x => takeP p (cvOf x.2)) p
/-- Frames that are taken one by one, none of them an End. -/
def Mids : PS → List (Int × Cmd) → Prop
  | _, [] => True
  | p, (q, c) :: r => chkP c ∧ (0 ≤ q ∧ q ≤ 4294967295) ∧ takeE p c q = 0 ∧ c.kind ≠ 6 ∧ Mids (takeP p (cvOf c)) r

theorem frsB_append : ∀ (a b : List (Int × Cmd)), frsB (a ++ b) = frsB a ++ frsB b
  | [], _ => rfl
  | (q, c) :: a, b => by simp [frsB, frsB_append a b]
theorem after_append (p : PS) (a b : List (Int × Cmd)) : after p (a ++ b) = after (after p a) b := by simp [after]
theorem after_l : ∀ (a : List (Int × Cmd)) (p : PS), (after p a).l = p.l ++ a.map fun x => cvOf x.2
  | [], p => by simp [after]
  | (q, c) :: a, p => by
    have := after_l a (takeP p (cvOf c))
    show (after (takeP p (cvOf c)) a).l = _
    rw [this]
    simp [takeP]
theorem mids_append : ∀ (a b : List (Int × Cmd)) (p : PS), Mids p (a ++ b) ↔ Mids p a ∧ Mids (after p a) b
  | [], b, p => by simp [Mids, after]
  | (q, c) :: a, b, p => by
    have := mids_append a b (takeP p (cvOf c))
    simp only [List.cons_append, Mids, this]
    show _ ∧ _ ∧ _ ∧ _ ∧ _ ∧ Mids (after (takeP p (cvOf c)) a) b ↔ _
    simp only [and_assoc]
    rfl

theorem goS_mids : ∀ (a : List (Int × Cmd)) (k : Nat) (p : PS) (g : Nat) (rest : List UInt8), Mids p a → goS (k + a.length) p g (frsB a ++ rest) = goS k (after p a) (g + (frsB a).length) rest
  | [], k, p, g, rest, _ => by simp [frsB, after]
  | (q, c) :: a, k, p, g, rest, h => by
    obtain ⟨h1, h2, h3, h4, h5⟩ := h
    have ih := goS_mids a k (takeP p (cvOf c)) (g + (frB q c).length) rest h5
    show goS (k + a.length + 1) p g (frB q c ++ frsB a ++ rest) = _
    rw [List.append_assoc, goS_frame h1 h2, if_neg (by rw [h3]; simp), if_neg h4, ih]
    show _ = goS k _ (g + (frB q c ++ frsB a).length) _
    rw [List.length_append, Nat.add_assoc]
    rfl

/-- Frames cut off within. -/
theorem goS_cut : ∀ (a : List (Int × Cmd)) (q : Int) (c : Cmd) (k : Nat) (p : PS) (g m : Nat), Mids p a → chkP c → a.length < k → m < (frsB a ++ frB q c).length →
    ∃ j g', j ≤ a.length ∧ g' ≤ g + m ∧ goS k p g ((frsB a ++ frB q c).take m) = (after p (a.take j), g', 16)
  | [], q, c, 0, p, g, m, _, hc, hk, hm => by simp at hk
  | [], q, c, k + 1, p, g, m, _, hc, _, hm => by
    refine ⟨0, g, by simp, by omega, ?_⟩
    have := parse_cut (seq := q) hc (m := m) (by simpa [frsB] using hm)
    show goS (k + 1) p g ((frB q c).take m) = _
    simp only [goS]
    rw [this, if_pos (by decide)]
    rfl
  | (q0, c0) :: a, q, c, k, p, g, m, h, hc, hk, hm => by
    obtain ⟨h1, h2, h3, h4, h5⟩ := h
    obtain ⟨k, rfl⟩ : ∃ k', k = k' + 1 := ⟨k - 1, by simp at hk; omega⟩
    have e : frsB ((q0, c0) :: a) ++ frB q c = frB q0 c0 ++ (frsB a ++ frB q c) := by simp [frsB]
    rw [e] at hm ⊢
    by_cases hlt : m < (frB q0 c0).length
    · refine ⟨0, g, by simp, by omega, ?_⟩
      have := parse_cut (seq := q0) h1 hlt
      rw [List.take_append_of_le_length (by omega)]
      simp only [goS]
      rw [this, if_pos (by decide)]
      rfl
    · obtain ⟨j, g', hj, hg', ih⟩ := goS_cut a q c k (takeP p (cvOf c0)) (g + (frB q0 c0).length) (m - (frB q0 c0).length) h5 hc (by simp at hk; omega) (by rw [List.length_append] at hm; omega)
      refine ⟨j + 1, g', by simp; omega, by omega, ?_⟩
      rw [List.take_append, List.take_of_length_le (by omega), goS_frame h1 h2, if_neg (by rw [h3]; simp), if_neg h4, ih]
      rfl

/-- The bytes of commands, numbered from one on. -/
def bodyB : Nat → List Cmd → List UInt8
  | _, [] => []
  | i, c :: r => frB i c ++ bodyB (i + 1) r
def numd : Nat → List Cmd → List (Int × Cmd)
  | _, [] => []
  | i, c :: r => ((i : Int), c) :: numd (i + 1) r
theorem bodyB_numd : ∀ (i : Nat) (l : List Cmd), bodyB i l = frsB (numd i l)
  | _, [] => rfl
  | i, c :: r => by simp [bodyB, numd, frsB, bodyB_numd (i + 1) r]
theorem numd_length : ∀ (i : Nat) (l : List Cmd), (numd i l).length = l.length
  | _, [] => rfl
  | i, c :: r => by simp [numd, numd_length (i + 1) r]
theorem numd_append : ∀ (i : Nat) (a b : List Cmd), numd i (a ++ b) = numd i a ++ numd (i + a.length) b
  | i, [], b => by simp [numd]
  | i, c :: a, b => by
    simp only [List.cons_append, numd, numd_append (i + 1) a b, List.length_cons]
    rw [show i + 1 + a.length = i + (a.length + 1) by omega]
theorem numd_map : ∀ (i : Nat) (l : List Cmd), (numd i l).map (fun x => cvOf x.2) = l.map cvOf
  | _, [] => rfl
  | i, c :: r => by simp [numd, numd_map (i + 1) r]
theorem bodyB_append (i : Nat) (a b : List Cmd) : bodyB i (a ++ b) = bodyB i a ++ bodyB (i + a.length) b := by
  rw [bodyB_numd, bodyB_numd, bodyB_numd, numd_append, frsB_append]

/-- The sum of content. -/
def sumC (n : Int) (l : List Cmd) : Int := l.foldl (fun s c => if c.kind = 1 ∨ c.kind = 6 then s else crcMore s (payB c)) n
def content (c : Cmd) : Prop := 2 ≤ c.kind ∧ c.kind ≤ 5
instance (c : Cmd) : Decidable (content c) := by unfold content; infer_instance

theorem mids_content : ∀ (l : List Cmd) (i : Nat) (p : PS), (∀ c ∈ l, chkP c ∧ content c) → p.l ≠ [] → p.next = i → i + l.length ≤ 4294967295 → Mids p (numd i l)
  | [], _, _, _, _, _, _ => trivial
  | c :: l, i, p, hl, hp, hn, hi => by
    obtain ⟨h1, h2⟩ := hl c (by simp)
    unfold content at h2
    simp only [List.length_cons] at hi
    refine ⟨h1, by omega, ?_, by omega, ?_⟩
    · unfold takeE
      rw [if_neg, if_neg (by omega)]
      rintro (h | h)
      · exact h ⟨fun h => absurd h hp, fun h => by omega⟩
      · exact h hn.symm
    · refine mids_content l (i + 1) (takeP p (cvOf c)) (fun c hc => hl c (by simp [hc])) (by simp [takeP]) ?_ (by omega)
      show (if c.kind = 1 then _ else _) + 1 = _
      rw [if_neg (by omega), hn]
      omega

theorem after_content : ∀ (l : List Cmd) (i : Nat) (p : PS), (∀ c ∈ l, content c) → (after p (numd i l)).next = p.next + l.length ∧ (after p (numd i l)).sum = sumC p.sum l
  | [], i, p, _ => by simp [numd, after, sumC]
  | c :: l, i, p, h => by
    have h2 := h c (by simp)
    unfold content at h2
    obtain ⟨h3, h4⟩ := after_content l (i + 1) (takeP p (cvOf c)) (fun c hc => h c (by simp [hc]))
    have e : after p (numd i (c :: l)) = after (takeP p (cvOf c)) (numd (i + 1) l) := rfl
    rw [e, h3, h4]
    have e2 : (takeP p (cvOf c)).next = p.next + 1 := by
      show (if c.kind = 1 then _ else _) + 1 = _
      rw [if_neg (by omega)]
    have e3 : (takeP p (cvOf c)).sum = crcMore p.sum (payB c) := by
      show (if c.kind = 1 ∨ c.kind = 6 then _ else _) = _
      rw [if_neg (by omega)]
      rfl
    rw [e2, e3]
    refine ⟨by simp; omega, ?_⟩
    show _ = sumC (if c.kind = 1 ∨ c.kind = 6 then p.sum else crcMore p.sum (payB c)) l
    rw [if_neg (by omega)]

end Go.Proofs.YtnakicjkolpacaaDoor
