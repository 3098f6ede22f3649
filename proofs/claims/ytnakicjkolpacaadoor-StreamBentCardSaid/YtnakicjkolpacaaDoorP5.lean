/- Plain laws: what is written is read, whatever stands behind; cut off it is open. -/
import Derived.Test.YtnakicjkolpacaaDoorP4
set_option linter.unusedSimpArgs false
set_option linter.unusedVariables false
set_option maxRecDepth 10000
namespace Go.Proofs.YtnakicjkolpacaaDoor
open Go.AI

/-- A number that has room in so many bytes. -/
def fitsN (s : Nat) (n : Int) : Prop := 0 ≤ n ∧ n < 256 ^ s ∧ n ≤ 4611686018427387903

theorem getP_gen {a b : List UInt8} {s : Nat} {n : Int} (h : fitsN s n) : getP (a ++ (leB s n ++ b)) (a.length : Nat) s = (n, 0) := by
  obtain ⟨h0, h1, h2⟩ := h
  have e : ((a ++ (leB s n ++ b)).drop ((a.length : Nat) : Int).toNat).take s = leB s n := by
    rw [Int.toNat_natCast, List.drop_left, List.take_append_of_le_length (by simp), List.take_of_length_le (by simp)]
  have e2 := leN_leB s n h0 h1
  unfold getP
  rw [if_pos ⟨by omega, by simp; omega⟩, e, if_pos (by omega), e2]

/-- Numbers that are written are read. -/
theorem numGo_mk : ∀ {ss : List Nat} {ns : List Int} {a b : List UInt8}, ns.length = ss.length → (∀ i (h : i < ss.length) (h' : i < ns.length), fitsN ss[i] ns[i]) → numGo (a ++ (zipB ss ns ++ b)) a.length ss = some (ns, a.length + ss.sum)
  | [], ns, a, b, hl, _ => by
    have : ns = [] := List.eq_nil_of_length_eq_zero hl
    subst this
    simp [numGo]
  | s :: ss, [], a, b, hl, _ => by simp at hl
  | s :: ss, n :: ns, a, b, hl, hf => by
    have h0 : fitsN s n := hf 0 (by simp) (by simp)
    have e : a ++ (zipB (s :: ss) (n :: ns) ++ b) = a ++ (leB s n ++ (zipB ss ns ++ b)) := by simp [zipB]
    have e2 : a ++ (leB s n ++ (zipB ss ns ++ b)) = (a ++ leB s n) ++ (zipB ss ns ++ b) := by simp
    have hg := getP_gen (a := a) (b := zipB ss ns ++ b) h0
    have ih := numGo_mk (ss := ss) (ns := ns) (a := a ++ leB s n) (b := b) (by simpa using hl) (fun i h h' => hf (i + 1) (by simp; omega) (by simp; omega))
    simp only [numGo]
    rw [e, hg]
    simp only [if_true]
    rw [e2, show a.length + s = (a ++ leB s n).length by simp, ih]
    simp only [Option.map_some, List.length_append, leB_length, List.sum_cons]
    congr 2
    omega

theorem numB_mk {ss : List Nat} {ns : List Int} (hl : ns.length = ss.length) (hf : ∀ i (h : i < ss.length) (h' : i < ns.length), fitsN ss[i] ns[i]) : numB (zipB ss ns) ss = true ∧ numO (zipB ss ns) ss = ns := by
  have h := numGo_mk (a := []) (b := []) hl hf
  simp only [List.nil_append, List.append_nil, List.length_nil, Nat.zero_add] at h
  have hlen : ∀ (ss : List Nat) (ns : List Int), ns.length = ss.length → (zipB ss ns).length = ss.sum := by
    intro ss
    induction ss with
    | nil => intro ns _; simp [zipB]
    | cons s ss ih =>
      intro ns hl
      cases ns with
      | nil => simp at hl
      | cons n ns => simp [zipB, ih ns (by simpa using hl)]
  unfold numB numO
  rw [h]
  exact ⟨decide_eq_true (hlen ss ns hl).symm, rfl⟩

theorem fits4 {n : Int} (h : 0 ≤ n ∧ n ≤ 4294967295) : fitsN 4 n := ⟨h.1, by omega, by omega⟩
theorem fits8 {n : Int} (h : 0 ≤ n ∧ n ≤ 4611686018427387903) : fitsN 8 n := ⟨h.1, by omega, h.2⟩

theorem f1 {s : Nat} {n : Int} (h : fitsN s n) : ∀ i (h1 : i < [s].length) (h2 : i < [n].length), fitsN [s][i] [n][i] := by
  intro i h1 h2
  match i, h1, h2 with
  | 0, _, _ => exact h
theorem fC {s : Nat} {n : Int} {ss : List Nat} {ns : List Int} (h : fitsN s n) (hr : ∀ i (h1 : i < ss.length) (h2 : i < ns.length), fitsN ss[i] ns[i]) : ∀ i (h1 : i < (s :: ss).length) (h2 : i < (n :: ns).length), fitsN (s :: ss)[i] (n :: ns)[i] := by
  intro i h1 h2
  match i, h1, h2 with
  | 0, _, _ => exact h
  | i + 1, h1, h2 => exact hr i (by simpa using h1) (by simpa using h2)

/-- What is written is read: payloads. -/
theorem rawC_payB {c : Cmd} (h : chkP c) : rawB c.kind (payB c) = true ∧ rawC c.kind (payB c) = c := by
  obtain ⟨k, i, p, s, f, n, o, g, x⟩ := c
  rcases chkP_inv h with hC | hC | hC | hC | hC | hC
  · simp only at hC
    obtain ⟨rfl, h1, h2, h3, rfl, rfl, rfl, rfl⟩ := hC
    rw [parentsP_iff] at h1
    have e : payB ⟨1, i, p, s, 0, n, 0, 0, []⟩ = zipB [8, 8, 4, 4] [i, p, s, n] := by simp [payB, zipB, putB_cons, putB_nil]
    obtain ⟨q1, q2⟩ := numB_mk (ss := [8, 8, 4, 4]) (ns := [i, p, s, n]) rfl (fC (fits8 (by omega)) (fC (fits8 (by omega)) (fC (fits4 (by omega)) (f1 (fits4 (by omega))))))
    rw [e]
    exact ⟨by simp [rawB, q1], by simp [rawC, q1, q2]⟩
  · simp only at hC
    obtain ⟨rfl, ⟨h1, h2, h3⟩, h4, rfl, rfl, rfl, rfl, rfl, rfl⟩ := hC
    have e : payB ⟨2, 0, 0, 0, f, 0, 0, 0, x⟩ = zipB [4, 4] [f, (x.length / 64 : Int)] ++ x := by simp [payB, zipB, putB_cons, putB_nil]
    have hz : (zipB [4, 4] [f, (x.length / 64 : Int)]).length = 8 := by simp [zipB]
    obtain ⟨q1, q2⟩ := numB_mk (ss := [4, 4]) (ns := [f, (x.length / 64 : Int)]) rfl (fC (fits4 (by omega)) (f1 (fits4 (by omega))))
    have t1 : (zipB [4, 4] [f, (x.length / 64 : Int)] ++ x).take 8 = zipB [4, 4] [f, (x.length / 64 : Int)] := by rw [← hz, List.take_left]
    have t2 : (zipB [4, 4] [f, (x.length / 64 : Int)] ++ x).drop 8 = x := by rw [← hz, List.drop_left]
    rw [e]
    exact ⟨by simp [rawB, t1, t2, q1, q2], by simp [rawC, t1, t2, q1, q2]⟩
  · simp only at hC
    obtain ⟨rfl, h1, h2, rfl, rfl, rfl, rfl, rfl, rfl⟩ := hC
    have e : payB ⟨3, 0, 0, 0, f, n, 0, 0, []⟩ = zipB [4, 4] [f, n] := by simp [payB, zipB, putB_cons, putB_nil]
    obtain ⟨q1, q2⟩ := numB_mk (ss := [4, 4]) (ns := [f, n]) rfl (fC (fits4 (by omega)) (f1 (fits4 (by omega))))
    rw [e]
    exact ⟨by simp [rawB, q1], by simp [rawC, q1, q2]⟩
  · simp only at hC
    obtain ⟨rfl, h1, h2, h3, rfl, rfl, rfl, rfl, rfl⟩ := hC
    have e : payB ⟨4, 0, 0, 0, f, n, o, 0, []⟩ = zipB [4, 4, 4] [f, n, o] := by simp [payB, zipB, putB_cons, putB_nil]
    obtain ⟨q1, q2⟩ := numB_mk (ss := [4, 4, 4]) (ns := [f, n, o]) rfl (fC (fits4 (by omega)) (fC (fits4 (by omega)) (f1 (fits4 (by omega)))))
    rw [e]
    exact ⟨by simp [rawB, q1], by simp [rawC, q1, q2]⟩
  · simp only at hC
    obtain ⟨rfl, h1, rfl, rfl, rfl, rfl, rfl, rfl, rfl⟩ := hC
    have e : payB ⟨5, 0, 0, s, 0, 0, 0, 0, []⟩ = zipB [4] [s] := by simp [payB, zipB, putB_cons, putB_nil]
    obtain ⟨q1, q2⟩ := numB_mk (ss := [4]) (ns := [s]) rfl (f1 (fits4 (by omega)))
    rw [e]
    exact ⟨by simp [rawB, q1], by simp [rawC, q1, q2]⟩
  · simp only at hC
    obtain ⟨rfl, h1, h2, rfl, rfl, rfl, rfl, rfl, rfl⟩ := hC
    have e : payB ⟨6, 0, 0, 0, 0, n, 0, g, []⟩ = zipB [4, 4] [n, g] := by simp [payB, zipB, putB_cons, putB_nil]
    obtain ⟨q1, q2⟩ := numB_mk (ss := [4, 4]) (ns := [n, g]) rfl (fC (fits4 (by omega)) (f1 (fits4 (by omega))))
    rw [e]
    exact ⟨by simp [rawB, q1], by simp [rawC, q1, q2]⟩

theorem payB_le {c : Cmd} (h : chkP c) : (payB c).length ≤ 520 := by
  rcases chkP_inv h with hC | hC | hC | hC | hC | hC
  all_goals (unfold payB; simp only [hC.1])
  all_goals simp
  obtain ⟨_, h1, _⟩ := hC
  omega

theorem chk_kind {c : Cmd} (h : chkP c) : 1 ≤ c.kind ∧ c.kind ≤ 6 := by
  rcases chkP_inv h with hC | hC | hC | hC | hC | hC
  all_goals (have := hC.1; omega)

theorem crcMore_range (l : List UInt8) : 0 ≤ crcMore 0 l ∧ crcMore 0 l ≤ 4294967295 := by
  have h := crcReg_lt l (n := 4294967295 - ((0 : Int) % 4294967296).toNat) (by omega)
  unfold crcMore
  omega

theorem take_of_append {a b : List UInt8} {n : Nat} (h : n ≤ a.length) : (a ++ b).take n = a.take n := List.take_append_of_le_length h
theorem drop_take_append {a b : List UInt8} {m n : Nat} (h : m + n ≤ a.length) : ((a ++ b).drop m).take n = (a.drop m).take n := by
  rw [List.drop_append_of_le_length (by omega), List.take_append_of_le_length (by simp; omega)]

theorem frB_len4 {seq : Int} {c : Cmd} (h : (payB c).length ≤ 520) : leN (((frB seq c).drop 12).take 4) = (payB c).length := by
  have e : frB seq c = ([70, 82, 65, 77] ++ (leB 4 seq ++ leB 4 c.kind)) ++ (leB 4 ((payB c).length : Int) ++ (payB c ++ leB 4 (crcMore 0 (frH seq c)))) := by rw [frB_eq]; simp
  rw [e, List.drop_left' (by simp), List.take_left' (by simp)]
  have := leN_leB4 (n := ((payB c).length : Int)) (by omega) (by omega)
  omega

theorem frB_good (seq : Int) (c : Cmd) : goodP (frB seq c) = true := by
  have hlen : (frB seq c).length - 4 = (frH seq c).length := by rw [frB_length, frH_length]; omega
  unfold goodP
  rw [hlen]
  have e : frB seq c = frH seq c ++ leB 4 (crcMore 0 (frH seq c)) := by simp [frB, putB_cons, putB_nil]
  have hr := crcMore_range (frH seq c)
  refine decide_eq_true ⟨by rw [frB_length]; omega, ?_⟩
  rw [e, List.drop_left, List.take_left]
  exact leN_leB4 hr.1 (by omega)

theorem lenP_frB {seq : Int} {c : Cmd} (h : chkP c) (more : List UInt8) : lenP (frB seq c ++ more) = (((frB seq c).length : Int), 0) := by
  have hn := payB_le h
  have hl := frB_length seq c
  have h4 : (frB seq c ++ more).take 4 = [70, 82, 65, 77] := by rw [take_of_append (by omega)]; exact frB_take4 seq c
  have hn4 : leN (((frB seq c ++ more).drop 12).take 4) = (payB c).length := by rw [drop_take_append (by omega)]; exact frB_len4 hn
  unfold lenP
  rw [h4, hn4, if_neg (fun hh => hh (by rw [List.take_of_length_le (by simp; omega)])), if_neg (by simp; omega), if_neg (by omega), if_neg (by simp; omega)]
  rw [hl]

/-- What is written is read, whatever stands behind. -/
theorem parse_frB {seq : Int} {c : Cmd} (h : chkP c) (hs : 0 ≤ seq ∧ seq ≤ 4294967295) (more : List UInt8) :
    pErr (frB seq c ++ more) = 0 ∧ pSeq (frB seq c ++ more) = seq ∧ pCmd (frB seq c ++ more) = c ∧ (lenP (frB seq c ++ more)).1 = (frB seq c).length ∧ pKind (frB seq c ++ more) = c.kind ∧ pPay (frB seq c ++ more) = payB c := by
  have hl := lenP_frB (seq := seq) h more
  have hk := chk_kind h
  have hD : pD (frB seq c ++ more) = frB seq c := by
    unfold pD
    rw [hl]
    simp
  have hsq : pSeq (frB seq c ++ more) = seq := by
    unfold pSeq
    rw [hD, frB_eq, List.drop_left' (by rfl), List.take_left' (by simp)]
    exact leN_leB4 hs.1 (by omega)
  have hkd : pKind (frB seq c ++ more) = c.kind := by
    unfold pKind
    have e : frB seq c = ([70, 82, 65, 77] ++ leB 4 seq) ++ (leB 4 c.kind ++ (leB 4 ((payB c).length : Int) ++ (payB c ++ leB 4 (crcMore 0 (frH seq c))))) := by rw [frB_eq]; simp
    rw [hD, e, List.drop_left' (by simp), List.take_left' (by simp)]
    exact leN_leB4 (by omega) (by omega)
  have hp : pPay (frB seq c ++ more) = payB c := by
    unfold pPay
    rw [hD, hl]
    have := frB_mid seq c
    simp only [Int.toNat_natCast]
    rw [← this]
    congr 1
  obtain ⟨r1, r2⟩ := rawC_payB h
  refine ⟨?_, hsq, ?_, by rw [hl], hkd, hp⟩
  · unfold pErr
    rw [hl, hD, frB_good, hkd, hp, r1, r2, decide_eq_true h]
    simp
  · unfold pCmd
    rw [hkd, hp]; exact r2

/-- Cut off it is open. -/
theorem parse_cut {seq : Int} {c : Cmd} (h : chkP c) {m : Nat} (hm : m < (frB seq c).length) : pErr ((frB seq c).take m) = 16 := by
  have hn := payB_le h
  have hl := frB_length seq c
  have hlt : ((frB seq c).take m).length = m := by simp; omega
  have h4 : ((frB seq c).take m).take 4 = ([70, 82, 65, 77] : List UInt8).take m := by
    rw [← frB_take4 seq c, List.take_take, List.take_take, Nat.min_comm]
  have hP : (lenP ((frB seq c).take m)).2 = 16 := by
    unfold lenP
    rw [hlt, h4, if_neg (fun hh => hh rfl)]
    by_cases h16 : m < 16
    · rw [if_pos h16]
    · have hn4 : leN ((((frB seq c).take m).drop 12).take 4) = (payB c).length := by
        rw [List.drop_take, List.take_take, show min 4 (m - 12) = 4 by omega]; exact frB_len4 hn
      rw [if_neg h16, hn4, if_neg (by omega), if_pos (by omega)]
  unfold pErr
  rw [hP]
  rfl

end Go.Proofs.YtnakicjkolpacaaDoor
