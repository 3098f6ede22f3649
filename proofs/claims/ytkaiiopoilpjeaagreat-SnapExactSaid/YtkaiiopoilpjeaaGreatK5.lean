import Derived.Test.YtkaiiopoilpjeaaGreatMK1
import Derived.Test.YtkaiiopoilpjeaaGreatA30
set_option linter.unusedSimpArgs false
set_option linter.unusedVariables false
set_option maxRecDepth 10000
set_option maxHeartbeats 16000000
namespace Go.Proofs.YtkaiiopoilpjeaaGreat
open Go.AI
def g4 (b : List UInt8) (a : Nat) : Nat := leN ((b.drop a).take 4)
theorem getP_4 {b : List UInt8} {a : Nat} (h : a + 4 ≤ b.length) : getP b a 4 = (((g4 b a : Nat) : Int), 0) := by
 have hlt := leN_lt ((b.drop a).take 4)
 have hlen : ((b.drop a).take 4).length = 4 := by simp; omega
 rw [hlen] at hlt
 unfold getP g4
 rw [if_pos (by omega), Int.toNat_natCast, if_pos (by omega)]
theorem getP_nat (b : List UInt8) (a : Int) (s : Nat) : ∃ n : Nat, (getP b a s).1 = n ∧ n < 4611686018427387904 := by
 unfold getP
 split
 ·split
  ·exact ⟨_, rfl, by omega⟩
  ·exact ⟨0, rfl, by decide⟩
 ·exact ⟨0, rfl, by decide⟩
theorem numS {b : List UInt8} (h : b.length = 64) : numGo b 4 sS = if (getP b ((8 : Nat) : Int) 8).2 = 0 then (if (getP b ((16 : Nat) : Int) 8).2 = 0 then some ([((g4 b 4 : Nat) : Int), (getP b ((8 : Nat) : Int) 8).1, (getP b ((16 : Nat) : Int) 8).1, ((g4 b 24 : Nat) : Int), ((g4 b 28 : Nat) : Int), ((g4 b 32 : Nat) : Int), ((g4 b 36 : Nat) : Int), ((g4 b 40 : Nat) : Int)], 44) else none) else none := by
 have e4 := getP_4 (b := b) (a := 4) (by omega)
 have e24 := getP_4 (b := b) (a := 24) (by omega)
 have e28 := getP_4 (b := b) (a := 28) (by omega)
 have e32 := getP_4 (b := b) (a := 32) (by omega)
 have e36 := getP_4 (b := b) (a := 36) (by omega)
 have e40 := getP_4 (b := b) (a := 40) (by omega)
 show (if (getP b ((4 : Nat) : Int) 4).2 = 0 then ((if (getP b ((8 : Nat) : Int) 8).2 = 0 then ((if (getP b ((16 : Nat) : Int) 8).2 = 0 then ((numGo b 24 [4, 4, 4, 4, 4]).map fun x => ((getP b ((16 : Nat) : Int) 8).1 :: x.1, x.2)) else none).map fun x => ((getP b ((8 : Nat) : Int) 8).1 :: x.1, x.2)) else none).map fun x => ((getP b ((4 : Nat) : Int) 4).1 :: x.1, x.2)) else none) = _
 have e5 : numGo b 24 [4, 4, 4, 4, 4] = some ([((g4 b 24 : Nat) : Int), ((g4 b 28 : Nat) : Int), ((g4 b 32 : Nat) : Int), ((g4 b 36 : Nat) : Int), ((g4 b 40 : Nat) : Int)], 44) := by
  show (if (getP b ((24 : Nat) : Int) 4).2 = 0 then ((if (getP b ((28 : Nat) : Int) 4).2 = 0 then ((if (getP b ((32 : Nat) : Int) 4).2 = 0 then ((if (getP b ((36 : Nat) : Int) 4).2 = 0 then ((if (getP b ((40 : Nat) : Int) 4).2 = 0 then ((some ([], 44)).map fun x => ((getP b ((40 : Nat) : Int) 4).1 :: x.1, x.2)) else none).map fun x => ((getP b ((36 : Nat) : Int) 4).1 :: x.1, x.2)) else none).map fun x => ((getP b ((32 : Nat) : Int) 4).1 :: x.1, x.2)) else none).map fun x => ((getP b ((28 : Nat) : Int) 4).1 :: x.1, x.2)) else none).map fun x => ((getP b ((24 : Nat) : Int) 4).1 :: x.1, x.2)) else none) = _
  rw [e24, e28, e32, e36, e40]
  rfl
 rw [e5, e4]
 by_cases h1 : (getP b ((8 : Nat) : Int) 8).2 = 0
 ·rw [if_pos h1, if_pos h1]
  by_cases h2 : (getP b ((16 : Nat) : Int) 8).2 = 0
  ·rw [if_pos h2, if_pos h2]; rfl
  ·rw [if_neg h2, if_neg h2]; rfl
 ·rw [if_neg h1, if_neg h1]; rfl
theorem readP_open {b m : List UInt8} {ss : List Nat} : (openP b m ≠ 0 → readP b m ss = ([], openP b m)) ∧ (openP b m = 0 → b.length = 64 ∧ readP b m ss = match numGo b 4 ss with | none => ([], 1) | some (o, e) => if zerosP b e 60 = true then (o, 0) else ([], 1)) := by
 unfold openP readP
 by_cases h1 : b.length ≠ 64
 ·rw [if_pos h1, if_pos h1]
  exact ⟨fun _ => rfl, fun h => by cases h⟩
 ·rw [if_neg h1, if_neg h1]
  by_cases h2 : b.take 4 ≠ m
  ·rw [if_pos h2, if_pos h2]
   exact ⟨fun _ => rfl, fun h => by cases h⟩
  ·rw [if_neg h2, if_neg h2]
   by_cases h3 : goodP b = false
   ·rw [if_pos h3, if_pos h3]
    exact ⟨fun _ => rfl, fun h => by cases h⟩
   ·rw [if_neg h3, if_neg h3]
    exact ⟨fun h => absurd rfl h, fun _ => ⟨Classical.not_not.1 h1, rfl⟩⟩
attribute [local irreducible] aops aexec acall aiter aop W WO
theorem r_Get4 (k : Nat) (hk : 20 ≤ k) (t f : Bool) (l : List UInt8) (a : Nat) (ha : a + 4 ≤ l.length) (hl : l.length < 1000000) : FnV (CF k) n_ref01_Get4 [.islc t f 1 (BL l), .int .i64 a] (.int .i64 (g4 l a : Nat)) := by
 obtain ⟨j, rfl⟩ : ∃ j, k = j + 2 := ⟨k - 2, by omega⟩
 exact e_ref_Get4 j (by omega) t f l a ha hl
theorem r_Get8 (k : Nat) (hk : 20 ≤ k) (t f : Bool) (l : List UInt8) (a : Nat) (ha : a + 8 ≤ l.length) (hl : l.length < 1000000) : FnV (CF k) n_ref01_Get8 [.islc t f 1 (BL l), .int .i64 a] (.tup [.int .i64 (getP l a 8).1, .bool (decide ((getP l a 8).2 = 0))]) := by
 obtain ⟨j, rfl⟩ : ∃ j, k = j + 2 := ⟨k - 2, by omega⟩
 exact e_ref_Get8 j (by omega) t f l a ha hl
theorem parseRec_val {b : List UInt8} {o1 o2 z r : Bool} {c4 n1 n2 c24 c28 c32 c36 c40 : Nat} (h0 : openP b mS = 0) (e4 : c4 = g4 b 4) (en1 : (getP b ((8 : Nat) : Int) 8).1 = n1) (en2 : (getP b ((16 : Nat) : Int) 8).1 = n2) (e24 : c24 = g4 b 24) (e28 : c28 = g4 b 28) (e32 : c32 = g4 b 32) (e36 : c36 = g4 b 36) (e40 : c40 = g4 b 40)
  (ho1 : o1 = decide ((getP b ((8 : Nat) : Int) 8).2 = 0)) (ho2 : o2 = decide ((getP b ((16 : Nat) : Int) 8).2 = 0)) (hz : z = zerosP b 44 60) (hr : r = decide (Rec.ok ⟨c4, n1, n2, c24, c28, c32, c36, c40⟩)) :
  parseRec b = if (o1 && o2 && r && z) = true then (⟨c4, n1, n2, c24, c28, c32, c36, c40⟩, 0) else (rec0, 1) := by
 subst e4 e24 e28 e32 e36 e40 ho1 ho2 hz hr
 obtain ⟨hlen, hrd⟩ := (readP_open (b := b) (m := mS) (ss := sS)).2 h0
 unfold parseRec
 rw [hrd, numS hlen, en1, en2]
 by_cases o1 : (getP b ((8 : Nat) : Int) 8).2 = 0
 ·rw [if_pos o1, decide_eq_true o1]
  by_cases o2 : (getP b ((16 : Nat) : Int) 8).2 = 0
  ·rw [if_pos o2, decide_eq_true o2]
   cases hz : zerosP b 44 60 with
   | true =>
    have hrec : recOf [((g4 b 4 : Nat) : Int), (n1 : Nat), (n2 : Nat), ((g4 b 24 : Nat) : Int), ((g4 b 28 : Nat) : Int), ((g4 b 32 : Nat) : Int), ((g4 b 36 : Nat) : Int), ((g4 b 40 : Nat) : Int)] = ⟨g4 b 4, n1, n2, g4 b 24, g4 b 28, g4 b 32, g4 b 36, g4 b 40⟩ := rfl
    simp only
    rw [if_pos hz, if_neg (by simp), hrec]
    by_cases hk : Rec.ok ⟨g4 b 4, n1, n2, g4 b 24, g4 b 28, g4 b 32, g4 b 36, g4 b 40⟩
    ·rw [if_pos hk, decide_eq_true hk]; rfl
    ·rw [if_neg hk, decide_eq_false hk]; rfl
   | false =>
    have hz' : ¬ (zerosP b 44 60 = true) := by rw [hz]; decide
    simp only
    rw [if_neg hz', Bool.and_false]; rfl
  ·rw [if_neg o2, decide_eq_false o2]; rfl
 ·rw [if_neg o1, decide_eq_false o1]; rfl
theorem r_ParseRecord (k : Nat) (hk : 1000050 ≤ k) (t f : Bool) (b : List UInt8) (hb : b.length < 1000000) : FnV (CF k) n_ref01_ParseRecord [.islc t f 1 (BL b)] (.tup [(parseRec b).1.av, .int .i64 (parseRec b).2]) := by
 have ho := r_open (k - 1) (by omega) t f b mS hb
 obtain ⟨hn0, h0⟩ := readP_open (b := b) (m := mS) (ss := sS)
 refine fnk (by omega) B_ref01_ParseRecord rfl ?_
 by_cases hz : openP b mS = 0
 rotate_left 1
 ·have hv : parseRec b = (rec0, openP b mS) := by
   unfold parseRec
   rw [hn0 hz]
   simp only
   rw [if_pos hz]
  rw [hv]
  obtain ⟨e, he⟩ : ∃ e, e = openP b mS := ⟨_, rfl⟩
  rw [← he] at ho hz ⊢
  unfold ref01_ParseRecord
  repeat' (first | refine qS ?_ | refine qN ?_ | refine q_callB (ho) (fun _ => ?_) (fun _ => ?_) | refine q_call (ho) ?_ | refine qQb ?_ | refine q_cmp2 (fun _ => ?_) (fun _ => ?_))
  exact ⟨Or.inr rfl, .tup [rec0.av, .int .i64 e], by kernel_rfl, by kernel_rfl⟩
 obtain ⟨hlen, _⟩ := h0 hz
 have g8 := r_Get8 (k - 1) (by omega) t f b 8 (by omega) hb
 have g16 := r_Get8 (k - 1) (by omega) t f b 16 (by omega) hb
 have q4 := r_Get4 (k - 1) (by omega) t f b 4 (by omega) hb
 have q24 := r_Get4 (k - 1) (by omega) t f b 24 (by omega) hb
 have q28 := r_Get4 (k - 1) (by omega) t f b 28 (by omega) hb
 have q32 := r_Get4 (k - 1) (by omega) t f b 32 (by omega) hb
 have q36 := r_Get4 (k - 1) (by omega) t f b 36 (by omega) hb
 have q40 := r_Get4 (k - 1) (by omega) t f b 40 (by omega) hb
 have hzr := r_Zeros (k - 1) (by omega) t f b 44 60 hb (by decide) (by decide)
 obtain ⟨n1, hn1, _⟩ := getP_nat b ((8 : Nat) : Int) 8
 obtain ⟨n2, hn2, _⟩ := getP_nat b ((16 : Nat) : Int) 8
 have hrec := r_Record (k - 1) (by omega) ⟨g4 b 4, n1, n2, g4 b 24, g4 b 28, g4 b 32, g4 b 36, g4 b 40⟩
 obtain ⟨c4, e4⟩ : ∃ c, c = g4 b 4 := ⟨_, rfl⟩
 obtain ⟨c24, e24⟩ : ∃ c, c = g4 b 24 := ⟨_, rfl⟩
 obtain ⟨c28, e28⟩ : ∃ c, c = g4 b 28 := ⟨_, rfl⟩
 obtain ⟨c32, e32⟩ : ∃ c, c = g4 b 32 := ⟨_, rfl⟩
 obtain ⟨c36, e36⟩ : ∃ c, c = g4 b 36 := ⟨_, rfl⟩
 obtain ⟨c40, e40⟩ : ∃ c, c = g4 b 40 := ⟨_, rfl⟩
 rw [← e4, ← e24, ← e28, ← e32, ← e36, ← e40] at hrec
 rw [← e4] at q4
 rw [← e24] at q24
 rw [← e28] at q28
 rw [← e32] at q32
 rw [← e36] at q36
 rw [← e40] at q40
 rw [hn1] at g8
 rw [hn2] at g16
 obtain ⟨r, hr⟩ : ∃ r, r = decide (Rec.ok ⟨c4, n1, n2, c24, c28, c32, c36, c40⟩) := ⟨_, rfl⟩
 obtain ⟨o1, ho1⟩ : ∃ o, o = decide ((getP b ((8 : Nat) : Int) 8).2 = 0) := ⟨_, rfl⟩
 obtain ⟨o2, ho2⟩ : ∃ o, o = decide ((getP b ((16 : Nat) : Int) 8).2 = 0) := ⟨_, rfl⟩
 obtain ⟨z, hz4⟩ : ∃ z, z = zerosP b 44 60 := ⟨_, rfl⟩
 rw [parseRec_val hz e4 hn1 hn2 e24 e28 e32 e36 e40 ho1 ho2 hz4 hr]
 rw [hz] at ho
 rw [← ho1] at g8
 rw [← ho2] at g16
 rw [← hr] at hrec
 rw [← hz4] at hzr
 unfold Rec.av at hrec
 simp only at hrec
 clear hz hr ho1 ho2 hz4 e4 e24 e28 e32 e36 e40 hn1 hn2 h0 hn0
 unfold ref01_ParseRecord
 repeat' (first
  | refine qS ?_ | refine qN ?_ | refine q_call g8 ?_ | refine q_call g16 ?_ | refine q_callB (ho) (fun _ => ?_) (fun _ => ?_) | refine q_call (ho) ?_
  | refine q_callB (q4) (fun _ => ?_) (fun _ => ?_) | refine q_call (q4) ?_ | refine q_callB (q24) (fun _ => ?_) (fun _ => ?_) | refine q_call (q24) ?_
  | refine q_callB (q28) (fun _ => ?_) (fun _ => ?_) | refine q_call (q28) ?_ | refine q_callB (q32) (fun _ => ?_) (fun _ => ?_) | refine q_call (q32) ?_
  | refine q_callB (q36) (fun _ => ?_) (fun _ => ?_) | refine q_call (q36) ?_ | refine q_callB (q40) (fun _ => ?_) (fun _ => ?_) | refine q_call (q40) ?_ | refine qQb ?_
  | refine q_cmp2 (fun _ => ?_) (fun _ => ?_))
 refine wo_cut [(0, .islc t f 1 (BL b)), (2, .ptr 0 1 1 8 0 0), (9, .ptr 1 1 1 8 0 0), (8, .bool o2), (41, .bool o1)] [(0, ⟨1, false, .row 8 [rec0.av]⟩), (1, ⟨1, false, .row 8 [Rec.av ⟨c4, n1, n2, c24, c28, c32, c36, c40⟩]⟩)] ⟨by kernel_rfl, by kernel_rfl, by kernel_rfl, by kernel_rfl, by kernel_rfl, trivial⟩ ⟨by kernel_rfl, by kernel_rfl, trivial⟩ (fun T H hT hH => ?_)
 obtain ⟨h0, h1, -⟩ := hH
 simp only [over]
 clear hT q4 q24 q28 q32 q36 q40 g8 g16 ho
 cases o1 with
 | false =>
  repeat' (first
   | refine qS ?_ | refine qN ?_ | refine q_loadR ?_ (hr := by exact h1) (hv := by kernel_rfl) | refine q_storeR ?_ (hr := by exact h0) | refine q_callB (hrec) (fun _ => ?_) (fun _ => ?_)
   | refine q_call (hrec) ?_ | refine q_callB (hzr) (fun _ => ?_) (fun _ => ?_) | refine q_call (hzr) ?_ | refine qQb ?_ | refine q_cmp2 (fun _ => ?_) (fun _ => ?_))
  exact ⟨Or.inr rfl, .tup [rec0.av, .int .i64 1], by kernel_rfl, by kernel_rfl⟩
 | true =>
  cases o2 with
  | false =>
   repeat' (first
    | refine qS ?_ | refine qN ?_ | refine q_loadR ?_ (hr := by exact h1) (hv := by kernel_rfl) | refine q_storeR ?_ (hr := by exact h0) | refine q_callB (hrec) (fun _ => ?_) (fun _ => ?_)
    | refine q_call (hrec) ?_ | refine q_callB (hzr) (fun _ => ?_) (fun _ => ?_) | refine q_call (hzr) ?_ | refine qQb ?_ | refine q_cmp2 (fun _ => ?_) (fun _ => ?_))
   exact ⟨Or.inr rfl, .tup [rec0.av, .int .i64 1], by kernel_rfl, by kernel_rfl⟩
  | true =>
   cases r with
   | false =>
    repeat' (first
     | refine qS ?_ | refine qN ?_ | refine q_call hrec ?_ | refine q_call hzr ?_
     | refine q_loadR (v := Rec.av ⟨c4, n1, n2, c24, c28, c32, c36, c40⟩) ?_ (hr := by exact h1) (hv := by kernel_rfl) | refine q_storeR ?_ (hr := by exact h0) | refine qQb ?_
     | refine q_cmp2 (fun _ => ?_) (fun _ => ?_))
    exact ⟨Or.inr rfl, .tup [rec0.av, .int .i64 1], by kernel_rfl, by kernel_rfl⟩
   | true =>
    cases z with
    | false =>
     repeat' (first
      | refine qS ?_ | refine qN ?_ | refine q_call hrec ?_ | refine q_call hzr ?_
      | refine q_loadR (v := Rec.av ⟨c4, n1, n2, c24, c28, c32, c36, c40⟩) ?_ (hr := by exact h1) (hv := by kernel_rfl) | refine q_storeR ?_ (hr := by exact h0) | refine qQb ?_
      | refine q_cmp2 (fun _ => ?_) (fun _ => ?_))
     exact ⟨Or.inr rfl, .tup [rec0.av, .int .i64 1], by kernel_rfl, by kernel_rfl⟩
    | true =>
     repeat' (first
      | refine qS ?_ | refine qN ?_ | refine q_call hrec ?_ | refine q_call hzr ?_
      | refine q_loadR (v := Rec.av ⟨c4, n1, n2, c24, c28, c32, c36, c40⟩) ?_ (hr := by exact h1) (hv := by kernel_rfl) | refine q_storeR ?_ (hr := by exact h0) | refine qQb ?_
      | refine q_cmp2 (fun _ => ?_) (fun _ => ?_))
     exact ⟨Or.inr rfl, .tup [Rec.av ⟨c4, n1, n2, c24, c28, c32, c36, c40⟩, .int .i64 0], by kernel_rfl, by kernel_rfl⟩
end Go.Proofs.YtkaiiopoilpjeaaGreat

