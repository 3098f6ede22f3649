/- Lemmas. -/
import Derived.Test.YtkaiiopoilpjeaaGreatMK1
import Derived.Test.YtkaiiopoilpjeaaGreatA30
import Derived.Test.YtkaiiopoilpjeaaGreatMM
set_option linter.unusedSimpArgs false
set_option linter.unusedVariables false
set_option maxRecDepth 10000
set_option maxHeartbeats 16000000
namespace Go.Proofs.YtkaiiopoilpjeaaGreat
open Go.AI
def g4 (b : List UInt8) (a : Nat) : Nat := leN ((b.drop a).take 4)
theorem Azn {b : List UInt8} {a : Nat} (h : a + 4 ≤ b.length) : getP b a 4 = (((g4 b a : Nat) : Int), 0) := by
 have hlt := xU ((b.drop a).take 4)
 have hlen : ((b.drop a).take 4).length = 4 := by simp; omega
 rw [hlen] at hlt
 unfold getP g4
 rw [if_pos (by omega), Bd, if_pos (by omega)]
theorem Bfj (b : List UInt8) (a : Int) (s : Nat) : ∃ n : Nat, (getP b a s).1 = n ∧ n < 4611686018427387904 := by
 unfold getP
 split
 ·split
  ·exact ⟨_, rfl, by omega⟩
  ·exact ⟨0, rfl, by decide⟩
 ·exact ⟨0, rfl, by decide⟩
theorem numS {b : List UInt8} (h : b.length = 64) : Lw b 4 sS = if (getP b ((8 : Nat) : Int) 8).2 = 0 then (if (getP b ((16 : Nat) : Int) 8).2 = 0 then some ([((g4 b 4 : Nat) : Int), (getP b ((8 : Nat) : Int) 8).1, (getP b ((16 : Nat) : Int) 8).1, ((g4 b 24 : Nat) : Int), ((g4 b 28 : Nat) : Int), ((g4 b 32 : Nat) : Int), ((g4 b 36 : Nat) : Int), ((g4 b 40 : Nat) : Int)], 44) else none) else none := by
 have e4 := Azn (b := b) (a := 4) (by omega)
 have e24 := Azn (b := b) (a := 24) (by omega)
 have e28 := Azn (b := b) (a := 28) (by omega)
 have e32 := Azn (b := b) (a := 32) (by omega)
 have e36 := Azn (b := b) (a := 36) (by omega)
 have e40 := Azn (b := b) (a := 40) (by omega)
 show (if (getP b ((4 : Nat) : Int) 4).2 = 0 then ((if (getP b ((8 : Nat) : Int) 8).2 = 0 then ((if (getP b ((16 : Nat) : Int) 8).2 = 0 then ((Lw b 24 [4, 4, 4, 4, 4]).map fun x => ((getP b ((16 : Nat) : Int) 8).1 :: x.1, x.2)) else none).map fun x => ((getP b ((8 : Nat) : Int) 8).1 :: x.1, x.2)) else none).map fun x => ((getP b ((4 : Nat) : Int) 4).1 :: x.1, x.2)) else none) = _
 have e5 : Lw b 24 [4, 4, 4, 4, 4] = some ([((g4 b 24 : Nat) : Int), ((g4 b 28 : Nat) : Int), ((g4 b 32 : Nat) : Int), ((g4 b 36 : Nat) : Int), ((g4 b 40 : Nat) : Int)], 44) := by
  show (if (getP b ((24 : Nat) : Int) 4).2 = 0 then ((if (getP b ((28 : Nat) : Int) 4).2 = 0 then ((if (getP b ((32 : Nat) : Int) 4).2 = 0 then ((if (getP b ((36 : Nat) : Int) 4).2 = 0 then ((if (getP b ((40 : Nat) : Int) 4).2 = 0 then ((some ([], 44)).map fun x => ((getP b ((40 : Nat) : Int) 4).1 :: x.1, x.2)) else none).map fun x => ((getP b ((36 : Nat) : Int) 4).1 :: x.1, x.2)) else none).map fun x => ((getP b ((32 : Nat) : Int) 4).1 :: x.1, x.2)) else none).map fun x => ((getP b ((28 : Nat) : Int) 4).1 :: x.1, x.2)) else none).map fun x => ((getP b ((24 : Nat) : Int) 4).1 :: x.1, x.2)) else none) = _
  rw [e24, e28, e32, e36, e40]
  rfl
 rw [e5, e4]
 by_cases h1 : (getP b ((8 : Nat) : Int) 8).2 = 0
 ·rw [if_pos h1, if_pos h1]
  by_cases h2 : (getP b ((16 : Nat) : Int) 8).2 = 0
  ·rw [if_pos h2, if_pos h2]; rfl
  ·rw [if_neg h2, if_neg h2]; rfl
 ·rw [if_neg h1, if_neg h1]; rfl
theorem Ayv {b m : List UInt8} {ss : List Nat} : (Ayu b m ≠ 0 → Jg b m ss = ([], Ayu b m)) ∧ (Ayu b m = 0 → b.length = 64 ∧ Jg b m ss = match Lw b 4 ss with | none => ([], 1) | some (o, e) => if Oi b e 60 = true then (o, 0) else ([], 1)) := by
 unfold Ayu Jg
 by_cases h1 : b.length ≠ 64
 ·rw [if_pos h1, if_pos h1]
  exact ⟨fun _ => rfl, fun h => by cases h⟩
 ·rw [if_neg h1, if_neg h1]
  by_cases h2 : b.take 4 ≠ m
  ·rw [if_pos h2, if_pos h2]
   exact ⟨fun _ => rfl, fun h => by cases h⟩
  ·rw [if_neg h2, if_neg h2]
   by_cases h3 : nA b = false
   ·rw [if_pos h3, if_pos h3]
    exact ⟨fun _ => rfl, fun h => by cases h⟩
   ·rw [if_neg h3, if_neg h3]
    exact ⟨fun h => absurd rfl h, fun _ => ⟨Dm.1 h1, rfl⟩⟩
attribute [local irreducible] aops Br Cp Dp aop W WO
theorem Azb (k : Nat) (hk : 20 ≤ k) (t f : Bool) (l : List UInt8) (a : Nat) (ha : a + 4 ≤ l.length) (hl : l.length < 1000000) : FnV (CF k) Bac [.islc t f 1 (BL l), .int .i64 a] (.int .i64 (g4 l a : Nat)) := by
 obtain ⟨j, rfl⟩ : ∃ j, k = j + 2 := ⟨k - 2, by omega⟩
 exact Bev j (by omega) t f l a ha hl
theorem Bik (k : Nat) (hk : 20 ≤ k) (t f : Bool) (l : List UInt8) (a : Nat) (ha : a + 8 ≤ l.length) (hl : l.length < 1000000) : FnV (CF k) Bad [.islc t f 1 (BL l), .int .i64 a] (.tup [.int .i64 (getP l a 8).1, .bool (decide ((getP l a 8).2 = 0))]) := by
 obtain ⟨j, rfl⟩ : ∃ j, k = j + 2 := ⟨k - 2, by omega⟩
 exact Biz j (by omega) t f l a ha hl
theorem Bgr {b : List UInt8} {o1 o2 z r : Bool} {c4 n1 n2 c24 c28 c32 c36 c40 : Nat} (h0 : Ayu b mS = 0) (e4 : c4 = g4 b 4) (en1 : (getP b ((8 : Nat) : Int) 8).1 = n1) (en2 : (getP b ((16 : Nat) : Int) 8).1 = n2) (e24 : c24 = g4 b 24) (e28 : c28 = g4 b 28) (e32 : c32 = g4 b 32) (e36 : c36 = g4 b 36) (e40 : c40 = g4 b 40)
  (ho1 : o1 = decide ((getP b ((8 : Nat) : Int) 8).2 = 0)) (ho2 : o2 = decide ((getP b ((16 : Nat) : Int) 8).2 = 0)) (hz : z = Oi b 44 60) (hr : r = decide (Rec.ok ⟨c4, n1, n2, c24, c28, c32, c36, c40⟩)) :
  Ff b = if (o1 && o2 && r && z) = true then (⟨c4, n1, n2, c24, c28, c32, c36, c40⟩, 0) else (rec0, 1) := by
 subst e4 e24 e28 e32 e36 e40 ho1 ho2 hz hr
 obtain ⟨hlen, hrd⟩ := (Ayv (b := b) (m := mS) (ss := sS)).2 h0
 unfold Ff
 rw [hrd, numS hlen, en1, en2]
 by_cases o1 : (getP b ((8 : Nat) : Int) 8).2 = 0
 ·rw [if_pos o1, As o1]
  by_cases o2 : (getP b ((16 : Nat) : Int) 8).2 = 0
  ·rw [if_pos o2, As o2]
   cases hz : Oi b 44 60 with
   | true =>
    have hrec : Ajx [((g4 b 4 : Nat) : Int), (n1 : Nat), (n2 : Nat), ((g4 b 24 : Nat) : Int), ((g4 b 28 : Nat) : Int), ((g4 b 32 : Nat) : Int), ((g4 b 36 : Nat) : Int), ((g4 b 40 : Nat) : Int)] = ⟨g4 b 4, n1, n2, g4 b 24, g4 b 28, g4 b 32, g4 b 36, g4 b 40⟩ := rfl
    simp only
    rw [if_pos hz, if_neg (by simp), hrec]
    by_cases hk : Rec.ok ⟨g4 b 4, n1, n2, g4 b 24, g4 b 28, g4 b 32, g4 b 36, g4 b 40⟩
    ·rw [if_pos hk, As hk]; rfl
    ·rw [if_neg hk, Bb hk]; rfl
   | false =>
    have hz' : ¬ (Oi b 44 60 = true) := by rw [hz]; decide
    simp only
    rw [if_neg hz', Vn]; rfl
  ·rw [if_neg o2, Bb o2]; rfl
 ·rw [if_neg o1, Bb o1]; rfl
theorem Bgb (k : Nat) (hk : 1000050 ≤ k) (t f : Bool) (b : List UInt8) (hb : b.length < 1000000) : FnV (CF k) Azf [.islc t f 1 (BL b)] (.tup [(Ff b).1.av, .int .i64 (Ff b).2]) := by
 have ho := Bit (k - 1) (by omega) t f b mS hb
 obtain ⟨hn0, h0⟩ := Ayv (b := b) (m := mS) (ss := sS)
 refine fnk (by omega) Bbt rfl ?_
 by_cases hz : Ayu b mS = 0
 rotate_left 1
 ·have hv : Ff b = (rec0, Ayu b mS) := by
   unfold Ff
   rw [hn0 hz]
   simp only
   rw [if_pos hz]
  rw [hv]
  obtain ⟨e, he⟩ : ∃ e, e = Ayu b mS := ⟨_, rfl⟩
  rw [← he] at ho hz ⊢
  unfold Ayd
  repeat' (first | refine qS ?_ | refine qN ?_ | refine Al (ho) (fun _ => ?_) (fun _ => ?_) | refine Ae (ho) ?_ | refine qQb ?_ | refine Ac (fun _ => ?_) (fun _ => ?_))
  exact ⟨Or.inr rfl, .tup [rec0.av, .int .i64 e], by kernel_rfl, by kernel_rfl⟩
 obtain ⟨hlen, _⟩ := h0 hz
 have g8 := Bik (k - 1) (by omega) t f b 8 (by omega) hb
 have g16 := Bik (k - 1) (by omega) t f b 16 (by omega) hb
 have q4 := Azb (k - 1) (by omega) t f b 4 (by omega) hb
 have q24 := Azb (k - 1) (by omega) t f b 24 (by omega) hb
 have q28 := Azb (k - 1) (by omega) t f b 28 (by omega) hb
 have q32 := Azb (k - 1) (by omega) t f b 32 (by omega) hb
 have q36 := Azb (k - 1) (by omega) t f b 36 (by omega) hb
 have q40 := Azb (k - 1) (by omega) t f b 40 (by omega) hb
 have hzr := Bha (k - 1) (by omega) t f b 44 60 hb (by decide) (by decide)
 obtain ⟨n1, hn1, _⟩ := Bfj b ((8 : Nat) : Int) 8
 obtain ⟨n2, hn2, _⟩ := Bfj b ((16 : Nat) : Int) 8
 have hrec := Bky (k - 1) (by omega) ⟨g4 b 4, n1, n2, g4 b 24, g4 b 28, g4 b 32, g4 b 36, g4 b 40⟩
 obtain ⟨c4, e4⟩ : ∃ c, c = g4 b 4 := ⟨_, rfl⟩
 obtain ⟨c24, e24⟩ : ∃ c, c = g4 b 24 := ⟨_, rfl⟩
 obtain ⟨c28, e28⟩ : ∃ c, c = g4 b 28 := ⟨_, rfl⟩
 obtain ⟨c32, e32⟩ : ∃ c, c = g4 b 32 := ⟨_, rfl⟩
 obtain ⟨c36, e36⟩ : ∃ c, c = g4 b 36 := ⟨_, rfl⟩
 obtain ⟨c40, e40⟩ : ∃ c, c = g4 b 40 := ⟨_, rfl⟩
 rw [← e4, ← e24, ← e28, ← e32, ← e36, ← e40] at hrec
 rw [← e4] at q4
 rw [← e24] at q24
 rw [← e28] at q28
 rw [← e32] at q32
 rw [← e36] at q36
 rw [← e40] at q40
 rw [hn1] at g8
 rw [hn2] at g16
 obtain ⟨r, hr⟩ : ∃ r, r = decide (Rec.ok ⟨c4, n1, n2, c24, c28, c32, c36, c40⟩) := ⟨_, rfl⟩
 obtain ⟨o1, ho1⟩ : ∃ o, o = decide ((getP b ((8 : Nat) : Int) 8).2 = 0) := ⟨_, rfl⟩
 obtain ⟨o2, ho2⟩ : ∃ o, o = decide ((getP b ((16 : Nat) : Int) 8).2 = 0) := ⟨_, rfl⟩
 obtain ⟨z, hz4⟩ : ∃ z, z = Oi b 44 60 := ⟨_, rfl⟩
 rw [Bgr hz e4 hn1 hn2 e24 e28 e32 e36 e40 ho1 ho2 hz4 hr]
 rw [hz] at ho
 rw [← ho1] at g8
 rw [← ho2] at g16
 rw [← hr] at hrec
 rw [← hz4] at hzr
 unfold Rec.av at hrec
 simp only at hrec
 clear hz hr ho1 ho2 hz4 e4 e24 e28 e32 e36 e40 hn1 hn2 h0 hn0
 unfold Ayd
 repeat' (first
  | refine qS ?_ | refine qN ?_ | refine Ae g8 ?_ | refine Ae g16 ?_ | refine Al (ho) (fun _ => ?_) (fun _ => ?_) | refine Ae (ho) ?_
  | refine Al (q4) (fun _ => ?_) (fun _ => ?_) | refine Ae (q4) ?_ | refine Al (q24) (fun _ => ?_) (fun _ => ?_) | refine Ae (q24) ?_
  | refine Al (q28) (fun _ => ?_) (fun _ => ?_) | refine Ae (q28) ?_ | refine Al (q32) (fun _ => ?_) (fun _ => ?_) | refine Ae (q32) ?_
  | refine Al (q36) (fun _ => ?_) (fun _ => ?_) | refine Ae (q36) ?_ | refine Al (q40) (fun _ => ?_) (fun _ => ?_) | refine Ae (q40) ?_ | refine qQb ?_
  | refine Ac (fun _ => ?_) (fun _ => ?_))
 refine Bkg [(0, .islc t f 1 (BL b)), (2, .ptr 0 1 1 8 0 0), (9, .ptr 1 1 1 8 0 0), (8, .bool o2), (41, .bool o1)] [(0, ⟨1, false, .row 8 [rec0.av]⟩), (1, ⟨1, false, .row 8 [Rec.av ⟨c4, n1, n2, c24, c28, c32, c36, c40⟩]⟩)] ⟨by kernel_rfl, by kernel_rfl, by kernel_rfl, by kernel_rfl, by kernel_rfl, trivial⟩ ⟨by kernel_rfl, by kernel_rfl, trivial⟩ (fun T H hT hH => ?_)
 obtain ⟨h0, h1, -⟩ := hH
 simp only [over]
 clear hT q4 q24 q28 q32 q36 q40 g8 g16 ho
 cases o1 with
 | false =>
  repeat' (first
   | refine qS ?_ | refine qN ?_ | refine Be ?_ (hr := by exact h1) (hv := by kernel_rfl) | refine Co ?_ (hr := by exact h0) | refine Al (hrec) (fun _ => ?_) (fun _ => ?_)
   | refine Ae (hrec) ?_ | refine Al (hzr) (fun _ => ?_) (fun _ => ?_) | refine Ae (hzr) ?_ | refine qQb ?_ | refine Ac (fun _ => ?_) (fun _ => ?_))
  exact ⟨Or.inr rfl, .tup [rec0.av, .int .i64 1], by kernel_rfl, by kernel_rfl⟩
 | true =>
  cases o2 with
  | false =>
   repeat' (first
    | refine qS ?_ | refine qN ?_ | refine Be ?_ (hr := by exact h1) (hv := by kernel_rfl) | refine Co ?_ (hr := by exact h0) | refine Al (hrec) (fun _ => ?_) (fun _ => ?_)
    | refine Ae (hrec) ?_ | refine Al (hzr) (fun _ => ?_) (fun _ => ?_) | refine Ae (hzr) ?_ | refine qQb ?_ | refine Ac (fun _ => ?_) (fun _ => ?_))
   exact ⟨Or.inr rfl, .tup [rec0.av, .int .i64 1], by kernel_rfl, by kernel_rfl⟩
  | true =>
   cases r with
   | false =>
    repeat' (first
     | refine qS ?_ | refine qN ?_ | refine Ae hrec ?_ | refine Ae hzr ?_
     | refine Be (v := Rec.av ⟨c4, n1, n2, c24, c28, c32, c36, c40⟩) ?_ (hr := by exact h1) (hv := by kernel_rfl) | refine Co ?_ (hr := by exact h0) | refine qQb ?_
     | refine Ac (fun _ => ?_) (fun _ => ?_))
    exact ⟨Or.inr rfl, .tup [rec0.av, .int .i64 1], by kernel_rfl, by kernel_rfl⟩
   | true =>
    cases z with
    | false =>
     repeat' (first
      | refine qS ?_ | refine qN ?_ | refine Ae hrec ?_ | refine Ae hzr ?_
      | refine Be (v := Rec.av ⟨c4, n1, n2, c24, c28, c32, c36, c40⟩) ?_ (hr := by exact h1) (hv := by kernel_rfl) | refine Co ?_ (hr := by exact h0) | refine qQb ?_
      | refine Ac (fun _ => ?_) (fun _ => ?_))
     exact ⟨Or.inr rfl, .tup [rec0.av, .int .i64 1], by kernel_rfl, by kernel_rfl⟩
    | true =>
     repeat' (first
      | refine qS ?_ | refine qN ?_ | refine Ae hrec ?_ | refine Ae hzr ?_
      | refine Be (v := Rec.av ⟨c4, n1, n2, c24, c28, c32, c36, c40⟩) ?_ (hr := by exact h1) (hv := by kernel_rfl) | refine Co ?_ (hr := by exact h0) | refine qQb ?_
      | refine Ac (fun _ => ?_) (fun _ => ?_))
     exact ⟨Or.inr rfl, .tup [Rec.av ⟨c4, n1, n2, c24, c28, c32, c36, c40⟩, .int .i64 0], by kernel_rfl, by kernel_rfl⟩
end Go.Proofs.YtkaiiopoilpjeaaGreat
set_option maxRecDepth 10000
set_option maxHeartbeats 16000000
namespace Go.AI
section
variable {cf : Dk} {xf : ExtF} {base : Nat} {T : Tmps} {H : Heap} {QO : Tmps → Heap → Prop} {log : List FP} {g : Option (Nat × Bool)} {un : List Nat} {r : List SOper} {d : Nat}
theorem hM {v : AV} {ps : List Nat} {j g0 s o i : Nat} {ro : Bool} {x : SArg} (hx : x.ev T = .ptr j g0 1 s 0 o) (ho : o = 1 + i) (hi : i < ps.length) (hr : H j = ⟨g0, ro, .row s [.agg (v :: ps.map fun n : Nat => AV.int .i64 n)]⟩) (hw : Aj T g = some true) (hl : Bn log ⟨[j], [], false⟩ un = true)
  (h : WO (aops cf xf base r (log ++ [⟨[j], [], false⟩]) (T.upd d (.int .i64 (ps.getD i default : Nat))) H) QO) : WO (aops cf xf base (⟨some d, .load 1 false x, g, un⟩ :: r) log T H) QO := by
 subst ho
 refine Ps (es := [.agg (v :: ps.map fun n : Nat => AV.int .i64 n)]) (.int .i64 (ps.getD i default : Nat)) hx hr rfl rfl (by simp [AV.cells]; omega) ?_ hw hl h
 show (((v :: ps.map fun n : Nat => AV.int .i64 n).drop (1 + i)).headD .undef) = _
 rw [Bft 1 i, Afb, Cm (by simpa using hi), Mn]
 simp [hi]
theorem Bjg {v : AV} {ps : List Nat} {j g0 s o i m : Nat} {x y : SArg} (hx : x.ev T = .ptr j g0 1 s 0 o) (ho : o = 1 + i) (hi : i < ps.length) (hr : H j = ⟨g0, false, .row s [.agg (v :: ps.map fun n : Nat => AV.int .i64 n)]⟩) (hy : y.ev T = .int .i64 (m : Nat)) (hw : Aj T g = some true) (hl : Bn log ⟨[j], [j], false⟩ un = true)
  (h : WO (aops cf xf base r (log ++ [⟨[j], [j], false⟩]) T (H.upd j ⟨g0, false, .row s [.agg (v :: (ps.set i m).map fun n : Nat => AV.int .i64 n)]⟩)) QO) : WO (aops cf xf base (⟨none, .store 1 x y, g, un⟩ :: r) log T H) QO := by
 subst ho
 refine lA (es := [.agg (v :: ps.map fun n : Nat => AV.int .i64 n)]) (cs := [.int .i64 (m : Nat)]) hx hr rfl rfl hy rfl rfl rfl (by simp [AV.cells]; omega) hw hl ?_
 have e : ([.agg (v :: ps.map fun n : Nat => AV.int .i64 n)] : List AV).set 0 ((AV.agg (v :: ps.map fun n : Nat => AV.int .i64 n)).rewrap ((v :: ps.map fun n : Nat => AV.int .i64 n).take (1 + i) ++ [.int .i64 (m : Nat)] ++ (v :: ps.map fun n : Nat => AV.int .i64 n).drop (1 + i + 1))) = [.agg (v :: (ps.set i m).map fun n : Nat => AV.int .i64 n)] := by
  show [AV.agg ((v :: ps.map fun n : Nat => AV.int .i64 n).take (1 + i) ++ [.int .i64 (m : Nat)] ++ (v :: ps.map fun n : Nat => AV.int .i64 n).drop (1 + i + 1))] = _
  rw [Bft 1 i, Je, Afb, List.map_set, List.set_eq_take_append_cons_drop, if_pos (by simpa using hi)]
  simp
 show WO (aops cf xf base r _ T (H.upd j ⟨g0, false, .row s (([.agg (v :: ps.map fun n : Nat => AV.int .i64 n)] : List AV).set 0 ((AV.agg (v :: ps.map fun n : Nat => AV.int .i64 n)).rewrap ((v :: ps.map fun n : Nat => AV.int .i64 n).take (1 + i) ++ [.int .i64 (m : Nat)] ++ (v :: ps.map fun n : Nat => AV.int .i64 n).drop (1 + i + 1))))⟩)) QO
 rw [e]
 exact h
end
end Go.AI
namespace Go.Proofs.YtkaiiopoilpjeaaGreat
open Go.AI
theorem numW {b : List UInt8} (h : b.length = 64) : Lw b 4 sW = if (getP b ((4 : Nat) : Int) 8).2 = 0 then some ([(getP b ((4 : Nat) : Int) 8).1, ((g4 b 12 : Nat) : Int), ((g4 b 16 : Nat) : Int), ((g4 b 20 : Nat) : Int), ((g4 b 24 : Nat) : Int)], 28) else none := by
 have e12 := Azn (b := b) (a := 12) (by omega)
 have e16 := Azn (b := b) (a := 16) (by omega)
 have e20 := Azn (b := b) (a := 20) (by omega)
 have e24 := Azn (b := b) (a := 24) (by omega)
 show (if (getP b ((4 : Nat) : Int) 8).2 = 0 then ((Lw b 12 [4, 4, 4, 4]).map fun x => ((getP b ((4 : Nat) : Int) 8).1 :: x.1, x.2)) else none) = _
 have e5 : Lw b 12 [4, 4, 4, 4] = some ([((g4 b 12 : Nat) : Int), ((g4 b 16 : Nat) : Int), ((g4 b 20 : Nat) : Int), ((g4 b 24 : Nat) : Int)], 28) := by
  show (if (getP b ((12 : Nat) : Int) 4).2 = 0 then ((if (getP b ((16 : Nat) : Int) 4).2 = 0 then ((if (getP b ((20 : Nat) : Int) 4).2 = 0 then ((if (getP b ((24 : Nat) : Int) 4).2 = 0 then ((some ([], 28)).map fun x => ((getP b ((24 : Nat) : Int) 4).1 :: x.1, x.2)) else none).map fun x => ((getP b ((20 : Nat) : Int) 4).1 :: x.1, x.2)) else none).map fun x => ((getP b ((16 : Nat) : Int) 4).1 :: x.1, x.2)) else none).map fun x => ((getP b ((12 : Nat) : Int) 4).1 :: x.1, x.2)) else none) = _
  rw [e12, e16, e20, e24]
  rfl
 rw [e5]
 by_cases h1 : (getP b ((4 : Nat) : Int) 8).2 = 0
 ·rw [if_pos h1, if_pos h1]; rfl
 ·rw [if_neg h1, if_neg h1]
theorem Bhc {b : List UInt8} {o z r : Bool} {n c12 c16 c20 c24 : Nat} (h0 : Ayu b mW = 0) (en : (getP b ((4 : Nat) : Int) 8).1 = n) (e12 : c12 = g4 b 12) (e16 : c16 = g4 b 16) (e20 : c20 = g4 b 20) (e24 : c24 = g4 b 24)
  (ho : o = decide ((getP b ((4 : Nat) : Int) 8).2 = 0)) (hz : z = Oi b 28 60) (hr : r = decide (Sup.ok ⟨n, c12, c16, c20, c24⟩)) :
  Hg b = if (o && r && z) = true then (⟨n, c12, c16, c20, c24⟩, 0) else (sup0, 1) := by
 subst e12 e16 e20 e24 ho hz hr
 obtain ⟨hlen, hrd⟩ := (Ayv (b := b) (m := mW) (ss := sW)).2 h0
 unfold Hg
 rw [hrd, numW hlen, en]
 by_cases o1 : (getP b ((4 : Nat) : Int) 8).2 = 0
 ·rw [if_pos o1, As o1]
  cases hz : Oi b 28 60 with
  | true =>
   have hrec : Ajk [(n : Int), ((g4 b 12 : Nat) : Int), ((g4 b 16 : Nat) : Int), ((g4 b 20 : Nat) : Int), ((g4 b 24 : Nat) : Int)] = ⟨n, g4 b 12, g4 b 16, g4 b 20, g4 b 24⟩ := rfl
   simp only
   rw [if_pos hz, if_neg (by simp), hrec]
   by_cases hk : Sup.ok ⟨n, g4 b 12, g4 b 16, g4 b 20, g4 b 24⟩
   ·rw [if_pos hk, As hk]; rfl
   ·rw [if_neg hk, Bb hk]; rfl
  | false =>
   have hz' : ¬ (Oi b 28 60 = true) := by rw [hz]; decide
   simp only
   rw [if_neg hz', Vn]; rfl
 ·rw [if_neg o1, Bb o1]; rfl
def Ayn (b : List UInt8) : List Nat := (List.range 8).map fun j => g4 b (8 + 4 * j)
theorem numN {b : List UInt8} (h : b.length = 64) : Lw b 4 sN = some (((g4 b 4 : Nat) : Int) :: (Ayn b).map fun n : Nat => (n : Int), 40) := by
 have e : ∀ a, a + 4 ≤ 64 → getP b ((a : Nat) : Int) 4 = (((g4 b a : Nat) : Int), 0) := fun a ha => Azn (by omega)
 show (if (getP b ((4 : Nat) : Int) 4).2 = 0 then ((if (getP b ((8 : Nat) : Int) 4).2 = 0 then ((if (getP b ((12 : Nat) : Int) 4).2 = 0 then ((if (getP b ((16 : Nat) : Int) 4).2 = 0 then ((if (getP b ((20 : Nat) : Int) 4).2 = 0 then ((if (getP b ((24 : Nat) : Int) 4).2 = 0 then ((if (getP b ((28 : Nat) : Int) 4).2 = 0 then ((if (getP b ((32 : Nat) : Int) 4).2 = 0 then ((if (getP b ((36 : Nat) : Int) 4).2 = 0 then ((some ([], 40)).map fun x => ((getP b ((36 : Nat) : Int) 4).1 :: x.1, x.2)) else none).map fun x => ((getP b ((32 : Nat) : Int) 4).1 :: x.1, x.2)) else none).map fun x => ((getP b ((28 : Nat) : Int) 4).1 :: x.1, x.2)) else none).map fun x => ((getP b ((24 : Nat) : Int) 4).1 :: x.1, x.2)) else none).map fun x => ((getP b ((20 : Nat) : Int) 4).1 :: x.1, x.2)) else none).map fun x => ((getP b ((16 : Nat) : Int) 4).1 :: x.1, x.2)) else none).map fun x => ((getP b ((12 : Nat) : Int) 4).1 :: x.1, x.2)) else none).map fun x => ((getP b ((8 : Nat) : Int) 4).1 :: x.1, x.2)) else none).map fun x => ((getP b ((4 : Nat) : Int) 4).1 :: x.1, x.2)) else none) = _
 rw [e 4 (by decide), e 8 (by decide), e 12 (by decide), e 16 (by decide), e 20 (by decide), e 24 (by decide), e 28 (by decide), e 32 (by decide), e 36 (by decide)]
 rfl
theorem Bhh {b : List UInt8} {z r : Bool} {v : Nat} (h0 : Ayu b mN = 0) (ev : v = g4 b 4) (hz : z = Oi b 40 60) (hr : r = decide (Nod.ok ⟨v, Ayn b⟩)) :
  Cx b = if (r && z) = true then (⟨v, Ayn b⟩, 0) else (nod0, 1) := by
 subst ev hz hr
 obtain ⟨hlen, hrd⟩ := (Ayv (b := b) (m := mN) (ss := sN)).2 h0
 unfold Cx
 rw [hrd, numN hlen]
 cases hz : Oi b 40 60 with
 | true =>
  have hrec : Aec (((g4 b 4 : Nat) : Int) :: (Ayn b).map fun n : Nat => (n : Int)) = ⟨g4 b 4, Ayn b⟩ := by
   unfold Aec
   simp [Ha, Function.comp_def]
  simp only
  rw [if_pos hz, if_neg (by simp), hrec]
  by_cases hk : Nod.ok ⟨g4 b 4, Ayn b⟩
  ·rw [if_pos hk, As hk]; rfl
  ·rw [if_neg hk, Bb hk]; rfl
 | false =>
  have hz' : ¬ (Oi b 40 60 = true) := by rw [hz]; decide
  simp only
  rw [if_neg hz', Vn]; rfl
attribute [local irreducible] aops Br Cp Dp aop W WO
theorem Bgv (k : Nat) (hk : 1000050 ≤ k) (t f : Bool) (b : List UInt8) (hb : b.length < 1000000) : FnV (CF k) Ayl [.islc t f 1 (BL b)] (.tup [(Hg b).1.av, .int .i64 (Hg b).2]) := by
 have ho := Bit (k - 1) (by omega) t f b mW hb
 obtain ⟨hn0, h0⟩ := Ayv (b := b) (m := mW) (ss := sW)
 refine fnk (by omega) Bcy rfl ?_
 by_cases hz : Ayu b mW = 0
 rotate_left 1
 ·have hv : Hg b = (sup0, Ayu b mW) := by
   unfold Hg
   rw [hn0 hz]
   simp only
   rw [if_pos hz]
  rw [hv]
  obtain ⟨e, he⟩ : ∃ e, e = Ayu b mW := ⟨_, rfl⟩
  rw [← he] at ho hz ⊢
  unfold Ayj
  repeat' (first | refine qS ?_ | refine qN ?_ | refine Al (ho) (fun _ => ?_) (fun _ => ?_) | refine Ae (ho) ?_ | refine qQb ?_ | refine Ac (fun _ => ?_) (fun _ => ?_))
  exact ⟨Or.inr rfl, .tup [sup0.av, .int .i64 e], by kernel_rfl, by kernel_rfl⟩
 obtain ⟨hlen, _⟩ := h0 hz
 have g8 := Bik (k - 1) (by omega) t f b 4 (by omega) hb
 have q12 := Azb (k - 1) (by omega) t f b 12 (by omega) hb
 have q16 := Azb (k - 1) (by omega) t f b 16 (by omega) hb
 have q20 := Azb (k - 1) (by omega) t f b 20 (by omega) hb
 have q24 := Azb (k - 1) (by omega) t f b 24 (by omega) hb
 have hzr := Bha (k - 1) (by omega) t f b 28 60 hb (by decide) (by decide)
 obtain ⟨n, hn, hnlt⟩ := Bfj b ((4 : Nat) : Int) 8
 have hlt4 : ∀ a, g4 b a < 4294967296 := fun a => by
  have h := xU ((b.drop a).take 4)
  have h2 : ((b.drop a).take 4).length ≤ 4 := by simp; omega
  have h3 : 256 ^ ((b.drop a).take 4).length ≤ 256 ^ 4 := Nat.pow_le_pow_right (by decide) h2
  unfold g4
  have h4 : (256 : Nat) ^ 4 = 4294967296 := rfl
  omega
 have hsup := Bll (k - 1) (by omega) ⟨n, g4 b 12, g4 b 16, g4 b 20, g4 b 24⟩ ⟨hnlt, by have := hlt4 12; simp only; omega, by have := hlt4 16; simp only; omega, by have := hlt4 20; simp only; omega, by have := hlt4 24; simp only; omega⟩
 obtain ⟨c12, e12⟩ : ∃ c, c = g4 b 12 := ⟨_, rfl⟩
 obtain ⟨c16, e16⟩ : ∃ c, c = g4 b 16 := ⟨_, rfl⟩
 obtain ⟨c20, e20⟩ : ∃ c, c = g4 b 20 := ⟨_, rfl⟩
 obtain ⟨c24, e24⟩ : ∃ c, c = g4 b 24 := ⟨_, rfl⟩
 rw [← e12, ← e16, ← e20, ← e24] at hsup
 rw [← e12] at q12
 rw [← e16] at q16
 rw [← e20] at q20
 rw [← e24] at q24
 rw [hn] at g8
 obtain ⟨r, hr⟩ : ∃ r, r = decide (Sup.ok ⟨n, c12, c16, c20, c24⟩) := ⟨_, rfl⟩
 obtain ⟨o, ho1⟩ : ∃ o, o = decide ((getP b ((4 : Nat) : Int) 8).2 = 0) := ⟨_, rfl⟩
 obtain ⟨z, hz4⟩ : ∃ z, z = Oi b 28 60 := ⟨_, rfl⟩
 rw [Bhc hz hn e12 e16 e20 e24 ho1 hz4 hr]
 rw [hz] at ho
 rw [← ho1] at g8
 rw [← hr] at hsup
 rw [← hz4] at hzr
 unfold Sup.av at hsup
 simp only at hsup
 clear hz hr ho1 hz4 e12 e16 e20 e24 hn h0 hn0 hlt4
 unfold Ayj
 repeat' (first
  | refine qS ?_ | refine qN ?_ | refine Ae g8 ?_ | refine Al (ho) (fun _ => ?_) (fun _ => ?_) | refine Ae (ho) ?_ | refine Al (q12) (fun _ => ?_) (fun _ => ?_)
  | refine Ae (q12) ?_ | refine Al (q16) (fun _ => ?_) (fun _ => ?_) | refine Ae (q16) ?_ | refine Al (q20) (fun _ => ?_) (fun _ => ?_) | refine Ae (q20) ?_
  | refine Al (q24) (fun _ => ?_) (fun _ => ?_) | refine Ae (q24) ?_ | refine qQb ?_ | refine Ac (fun _ => ?_) (fun _ => ?_))
 refine Bkg [(0, .islc t f 1 (BL b)), (2, .ptr 0 1 1 5 0 0), (7, .ptr 1 1 1 5 0 0), (29, .bool o)] [(0, ⟨1, false, .row 5 [sup0.av]⟩), (1, ⟨1, false, .row 5 [Sup.av ⟨n, c12, c16, c20, c24⟩]⟩)] ⟨by kernel_rfl, by kernel_rfl, by kernel_rfl, by kernel_rfl, trivial⟩ ⟨by kernel_rfl, by kernel_rfl, trivial⟩ (fun T H hT hH => ?_)
 obtain ⟨h0, h1, -⟩ := hH
 simp only [over]
 clear hT
 cases o with
 | false =>
  repeat' (first
   | refine qS ?_ | refine qN ?_ | refine Co ?_ (hr := by exact h0) | refine Al (hsup) (fun _ => ?_) (fun _ => ?_) | refine Ae (hsup) ?_
   | refine Al (hzr) (fun _ => ?_) (fun _ => ?_) | refine Ae (hzr) ?_ | refine qQb ?_ | refine Ac (fun _ => ?_) (fun _ => ?_))
  exact ⟨Or.inr rfl, .tup [sup0.av, .int .i64 1], by kernel_rfl, by kernel_rfl⟩
 | true =>
  cases r with
  | false =>
   repeat' (first
    | refine qS ?_ | refine qN ?_ | refine Ae hsup ?_ | refine Ae hzr ?_ | refine Be (v := Sup.av ⟨n, c12, c16, c20, c24⟩) ?_ (hr := by exact h1) (hv := by kernel_rfl)
    | refine Co ?_ (hr := by exact h0) | refine qQb ?_ | refine Ac (fun _ => ?_) (fun _ => ?_))
   exact ⟨Or.inr rfl, .tup [sup0.av, .int .i64 1], by kernel_rfl, by kernel_rfl⟩
  | true =>
   cases z with
   | false =>
    repeat' (first
     | refine qS ?_ | refine qN ?_ | refine Ae hsup ?_ | refine Ae hzr ?_ | refine Be (v := Sup.av ⟨n, c12, c16, c20, c24⟩) ?_ (hr := by exact h1) (hv := by kernel_rfl)
     | refine Co ?_ (hr := by exact h0) | refine qQb ?_ | refine Ac (fun _ => ?_) (fun _ => ?_))
    exact ⟨Or.inr rfl, .tup [sup0.av, .int .i64 1], by kernel_rfl, by kernel_rfl⟩
   | true =>
    repeat' (first
     | refine qS ?_ | refine qN ?_ | refine Ae hsup ?_ | refine Ae hzr ?_ | refine Be (v := Sup.av ⟨n, c12, c16, c20, c24⟩) ?_ (hr := by exact h1) (hv := by kernel_rfl)
     | refine Co ?_ (hr := by exact h0) | refine qQb ?_ | refine Ac (fun _ => ?_) (fun _ => ?_))
    exact ⟨Or.inr rfl, .tup [Sup.av ⟨n, c12, c16, c20, c24⟩, .int .i64 0], by kernel_rfl, by kernel_rfl⟩
theorem Blw (k : Nat) (hk : 100 ≤ k) (n : Nod) (hn : n.ptr.length = 8) : FnV (CF k) Bdl [n.av] (.bool (decide n.ok)) := by
 obtain ⟨v, l⟩ := n
 simp only at hn
 have hin := r_In (k - 1) (by omega) v 0 2
 have hlk := fun n => Beu (k - 1) (by omega) n 4096 (by decide)
 have hav : Nod.av ⟨v, l⟩ = .agg (.int .i64 v :: l.map fun n : Nat => AV.int .i64 n) := rfl
 have hcl : ((AV.int .i64 v :: l.map fun n : Nat => AV.int .i64 n) : List AV).length = 9 := by simp [hn]
 rw [hav]
 refine fnk (by omega) Bgw rfl ?_
 unfold Bcx
 have hbox : ∀ H : Heap, H.newRow 0 ((AV.agg (.int .i64 v :: l.map fun n : Nat => AV.int .i64 n)).cells.length) [AV.agg (.int .i64 v :: l.map fun n : Nat => AV.int .i64 n)] = H.upd 0 ⟨(H 0).gen + 1, false, .row 9 [AV.agg (.int .i64 v :: l.map fun n : Nat => AV.int .i64 n)]⟩ := fun H => by
  unfold Heap.newRow; rw [show (AV.agg (.int .i64 v :: l.map fun n : Nat => AV.int .i64 n)).cells.length = 9 from hcl]
 by_cases hv : v ≤ 2
 rotate_left 1
 ·rw [Bb (fun h : Nod.ok ⟨v, l⟩ => hv h.2.1)]
  rw [inR_f.2 (by omega)] at hin
  repeat' (first | refine qS ?_ | refine qN ?_ | refine Ae hin ?_ | refine Ps (.int .i64 v) rfl rfl rfl rfl (Ry (Ep _)) rfl rfl rfl ?_ | refine qQb ?_ | refine Ac (fun _ => ?_) (fun _ => ?_))
  exact ⟨Or.inr rfl, .bool false, by kernel_rfl, by kernel_rfl⟩
 rw [inR_iff.2 (by omega)] at hin
 have hok : decide (Nod.ok ⟨v, l⟩) = ((l.all fun p => Ayr p 4096) && (l.any fun p => decide (p ≠ 0))) := by
  rw [Aye, Dl, Cl]
  unfold Nod.ok Ayr ptrOk
  exact ⟨fun h => ⟨h.1, h.2.2⟩, fun h => ⟨h.1, hv, h.2⟩⟩
 rw [hok]
 repeat' (first | refine qS ?_ | refine qN ?_ | refine Ae hin ?_ | refine Ps (.int .i64 v) rfl rfl rfl rfl (Ry (Ep _)) rfl rfl rfl ?_ | refine qQb ?_ | refine Ac (fun _ => ?_) (fun _ => ?_))
 refine Bgh (hs := [(0, ⟨1, false, .row 9 [.agg (.int .i64 v :: l.map fun n : Nat => AV.int .i64 n)]⟩)]) [(1, .ptr 0 1 1 9 0 0), (3, .bool false), (4, .int .i64 0)] ⟨?_, by kernel_rfl, by kernel_rfl, trivial⟩ ⟨?_, trivial⟩ (fun T H hT hH => ?_)
 ·show AV.ptr _ _ _ ((AV.int .i64 v :: l.map fun n : Nat => AV.int .i64 n) : List AV).length _ _ = _
  rw [hcl]; rfl
 ·show (⟨1, false, .row ((AV.int .i64 v :: l.map fun n : Nat => AV.int .i64 n) : List AV).length [.agg (.int .i64 v :: l.map fun n : Nat => AV.int .i64 n)]⟩ : Blk) = _
  rw [hcl]
 obtain ⟨h0, -⟩ := hH
 simp only [over]
 refine W.mono (Q := fun ex T' H' => (ex = .ret ∧ (l.all fun p => Ayr p 4096) = false ∧ T' 2 = .bool false) ∨
   (ex = .exit 0 ∧ (l.all fun p => Ayr p 4096) = true ∧ T' 3 = .bool (l.any fun p => decide (p ≠ 0)))) ?_ ?_
 ·refine Fj 8 (fun i T' H' => (l.all fun p => Ayr p 4096) = ((l.drop i).all fun p => Ayr p 4096) ∧ H' 0 = ⟨1, false, .row 9 [.agg (.int .i64 v :: l.map fun n : Nat => AV.int .i64 n)]⟩ ∧
    Has T' [(1, .ptr 0 1 1 9 0 0), (3, .bool ((l.take i).any fun p => decide (p ≠ 0))), (4, .int .i64 (i : Nat))]) ⟨by simp, h0, rfl, rfl, rfl, trivial⟩ (by omega) ?_
  clear h0 hT
  rintro i T H hi ⟨hgo, hH, hT⟩
  rw [hT.eq]
  simp only [over]
  by_cases hil : i < 8
  ·have hil2 : i < l.length := by omega
   rw [Cm hil2, Bee] at hgo
   have hg : l.getD i default = l[i] := by simp [hil2]
   have htk : ((l.take (i + 1)).any fun p => decide (p ≠ 0)) = (((l.take i).any fun p => decide (p ≠ 0)) || decide (l[i] ≠ 0)) := by
    rw [Av hil2, Azl]; simp only [Azj, Bkf, lM]
   have hp := hlk (l.getD i default)
   rw [hg] at hp
   have hix : (i : Int).toNat * 1 = i := by omega
   cases hlp : Ayr l[i] 4096 with
   | false =>
    rw [hlp] at hp hgo
    repeat' (first
     | refine qS ?_ | refine qN ?_ | refine Ae hp ?_ | refine Es rfl rfl (by omega) (by omega) rfl rfl ?_
     | refine hM (i := i) rfl (by omega) hil2 (by exact hH) rfl rfl ?_ | (rw [hg]) | refine qQb ?_ | refine Ac (fun _ => ?_) (fun _ => ?_))
    exact .inl ⟨rfl, by rw [hgo]; rfl, rfl⟩
   | true =>
    rw [hlp, Ayh] at hgo
    rw [hlp] at hp
    cases ha : (l.take i).any fun p => decide (p ≠ 0) with
    | true =>
     rw [ha, Bool.true_or] at htk
     repeat' (first
      | refine qS ?_ | refine qN ?_ | refine Ae hp ?_ | refine Es rfl rfl (by omega) (by omega) rfl rfl ?_
      | refine hM (i := i) rfl (by omega) hil2 (by exact hH) rfl rfl ?_ | (rw [hg]) | refine qQb ?_ | refine Ac (fun _ => ?_) (fun _ => ?_))
     exact ⟨hil, hgo, hH, rfl, by rw [htk]; rfl, by show AV.int _ _ = AV.int _ _; congr 1, trivial⟩
    | false =>
     rw [ha, Azi] at htk
     by_cases hz : l[i] = 0
     ·have hz' : ((l[i] : Nat) : Int) = 0 := by omega
      repeat' (first
       | refine qS ?_ | refine qN ?_ | refine Ae hp ?_ | refine Es rfl rfl (by omega) (by omega) rfl rfl ?_
       | refine hM (i := i) rfl (by omega) hil2 (by exact hH) rfl rfl ?_ | (rw [hg]) | refine qQb ?_ | refine Ac (fun _ => ?_) (fun _ => ?_))
      exact ⟨hil, hgo, hH, rfl, by rw [htk, Bb (fun h => h hz)]; rfl, by show AV.int _ _ = AV.int _ _; congr 1, trivial⟩
     ·have hz' : ((l[i] : Nat) : Int) ≠ 0 := by omega
      repeat' (first
       | refine qS ?_ | refine qN ?_ | refine Ae hp ?_ | refine Es rfl rfl (by omega) (by omega) rfl rfl ?_
       | refine hM (i := i) rfl (by omega) hil2 (by exact hH) rfl rfl ?_ | (rw [hg]) | refine qQb ?_ | refine Ac (fun _ => ?_) (fun _ => ?_))
      exact ⟨hil, hgo, hH, rfl, by rw [htk, As hz]; rfl, by show AV.int _ _ = AV.int _ _; congr 1, trivial⟩
  ·have hi8 : i = 8 := by omega
   repeat' (first | refine qS ?_ | refine qN ?_ | refine qQb ?_ | refine Ac (fun _ => ?_) (fun _ => ?_))
   refine .inr ⟨rfl, ?_, ?_⟩
   ·rw [hgo, Ce (by omega)]; rfl
   ·show AV.bool _ = AV.bool _
    rw [Ai (by omega)]
 rintro ex T2 H2 (⟨rfl, ha, h2⟩ | ⟨rfl, ha, h3⟩)
 ·refine ⟨Or.inr rfl, _, rfl, ?_⟩
  show fz true 6 H2 (T2 2) = _
  rw [h2, ha]
  rfl
 ·rw [Has.eq (T := T2) (ps := [(3, _)]) ⟨h3, trivial⟩]
  simp only [over]
  show W _ _
  rw [ha, Ayh]
  repeat' (first | refine qS ?_ | refine qN ?_ | refine qQb ?_ | refine Ac (fun _ => ?_) (fun _ => ?_))
  exact ⟨Or.inr rfl, _, rfl, rfl⟩
def Bdt (b : List UInt8) (i : Nat) : List Nat := (List.range 8).map fun j => if j < i then g4 b (8 + 4 * j) else 0
theorem Bjn (b : List UInt8) (i : Nat) : (Bdt b i).length = 8 := by simp [Bdt]
theorem Bjz (b : List UInt8) (i : Nat) (hi : i < 8) : (Bdt b i).set i (g4 b (8 + 4 * i)) = Bdt b (i + 1) := by
 rcases (by omega : i = 0 ∨ i = 1 ∨ i = 2 ∨ i = 3 ∨ i = 4 ∨ i = 5 ∨ i = 6 ∨ i = 7) with rfl | rfl | rfl | rfl | rfl | rfl | rfl | rfl
 all_goals rfl
theorem Blo (b : List UInt8) : Bdt b 8 = Ayn b := by
 unfold Bdt Ayn
 apply Bk
 intro j hj
 rw [if_pos (Cc.1 hj)]
theorem Baw (k : Nat) (hk : 1000050 ≤ k) (t f : Bool) (b : List UInt8) (hb : b.length < 1000000) : FnV (CF k) Azq [.islc t f 1 (BL b)] (.tup [(Cx b).1.av, .int .i64 (Cx b).2]) := by
 have ho := Bit (k - 1) (by omega) t f b mN hb
 obtain ⟨hn0, h0⟩ := Ayv (b := b) (m := mN) (ss := sN)
 refine fnk (by omega) Bdp rfl ?_
 by_cases hz : Ayu b mN = 0
 rotate_left 1
 ·have hv : Cx b = (nod0, Ayu b mN) := by
   unfold Cx
   rw [hn0 hz]
   simp only
   rw [if_pos hz]
  rw [hv]
  obtain ⟨e, he⟩ : ∃ e, e = Ayu b mN := ⟨_, rfl⟩
  rw [← he] at ho hz ⊢
  unfold Ayk
  repeat' (first | refine qS ?_ | refine qN ?_ | refine Al (ho) (fun _ => ?_) (fun _ => ?_) | refine Ae (ho) ?_ | refine qQb ?_ | refine Ac (fun _ => ?_) (fun _ => ?_))
  exact ⟨Or.inr rfl, .tup [nod0.av, .int .i64 e], by kernel_rfl, by kernel_rfl⟩
 obtain ⟨hlen, _⟩ := h0 hz
 have q4 := Azb (k - 1) (by omega) t f b 4 (by omega) hb
 have hzr := Bha (k - 1) (by omega) t f b 40 60 hb (by decide) (by decide)
 obtain ⟨v, ev⟩ : ∃ c, c = g4 b 4 := ⟨_, rfl⟩
 rw [← ev] at q4
 have hnod := Blw (k - 1) (by omega) ⟨v, Ayn b⟩ (by simp [Ayn])
 obtain ⟨r, hr⟩ : ∃ r, r = decide (Nod.ok ⟨v, Ayn b⟩) := ⟨_, rfl⟩
 obtain ⟨z, hz4⟩ : ∃ z, z = Oi b 40 60 := ⟨_, rfl⟩
 rw [Bhh hz ev hz4 hr]
 rw [hz] at ho
 rw [← hr] at hnod
 rw [← hz4] at hzr
 have hav : Nod.av ⟨v, Ayn b⟩ = .agg (.int .i64 v :: (Ayn b).map fun n : Nat => AV.int .i64 n) := rfl
 rw [hav] at hnod
 clear hz hr hz4 ev h0 hn0
 unfold Ayk
 repeat' (first
  | refine qS ?_ | refine qN ?_ | refine Al (ho) (fun _ => ?_) (fun _ => ?_) | refine Ae (ho) ?_ | refine Al (q4) (fun _ => ?_) (fun _ => ?_) | refine Ae (q4) ?_
  | refine qQb ?_ | refine Ac (fun _ => ?_) (fun _ => ?_))
 refine Bgh [(0, .islc t f 1 (BL b)), (2, .ptr 0 1 1 9 0 0), (5, .ptr 1 1 1 9 0 0), (6, .int .i64 0)] [(0, ⟨1, false, .row 9 [nod0.av]⟩), (1, ⟨1, false, .row 9 [.agg (.int .i64 v :: (Bdt b 0).map fun n : Nat => AV.int .i64 n)]⟩)] ⟨by kernel_rfl, by kernel_rfl, by kernel_rfl, by kernel_rfl, trivial⟩ ⟨by kernel_rfl, by kernel_rfl, trivial⟩ (fun T H hT hH => ?_)
 obtain ⟨h0, h1, -⟩ := hH
 simp only [over]
 clear hT
 refine W.mono (Q := fun ex T' H' => ex = .exit 0 ∧ H' 0 = ⟨1, false, .row 9 [nod0.av]⟩ ∧ H' 1 = ⟨1, false, .row 9 [.agg (.int .i64 v :: (Ayn b).map fun n : Nat => AV.int .i64 n)]⟩ ∧ Has T' [(0, .islc t f 1 (BL b)), (2, .ptr 0 1 1 9 0 0), (5, .ptr 1 1 1 9 0 0)]) ?_ ?_
 ·refine Fj 8 (fun i T' H' => H' 0 = ⟨1, false, .row 9 [nod0.av]⟩ ∧ H' 1 = ⟨1, false, .row 9 [.agg (.int .i64 v :: (Bdt b i).map fun n : Nat => AV.int .i64 n)]⟩ ∧
    Has T' [(0, .islc t f 1 (BL b)), (2, .ptr 0 1 1 9 0 0), (5, .ptr 1 1 1 9 0 0), (6, .int .i64 (i : Nat))]) ⟨h0, h1, rfl, rfl, rfl, rfl, trivial⟩ (by omega) ?_
  clear h0 h1 T H
  rintro i T H hi ⟨h0, h1, hT⟩
  rw [hT.eq]
  simp only [over]
  by_cases hil : i < 8
  ·have qi := Azb (k - 1) (by omega) t f b (8 + 4 * i) (by omega) hb
   have e : (((8 + 4 * i : Nat)) : Int) = 8 + 4 * (i : Int) := by omega
   rw [e] at qi
   repeat' (first
    | refine qS ?_ | refine qN ?_ | refine Ae qi ?_ | refine Es rfl rfl (by omega) (by omega) rfl rfl ?_
    | refine Bjg (ps := Bdt b i) (i := i) (m := g4 b (8 + 4 * i)) rfl (by omega) (by rw [Bjn]; exact hil) (by exact h1) rfl rfl rfl ?_ | refine qQb ?_
    | refine Ac (fun _ => ?_) (fun _ => ?_))
   refine ⟨hil, h0, ?_, rfl, rfl, rfl, by show AV.int _ _ = AV.int _ _; congr 1, trivial⟩
   rw [← Bjz b i hil]; rfl
  ·have hi8 : i = 8 := by omega
   subst hi8
   rw [Blo] at h1
   repeat' (first | refine qS ?_ | refine qN ?_ | refine qQb ?_ | refine Ac (fun _ => ?_) (fun _ => ?_))
   exact ⟨rfl, h0, h1, rfl, rfl, rfl, trivial⟩
 clear h0 h1 T H
 rintro ex T H ⟨rfl, h0, h1, hT⟩
 rw [hT.eq]
 simp only [over]
 show W _ _
 have hld : AV.agg (((AV.agg (.int .i64 v :: (Ayn b).map fun n : Nat => AV.int .i64 n)).cells.drop 0).take 9) = .agg (.int .i64 v :: (Ayn b).map fun n : Nat => AV.int .i64 n) := by kernel_rfl
 cases r with
 | false =>
  repeat' (first
   | refine qS ?_ | refine qN ?_ | refine Ae hnod ?_ | refine Ae hzr ?_
   | refine Ps (.agg (.int .i64 v :: (Ayn b).map fun n : Nat => AV.int .i64 n)) rfl (by exact h1) rfl rfl (by exact Ax rfl) hld rfl rfl ?_
   | refine Co ?_ (hr := by exact h0) | refine qQb ?_ | refine Ac (fun _ => ?_) (fun _ => ?_))
  exact ⟨Or.inr rfl, .tup [nod0.av, .int .i64 1], by kernel_rfl, by kernel_rfl⟩
 | true =>
  cases z with
  | false =>
   repeat' (first
    | refine qS ?_ | refine qN ?_ | refine Ae hnod ?_ | refine Ae hzr ?_
    | refine Ps (.agg (.int .i64 v :: (Ayn b).map fun n : Nat => AV.int .i64 n)) rfl (by exact h1) rfl rfl (by exact Ax rfl) hld rfl rfl ?_
    | refine Co ?_ (hr := by exact h0) | refine qQb ?_ | refine Ac (fun _ => ?_) (fun _ => ?_))
   exact ⟨Or.inr rfl, .tup [nod0.av, .int .i64 1], by kernel_rfl, by kernel_rfl⟩
  | true =>
   repeat' (first
    | refine qS ?_ | refine qN ?_ | refine Ae hnod ?_ | refine Ae hzr ?_
    | refine Ps (.agg (.int .i64 v :: (Ayn b).map fun n : Nat => AV.int .i64 n)) rfl (by exact h1) rfl rfl (by exact Ax rfl) hld rfl rfl ?_
    | refine Co ?_ (hr := by exact h0) | refine qQb ?_ | refine Ac (fun _ => ?_) (fun _ => ?_))
   exact ⟨Or.inr rfl, .tup [.agg (.int .i64 v :: (Ayn b).map fun n : Nat => AV.int .i64 n), .int .i64 0], by kernel_rfl, by kernel_rfl⟩
end Go.Proofs.YtkaiiopoilpjeaaGreat
set_option maxRecDepth 10000
set_option maxHeartbeats 16000000
namespace Go.Proofs.YtkaiiopoilpjeaaGreat
open Go.AI
attribute [local irreducible] aops Br Cp Dp aop W WO
theorem Ban (k : Nat) (hk : 1 ≤ k) (t f : Bool) (l : List UInt8) (a : Nat) (hl : l.length < 1000000) (ha : 64 * (a + 1) ≤ l.length) (base : Nat) (H : Heap) :
  CF k Azs base [.islc t f 1 (BL l), .int .i64 a] H = some (.islc t (f && decide (64 * (a + 1) = l.length)) 1 (BL (blk l a)), H) := by
 have h : ∃ u H', CF k Azs base [.islc t f 1 (BL l), .int .i64 a] H = some (u, H') ∧ (u = .islc t (f && decide (64 * (a + 1) = l.length)) 1 (BL (blk l a)) ∧ H' = H) := by
  refine fni (by omega) Bfz rfl ?_
  unfold Bbi
  repeat' (first | refine qQb ?_ | fail)
  have e : (l.drop ((a : Int) * 64).toNat).take (((a : Int) * 64 + 64).toNat - ((a : Int) * 64).toNat) = blk l a := by
   unfold blk
   rw [show ((a : Int) * 64).toNat = 64 * a by omega, show ((a : Int) * 64 + 64).toNat - 64 * a = 64 by omega]
  have e2 : ((a : Int) * 64 + 64).toNat = 64 * (a + 1) := by omega
  refine ⟨Or.inr rfl, _, rfl, ?_, rfl⟩
  show AV.islc t (f && decide (((a : Int) * 64 + 64).toNat = l.length)) 1 (BL ((l.drop ((a : Int) * 64).toNat).take (((a : Int) * 64 + 64).toNat - ((a : Int) * 64).toNat))) = _
  rw [e, e2]
 obtain ⟨u, H', h1, rfl, rfl⟩ := h
 exact h1
theorem Bec (k : Nat) (hk : 2 ≤ k) (t f : Bool) (l : List UInt8) (hd : Dev l) : FnV (CF k) Ayf [.islc t f 1 (BL l)] (.tup [.int .i64 (nb l : Nat), .bool true]) := by
 have := Bff k hk t f l hd.1
 rw [As hd.2] at this
 exact this
def Bhp (l : List UInt8) : AV := match Uf l with
 | some (s, i) => .tup [s.av, .int .i64 (i : Nat), .bool true]
 | none => .tup [sup0.av, .int .i64 0, .bool false]
theorem Bmd (k : Nat) (hk : 1000060 ≤ k) (t f : Bool) (l : List UInt8) (hd : Dev l) : FnV (CF k) Bdo [.islc t f 1 (BL l)] (Bhp l) := by
 have hn := hd.nb
 have hck := Bec (k - 1) (by omega) t f l hd
 have hp : ∀ f' i, i < nb l → FnV (CF (k - 1)) Ayl [.islc t f' 1 (BL (blk l i))] (.tup [(Hg (blk l i)).1.av, .int .i64 (Hg (blk l i)).2]) := fun f' i hi => Bgv (k - 1) (by omega) t f' (blk l i) (by rw [bV (hd.le hi)]; omega)
 have h0 := Ban (k - 1) (by omega) t f l 0 hd.1 (hd.le (by omega))
 have h1 := Ban (k - 1) (by omega) t f l 1 hd.1 (hd.le (by omega))
 have hp0 := hp (f && decide (64 * (0 + 1) = l.length)) 0 (by omega)
 have hp1 := hp (f && decide (64 * (1 + 1) = l.length)) 1 (by omega)
 unfold Bhp Uf
 obtain ⟨a, ha⟩ : ∃ a, a = Hg (blk l 0) := ⟨_, rfl⟩
 obtain ⟨b, hb⟩ : ∃ b, b = Hg (blk l 1) := ⟨_, rfl⟩
 rw [← ha] at hp0 ⊢
 rw [← hb] at hp1 ⊢
 obtain ⟨⟨ag, ab, ar, az, af⟩, ae⟩ := a
 obtain ⟨⟨bg, bb, br, bz, bf⟩, be⟩ := b
 unfold Sup.av at hp0 hp1
 unfold Ade
 simp only at hp0 hp1 ⊢
 clear ha hb hp
 obtain ⟨X, hX⟩ : ∃ X, X = (if ae = 0 ∧ ab = nb l then (if (be = 0 ∧ bb = nb l) ∧ ag < bg then some ((⟨bg, bb, br, bz, bf⟩ : Sup), 1) else some ((⟨ag, ab, ar, az, af⟩ : Sup), 0)) else if be = 0 ∧ bb = nb l then some ((⟨bg, bb, br, bz, bf⟩ : Sup), 1) else none) := ⟨_, rfl⟩
 rw [← hX]
 have hA : (ae = 0 ∧ ab = nb l) → ¬ ((be = 0 ∧ bb = nb l) ∧ ag < bg) → X = some (⟨ag, ab, ar, az, af⟩, 0) := fun h1 h2 => by rw [hX, if_pos h1, if_neg h2]
 have hB : (be = 0 ∧ bb = nb l) → (¬ (ae = 0 ∧ ab = nb l) ∨ ag < bg) → X = some (⟨bg, bb, br, bz, bf⟩, 1) := fun h1 h2 => by
  rw [hX]
  by_cases h3 : ae = 0 ∧ ab = nb l
  ·rw [if_pos h3, if_pos ⟨h1, h2.resolve_left (fun h => h h3)⟩]
  ·rw [if_neg h3, if_pos h1]
 have hC : ¬ (ae = 0 ∧ ab = nb l) → ¬ (be = 0 ∧ bb = nb l) → X = none := fun h1 h2 => by rw [hX, if_neg h1, if_neg h2]
 clear hX
 refine fnk (by omega) Bhk rfl ?_
 unfold Bcr
 repeat' (first
  | refine qS ?_ | refine qN ?_ | refine Ih (h0 _ _) rfl rfl rfl ?_ | refine Ih (h1 _ _) rfl rfl rfl ?_ | refine Al (hck) (fun _ => ?_) (fun _ => ?_) | refine Ae (hck) ?_
  | refine Al (hp0) (fun _ => ?_) (fun _ => ?_) | refine Ae (hp0) ?_ | refine Al (hp1) (fun _ => ?_) (fun _ => ?_) | refine Ae (hp1) ?_ | refine qQb ?_
  | refine Ac (fun _ => ?_) (fun _ => ?_))
 all_goals first
  | (rw [hA (by omega) (by omega)]; exact ⟨Or.inr rfl, .tup [Sup.av ⟨ag, ab, ar, az, af⟩, .int .i64 (0 : Nat), .bool true], by kernel_rfl, by kernel_rfl⟩)
  | (rw [hB (by omega) (by omega)]; exact ⟨Or.inr rfl, .tup [Sup.av ⟨bg, bb, br, bz, bf⟩, .int .i64 (1 : Nat), .bool true], by kernel_rfl, by kernel_rfl⟩)
  | (rw [hC (by omega) (by omega)]; exact ⟨Or.inr rfl, .tup [sup0.av, .int .i64 (0 : Nat), .bool false], by kernel_rfl, by kernel_rfl⟩)
  | (exfalso; omega)
def Bes (c : CS) : AV := if c.bad = 0 then .tup [.islc false false 8 (c.l.map Rec.av), .islc false false 1 (NL c.blocks), .int .i64 0, .bool true] else .tup [.islc false false 8 [], .islc false false 1 [], .int .i64 (c.bad : Nat), .bool false]
theorem Bjh {k : Nat} {rs : List Rec} {r : Rec} {g4 : Nat} {v0 v5 v8 v10 v11 : AV} {T : Tmps} {H : Heap} (hk : 1000 ≤ k) (hl : rs.length < 900) (g0 : H 0 = ⟨1, false, .row 8 (rs.map Rec.av)⟩) (h4 : H 4 = ⟨g4, false, .row 8 [r.av]⟩)
  (hT : Has T [(0, v0), (4, .slc 0 1 rs.length 8 0 rs.length none), (5, v5), (8, v8), (10, v10), (11, v11), (12, .ptr 4 g4 1 8 0 0), (14, .int .i64 0)]) :
  W (Br (CF k) noX 0 k (.loop Azx) T H) (fun ex T' H' => (ex = .exit 2 ∧ (rs.any fun x => decide (x.id = r.id)) = false ∧ H' = H ∧ Has T' [(0, v0), (4, .slc 0 1 rs.length 8 0 rs.length none), (5, v5), (8, v8), (10, v10), (11, v11), (12, .ptr 4 g4 1 8 0 0)]) ∨
   (ex = .ret ∧ (rs.any fun x => decide (x.id = r.id)) = true ∧ ∃ g g', H' 7 = ⟨g, false, .row 8 []⟩ ∧ H' 8 = ⟨g', false, .row 1 []⟩ ∧ T' 4 = .slc 7 g 0 8 0 0 none ∧ T' 5 = .slc 8 g' 0 1 0 0 none ∧ T' 6 = v11 ∧ T' 7 = .bool false)) := by
 refine Fj rs.length (fun i T' H' => H' = H ∧ (rs.any fun x => decide (x.id = r.id)) = ((rs.drop i).any fun x => decide (x.id = r.id)) ∧ Has T' [(0, v0), (4, .slc 0 1 rs.length 8 0 rs.length none), (5, v5), (8, v8), (10, v10), (11, v11), (12, .ptr 4 g4 1 8 0 0), (14, .int .i64 (i : Nat))]) ⟨rfl, by simp, hT⟩ (by omega) ?_
 rintro i T H hi ⟨rfl, hgo, hT⟩
 rw [hT.eq]
 simp only [over]
 unfold Azx
 obtain ⟨r1, r2, r3, r4, r5, r6, r7, r8⟩ := r
 unfold Rec.av at h4
 simp only at h4 hgo ⊢
 by_cases hil : i < rs.length
 ·rw [Cm hil, Azj] at hgo
  obtain ⟨⟨b1, b2, b3, b4, b5, b6, b7, b8⟩, hr⟩ : ∃ r, r = rs[i] := ⟨_, rfl⟩
  have he2 : (rs.map Rec.av)[0 + (i : Int).toNat]? = some (.agg [.int .i64 b1, .int .i64 b2, .int .i64 b3, .int .i64 b4, .int .i64 b5, .int .i64 b6, .int .i64 b7, .int .i64 b8]) := by
   rw [Cq, Bd, Bp, Aa hil, ← hr]; rfl
  rw [← hr] at hgo
  simp only at hgo
  by_cases hid : b2 = r2
  ·rw [As hid, Bool.true_or] at hgo
   have hid' : (b2 : Int) = r2 := by omega
   repeat' (first
    | refine qS ?_ | refine Ds rfl rfl (by exact g0) (by rw [Ah]) (by omega) (by omega) (by omega) rfl rfl ?_
    | refine Ps (.int .i64 b2) rfl (by exact g0) (by rw [Ah]) (by exact he2) (by exact Ax rfl) rfl rfl rfl ?_
    | refine Ps (.int .i64 r2) rfl (by exact h4) rfl rfl (by exact Ax rfl) rfl rfl rfl ?_ | refine qQb ?_ | refine Ac (fun _ => ?_) (fun _ => ?_))
   exact .inr ⟨rfl, hgo, (H 7).gen + 1, (H 8).gen + 1, rfl, rfl, rfl, rfl, rfl, rfl⟩
  ·rw [Bb hid, Azi] at hgo
   have hid' : (b2 : Int) ≠ r2 := by omega
   repeat' (first
    | refine qS ?_ | refine Ds rfl rfl (by exact g0) (by rw [Ah]) (by omega) (by omega) (by omega) rfl rfl ?_
    | refine Ps (.int .i64 b2) rfl (by exact g0) (by rw [Ah]) (by exact he2) (by exact Ax rfl) rfl rfl rfl ?_
    | refine Ps (.int .i64 r2) rfl (by exact h4) rfl rfl (by exact Ax rfl) rfl rfl rfl ?_ | refine qQb ?_ | refine Ac (fun _ => ?_) (fun _ => ?_))
   exact ⟨hil, rfl, hgo, rfl, rfl, rfl, rfl, rfl, rfl, rfl, by show AV.int _ _ = AV.int _ _; congr 1, trivial⟩
 ·have hin : i = rs.length := by omega
  rw [Ce (by omega)] at hgo
  repeat' (first | refine qQb ?_ | refine Ac (fun _ => ?_) (fun _ => ?_))
  exact .inl ⟨rfl, hgo, rfl, rfl, rfl, rfl, rfl, rfl, rfl, rfl, trivial⟩
def Bja (H : Heap) (c : CS) : Prop := H 0 = ⟨1, false, .row 8 (c.l.map Rec.av)⟩ ∧ H 1 = ⟨1, false, .row 1 (NL c.blocks)⟩ ∧ c.blocks.length = c.l.length ∧ c.bad = 0
def Blv (c : CS) (T : Tmps) (H : Heap) : Prop := c.bad ≠ 0 ∧ ∃ j g i g', H j = ⟨g, false, .row 8 []⟩ ∧ H i = ⟨g', false, .row 1 []⟩ ∧ T 4 = .slc j g 0 8 0 0 none ∧ T 5 = .slc i g' 0 1 0 0 none ∧ T 6 = .int .i64 (c.bad : Nat) ∧ T 7 = .bool false
theorem Bjx (k : Nat) (hk : 1000060 ≤ k) {f : Bool} {l : List UInt8} (hd : Dev l) {first : Nat} {T : Tmps} {H : Heap} (hch : Bja H cs0)
  (hT : Has T [(0, .islc false f 1 (BL l)), (4, .slc 0 1 0 8 0 0 none), (5, .slc 1 1 0 1 0 0 none), (8, .int .i64 (nb l : Nat)), (10, .int .i64 0), (11, .int .i64 (first : Nat))]) :
  W (Br (CF k) noX 0 k (.loop Azy) T H) (fun ex T' H' => (ex = .exit 0 ∧ Bja H' (Eb l 64 first cs0) ∧ (Eb l 64 first cs0).l.length ≤ 100 ∧ Has T' [(4, .slc 0 1 (Eb l 64 first cs0).l.length 8 0 (Eb l 64 first cs0).l.length none), (5, .slc 1 1 (Eb l 64 first cs0).l.length 1 0 (Eb l 64 first cs0).l.length none)]) ∨ (ex = .ret ∧ Blv (Eb l 64 first cs0) T' H')) := by
 refine eP (fun m T H => ∃ c a, Eb l 64 first cs0 = Eb l (m + 1) a c ∧ Bja H c ∧ c.l.length + m = 63 ∧ c.l.length ≤ c.whole + 1 ∧ c.whole ≤ 60 ∧ Has T [(0, .islc false f 1 (BL l)), (4, .slc 0 1 c.l.length 8 0 c.l.length none), (5, .slc 1 1 c.l.length 1 0 c.l.length none), (8, .int .i64 (nb l : Nat)), (10, .int .i64 (c.whole : Nat)), (11, .int .i64 (a : Nat))])
  63 ⟨cs0, first, rfl, hch, rfl, by decide, by decide, hT⟩ (by omega) ?_
 rintro m T H hm ⟨c, a, hgo, ⟨g0, g1, hbl, hbad⟩, hlm, hl1, hw60, hT⟩
 have hn := hd.nb
 rw [hT.eq]
 simp only [over]
 unfold Azy
 by_cases ha0 : a = 0
 ·have hgo : Eb l 64 first cs0 = c := by rw [hgo, Eb, if_pos ha0]
  repeat' (first | refine qS ?_ | refine qN ?_ | refine qQb ?_ | refine Ac (fun _ => ?_) (fun _ => ?_) | refine Bl fun _ => ?_)
  rw [hgo]
  exact .inl ⟨rfl, ⟨g0, g1, hbl, hbad⟩, by omega, rfl, rfl, trivial⟩
 have hgo : Eb l 64 first cs0 = if a < 2 ∨ nb l ≤ a ∨ c.blocks.any (a == ·) = true then { c with bad := a } else if (Ff (blk l a)).2 ≠ 0 ∨ mayP c (Ff (blk l a)).1 = false then { c with bad := a } else Eb l m (Ff (blk l a)).1.next (c.put a (Ff (blk l a)).1) := by
  rw [hgo, Eb, if_neg ha0]
 have hin := r_in k (by omega) (a : Int) 2 ((nb l : Int) - 1)
 have hhas : FnV (CF k) Bbc [fz false (4 + 2) H (.slc 1 1 c.l.length 1 0 c.l.length none), .int .i64 (a : Nat)] (.bool (c.blocks.any (a == ·))) := by
  rw [Gb g1 hbl 4]
  exact Bmi k (by omega) true false 1 c.blocks a (by omega) (.inl rfl)
 by_cases h2 : a < 2 ∨ nb l ≤ a
 ·rw [if_pos (by rcases h2 with h | h; exact .inl h; exact .inr (.inl h))] at hgo
  rw [hgo]
  rw [inR_f.2 (by omega)] at hin
  repeat' (first | refine qS ?_ | refine qN ?_ | refine Ae hin ?_ | refine qQb ?_ | refine Ac (fun _ => ?_) (fun _ => ?_) | refine Bl fun _ => ?_)
  exact .inr ⟨rfl, ha0, 2, (H 2).gen + 1, 3, (H 3).gen + 1, rfl, rfl, rfl, rfl, rfl, rfl⟩
 rw [inR_iff.2 (by omega)] at hin
 cases hc : c.blocks.any (a == ·) with
 | true =>
  rw [hc] at hgo hhas
  rw [if_pos (.inr (.inr rfl))] at hgo
  rw [hgo]
  repeat' (first | refine qS ?_ | refine qN ?_ | refine Ae hin ?_ | refine Ae hhas ?_ rfl (by rfl) | refine qQb ?_ | refine Ac (fun _ => ?_) (fun _ => ?_) | refine Bl fun _ => ?_)
  exact .inr ⟨rfl, ha0, 2, (H 2).gen + 1, 3, (H 3).gen + 1, rfl, rfl, rfl, rfl, rfl, rfl⟩
 | false =>
  rw [hc] at hgo hhas
  rw [if_neg (by simp; omega)] at hgo
  have hof := Ban k (by omega) false f l a hd.1 (hd.le (by omega))
  have hp := Bgb k (by omega) false (f && decide (64 * (a + 1) = l.length)) (blk l a) (by rw [bV (hd.le (by omega))]; omega)
  have hpok := Um (b := blk l a)
  obtain ⟨x, hx⟩ : ∃ x, x = Ff (blk l a) := ⟨_, rfl⟩
  rw [← hx] at hp hpok hgo
  obtain ⟨⟨r1, r2, r3, r4, r5, r6, r7, r8⟩, e⟩ := x
  unfold Rec.av at hp
  simp only at hp hpok hgo
  obtain ⟨g4, hg4⟩ : ∃ g, g = (H 4).gen + 1 := ⟨_, rfl⟩
  by_cases he : e ≠ 0
  ·rw [if_pos (.inl he)] at hgo
   rw [hgo]
   repeat' (first
    | refine qS ?_ | refine qN ?_ | refine Ae hin ?_ | refine Ae hhas ?_ rfl (by rfl) | refine Ih (hof _ _) rfl rfl rfl ?_ | refine Xf ?_ (hl := by kernel_rfl)
    | refine Al (hp) (fun _ => ?_) (fun _ => ?_) | refine Ae (hp) ?_ | refine qQb ?_ | refine Ac (fun _ => ?_) (fun _ => ?_) | refine Bl fun _ => ?_)
   exact .inr ⟨rfl, ha0, 5, (H 5).gen + 1, 6, (H 6).gen + 1, rfl, rfl, rfl, rfl, rfl, rfl⟩
  have he := Dm.1 he
  have hok := hpok he
  by_cases hk1 : r6 = 1 ∧ 0 < c.l.length
  ·have hmm : mayP c ⟨r1, r2, r3, r4, r5, r6, r7, r8⟩ = false := by
    unfold mayP
    rw [if_pos hk1.1]
    exact Bb (fun h => by rw [h] at hk1; simp at hk1)
   rw [if_pos (.inr hmm)] at hgo
   rw [hgo]
   have hk1' : (r6 : Int) = 1 := by omega
   repeat' (first
    | refine qS ?_ | refine qN ?_ | refine Ae hin ?_ | refine Ae hhas ?_ rfl (by rfl) | refine Ih (hof _ _) rfl rfl rfl ?_ | refine Xf ?_ (hl := by kernel_rfl)
    | refine Al (hp) (fun _ => ?_) (fun _ => ?_) | refine Ae (hp) ?_ | refine qQb ?_ | refine Ac (fun _ => ?_) (fun _ => ?_) | refine Bl fun _ => ?_)
   exact .inr ⟨rfl, ha0, 5, (H 5).gen + 1, 6, (H 6).gen + 1, rfl, rfl, rfl, rfl, rfl, rfl⟩
  have hkd : r6 = 0 ∨ r6 = 1 := Rec.ok_kind hok
  by_cases hk0 : r6 = 0
  ·have hk0' : (r6 : Int) = 0 := by omega
   repeat' (first
    | refine qS ?_ | refine qN ?_ | refine Ae hin ?_ | refine Ae hhas ?_ rfl (by rfl) | refine Ih (hof _ _) rfl rfl rfl ?_ | refine Xf ?_ (hl := by kernel_rfl)
    | refine Al (hp) (fun _ => ?_) (fun _ => ?_) | refine Ae (hp) ?_ | refine qQb ?_ | refine Ac (fun _ => ?_) (fun _ => ?_) | refine Bl fun _ => ?_)
   refine Bgh [(0, .islc false f 1 (BL l)), (4, .slc 0 1 c.l.length 8 0 c.l.length none), (5, .slc 1 1 c.l.length 1 0 c.l.length none), (8, .int .i64 (nb l : Nat)), (10, .int .i64 (c.whole + 1 : Nat)), (11, .int .i64 (a : Nat)), (12, .ptr 4 ((H 4).gen + 1) 1 8 0 0), (14, .int .i64 0)] [(1, H 1), (0, H 0), (4, ⟨(H 4).gen + 1, false, .row 8 [Rec.av ⟨r1, r2, r3, r4, r5, r6, r7, r8⟩]⟩)] ⟨by kernel_rfl, by kernel_rfl, by kernel_rfl, by kernel_rfl, by kernel_rfl, by kernel_rfl, by kernel_rfl, by kernel_rfl, trivial⟩ ⟨by kernel_rfl, by kernel_rfl, by kernel_rfl, trivial⟩ (fun T H hT hH => ?_)
   obtain ⟨h1, h0, h4, -⟩ := hH
   simp only [over]
   clear hT
   rw [g0] at h0
   rw [g1] at h1
   refine W.mono (Bjh (k := k) (rs := c.l) (r := ⟨r1, r2, r3, r4, r5, r6, r7, r8⟩) (v0 := .islc false f 1 (BL l)) (v5 := .slc 1 1 c.l.length 1 0 c.l.length none) (v8 := .int .i64 (nb l : Nat)) (v10 := .int .i64 (c.whole + 1 : Nat)) (v11 := .int .i64 (a : Nat)) (by omega) (by omega) h0 h4 ⟨rfl, rfl, rfl, rfl, rfl, rfl, rfl, rfl, trivial⟩) ?_
   rintro ex T2 H2 (⟨rfl, hany, rfl, hT2⟩ | ⟨rfl, hany, g, g', q7, q8, e4, e5, e6, e7⟩)
   ·rw [hT2.eq]
    simp only [over]
    show W _ _
    have hpw : (c.put a ⟨r1, r2, r3, r4, r5, r6, r7, r8⟩).whole = c.whole + 1 := if_pos hk0
    by_cases hw : c.whole < 60
    ·have hmm : mayP c ⟨r1, r2, r3, r4, r5, r6, r7, r8⟩ = true := by
      unfold mayP
      rw [if_neg (by show ¬ r6 = 1; omega), hany, As hw]; rfl
     rw [if_neg (by simp [he, hmm])] at hgo
     repeat' (first
      | refine qS ?_ | refine qN ?_ | refine Ps (Rec.av ⟨r1, r2, r3, r4, r5, r6, r7, r8⟩) rfl (by exact h4) rfl rfl (by exact Ax rfl) rfl rfl rfl ?_
      | refine Ps (.int .i64 r1) rfl (by exact h4) rfl rfl (by exact Ax rfl) rfl rfl rfl ?_
      | refine Lm (es := c.l.map Rec.av) rfl rfl rfl (by exact h0) (by rw [Ah]) rfl (by omega) rfl rfl (fun _ => ?_)
      | refine Lm (es := NL c.blocks) rfl rfl rfl (by exact h1) (by rw [Bm]; exact hbl) rfl (by omega) rfl rfl (fun _ => ?_) | refine qQb ?_
      | refine Ac (fun _ => ?_) (fun _ => ?_) | refine Bl fun _ => ?_)
     refine ⟨by omega, c.put a ⟨r1, r2, r3, r4, r5, r6, r7, r8⟩, r1, by rw [hgo, show m - 1 + 1 = m by omega], ⟨?_, ?_, by simp [CS.put, hbl], rfl⟩, by simp only [CS.put, An, Ao, De]; omega, by rw [hpw]; simp only [CS.put, An, Ao, De]; omega, by rw [hpw]; omega, rfl, ?_, ?_, rfl, by rw [hpw]; rfl, rfl, trivial⟩
     ·simp only [CS.put, Bq]; rfl
     ·simp only [CS.put, iV]; rfl
     ·simp only [CS.put, An, Ao, De]; rfl
     ·simp only [CS.put, An, Ao, De]; rfl
    ·have hmm : mayP c ⟨r1, r2, r3, r4, r5, r6, r7, r8⟩ = false := by
      unfold mayP
      rw [if_neg (by show ¬ r6 = 1; omega), hany, Bb hw]; rfl
     rw [if_pos (.inr hmm)] at hgo
     rw [hgo]
     repeat' (first | refine qS ?_ | refine qN ?_ | refine qQb ?_ | refine Ac (fun _ => ?_) (fun _ => ?_) | refine Bl fun _ => ?_)
     exact .inr ⟨rfl, ha0, 9, _, 10, _, rfl, rfl, rfl, rfl, rfl, rfl⟩
   ·have hmm : mayP c ⟨r1, r2, r3, r4, r5, r6, r7, r8⟩ = false := by
     unfold mayP
     rw [if_neg (by show ¬ r6 = 1; omega), hany]; rfl
    rw [if_pos (.inr hmm)] at hgo
    rw [hgo]
    exact .inr ⟨rfl, ha0, 7, g, 8, g', q7, q8, e4, e5, e6, e7⟩
  ·have hk1' : (r6 : Int) = 1 := by omega
   have hcl : c.l = [] := by
    cases h : c.l with
    | nil => rfl
    | cons y ys => exact absurd ⟨by omega, by rw [h]; simp⟩ hk1
   repeat' (first
    | refine qS ?_ | refine qN ?_ | refine Ae hin ?_ | refine Ae hhas ?_ rfl (by rfl) | refine Ih (hof _ _) rfl rfl rfl ?_ | refine Xf ?_ (hl := by kernel_rfl)
    | refine Al (hp) (fun _ => ?_) (fun _ => ?_) | refine Ae (hp) ?_ | refine qQb ?_ | refine Ac (fun _ => ?_) (fun _ => ?_) | refine Bl fun _ => ?_)
   refine Bgh [(0, .islc false f 1 (BL l)), (4, .slc 0 1 c.l.length 8 0 c.l.length none), (5, .slc 1 1 c.l.length 1 0 c.l.length none), (8, .int .i64 (nb l : Nat)), (10, .int .i64 (c.whole : Nat)), (11, .int .i64 (a : Nat)), (12, .ptr 4 ((H 4).gen + 1) 1 8 0 0), (14, .int .i64 0)] [(1, H 1), (0, H 0), (4, ⟨(H 4).gen + 1, false, .row 8 [Rec.av ⟨r1, r2, r3, r4, r5, r6, r7, r8⟩]⟩)] ⟨by kernel_rfl, by kernel_rfl, by kernel_rfl, by kernel_rfl, by kernel_rfl, by kernel_rfl, by kernel_rfl, by kernel_rfl, trivial⟩ ⟨by kernel_rfl, by kernel_rfl, by kernel_rfl, trivial⟩ (fun T H hT hH => ?_)
   obtain ⟨h1, h0, h4, -⟩ := hH
   simp only [over]
   clear hT
   rw [g0] at h0
   rw [g1] at h1
   refine W.mono (Bjh (k := k) (rs := c.l) (r := ⟨r1, r2, r3, r4, r5, r6, r7, r8⟩) (v0 := .islc false f 1 (BL l)) (v5 := .slc 1 1 c.l.length 1 0 c.l.length none) (v8 := .int .i64 (nb l : Nat)) (v10 := .int .i64 (c.whole : Nat)) (v11 := .int .i64 (a : Nat)) (by omega) (by omega) h0 h4 ⟨rfl, rfl, rfl, rfl, rfl, rfl, rfl, rfl, trivial⟩) ?_
   rintro ex T2 H2 (⟨rfl, hany, rfl, hT2⟩ | ⟨rfl, hany, g, g', q7, q8, e4, e5, e6, e7⟩)
   ·rw [hT2.eq]
    simp only [over]
    show W _ _
    have hpw : (c.put a ⟨r1, r2, r3, r4, r5, r6, r7, r8⟩).whole = c.whole := if_neg hk0
    have hmm : mayP c ⟨r1, r2, r3, r4, r5, r6, r7, r8⟩ = true := by
     unfold mayP
     rw [if_pos (by show r6 = 1; omega)]
     exact As hcl
    rw [if_neg (by simp [he, hmm])] at hgo
    repeat' (first
     | refine qS ?_ | refine qN ?_ | refine Ps (Rec.av ⟨r1, r2, r3, r4, r5, r6, r7, r8⟩) rfl (by exact h4) rfl rfl (by exact Ax rfl) rfl rfl rfl ?_
     | refine Ps (.int .i64 r1) rfl (by exact h4) rfl rfl (by exact Ax rfl) rfl rfl rfl ?_
     | refine Lm (es := c.l.map Rec.av) rfl rfl rfl (by exact h0) (by rw [Ah]) rfl (by omega) rfl rfl (fun _ => ?_)
     | refine Lm (es := NL c.blocks) rfl rfl rfl (by exact h1) (by rw [Bm]; exact hbl) rfl (by omega) rfl rfl (fun _ => ?_) | refine qQb ?_
     | refine Ac (fun _ => ?_) (fun _ => ?_) | refine Bl fun _ => ?_)
    refine ⟨by omega, c.put a ⟨r1, r2, r3, r4, r5, r6, r7, r8⟩, r1, by rw [hgo, show m - 1 + 1 = m by omega], ⟨?_, ?_, by simp [CS.put, hbl], rfl⟩, by simp only [CS.put, An, Ao, De]; omega, by rw [hpw]; simp only [CS.put, An, Ao, De]; omega, by rw [hpw]; omega, rfl, ?_, ?_, rfl, by rw [hpw]; rfl, rfl, trivial⟩
    ·simp only [CS.put, Bq]; rfl
    ·simp only [CS.put, iV]; rfl
    ·simp only [CS.put, An, Ao, De]; rfl
    ·simp only [CS.put, An, Ao, De]; rfl
   ·rw [hcl] at hany; cases hany
theorem Bjk {out : Bool} {H : Heap} {j g s : Nat} (h : H j = ⟨g, false, .row s []⟩) (n : Nat) : fz out (n + 2) H (.slc j g 0 s 0 0 none) = .islc (!out) false s [] := by
 rw [Tf (ver := 0) (es := []) (Fv h rfl) (by omega)]
 rfl
theorem Bjy (k : Nat) (hk : 1000070 ≤ k) (f : Bool) (l : List UInt8) (hd : Dev l) (first : Nat) : FnV (CF k) Bau [.islc false f 1 (BL l), .int .i64 first] (Bes (Eb l 64 first cs0)) := by
 have hck := Bec (k - 1) (by omega) false f l hd
 refine fnk (by omega) Beo rfl ?_
 unfold ref10_Records
 repeat' (first | refine qS ?_ | refine qN ?_ | refine Al (hck) (fun _ => ?_) (fun _ => ?_) | refine Ae (hck) ?_ | refine qQb ?_ | refine Ac (fun _ => ?_) (fun _ => ?_) | refine Bl fun _ => ?_)
 refine W.mono (Bjx (k - 1) (by omega) (f := f) (l := l) hd (first := first) ⟨rfl, rfl, rfl, rfl⟩ ⟨rfl, rfl, rfl, rfl, rfl, rfl, trivial⟩) ?_
 rintro ex T2 H2 (⟨rfl, ⟨g0, g1, hbl, hbad⟩, hlen, hT⟩ | ⟨rfl, hbad, j, g, i, g', hj, hi, e4, e5, e6, e7⟩)
 ·rw [hT.eq]
  simp only [over]
  show W _ _
  unfold Bes
  rw [if_pos hbad]
  generalize Eb l 64 first cs0 = c at *
  repeat' (first | refine qS ?_ | refine qN ?_ | refine qQb ?_ | refine Ac (fun _ => ?_) (fun _ => ?_) | refine Bl fun _ => ?_)
  refine ⟨Or.inr rfl, .tup [.slc 0 1 c.l.length 8 0 c.l.length none, .slc 1 1 c.l.length 1 0 c.l.length none, .int .i64 0, .bool true], rfl, ?_⟩
  show AV.tup [fz true 5 H2 (.slc 0 1 c.l.length 8 0 c.l.length none), fz true 5 H2 (.slc 1 1 c.l.length 1 0 c.l.length none), .int .i64 0, .bool true] = _
  rw [Ath g0 rfl 2, Gb g1 hbl 3]; rfl
 ·unfold Bes
  rw [if_neg hbad]
  refine ⟨Or.inr rfl, .tup [.slc j g 0 8 0 0 none, .slc i g' 0 1 0 0 none, .int .i64 ((Eb l 64 first cs0).bad : Nat), .bool false], ?_, ?_⟩
  ·show some (AV.tup [T2 4, T2 5, T2 6, T2 7]) = _
   rw [e4, e5, e6, e7]
  ·show AV.tup [fz true 5 H2 (.slc j g 0 8 0 0 none), fz true 5 H2 (.slc i g' 0 1 0 0 none), .int .i64 ((Eb l 64 first cs0).bad : Nat), .bool false] = _
   rw [Bjk hj 3, Bjk hi 3]; rfl
end Go.Proofs.YtkaiiopoilpjeaaGreat
