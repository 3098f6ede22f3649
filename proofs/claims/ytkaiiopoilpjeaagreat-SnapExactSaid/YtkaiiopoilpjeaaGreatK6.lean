import Derived.Test.YtkaiiopoilpjeaaGreatK5
set_option linter.unusedSimpArgs false
set_option linter.unusedVariables false
set_option maxRecDepth 10000
set_option maxHeartbeats 16000000
namespace Go.AI
section
variable {cf : CallF} {xf : ExtF} {base : Nat} {T : Tmps} {H : Heap} {QO : Tmps → Heap → Prop} {log : List FP} {g : Option (Nat × Bool)} {un : List Nat} {r : List SOper} {d : Nat}
theorem wo_loadNL {v : AV} {ps : List Nat} {j g0 s o i : Nat} {ro : Bool} {x : SArg} (hx : x.ev T = .ptr j g0 1 s 0 o) (ho : o = 1 + i) (hi : i < ps.length) (hr : H j = ⟨g0, ro, .row s [.agg (v :: ps.map fun n : Nat => AV.int .i64 n)]⟩) (hw : awanted T g = some true) (hl : logOk log ⟨[j], [], false⟩ un = true)
  (h : WO (aops cf xf base r (log ++ [⟨[j], [], false⟩]) (T.upd d (.int .i64 (ps.getD i default : Nat))) H) QO) : WO (aops cf xf base (⟨some d, .load 1 false x, g, un⟩ :: r) log T H) QO := by
 subst ho
 refine wo_loadR (es := [.agg (v :: ps.map fun n : Nat => AV.int .i64 n)]) (.int .i64 (ps.getD i default : Nat)) hx hr rfl rfl (by simp [AV.cells]; omega) ?_ hw hl h
 show (((v :: ps.map fun n : Nat => AV.int .i64 n).drop (1 + i)).headD .undef) = _
 rw [Nat.add_comm 1 i, List.drop_succ_cons, List.drop_eq_getElem_cons (by simpa using hi), List.headD_cons]
 simp [hi]
theorem wo_storeNL {v : AV} {ps : List Nat} {j g0 s o i m : Nat} {x y : SArg} (hx : x.ev T = .ptr j g0 1 s 0 o) (ho : o = 1 + i) (hi : i < ps.length) (hr : H j = ⟨g0, false, .row s [.agg (v :: ps.map fun n : Nat => AV.int .i64 n)]⟩) (hy : y.ev T = .int .i64 (m : Nat)) (hw : awanted T g = some true) (hl : logOk log ⟨[j], [j], false⟩ un = true)
  (h : WO (aops cf xf base r (log ++ [⟨[j], [j], false⟩]) T (H.upd j ⟨g0, false, .row s [.agg (v :: (ps.set i m).map fun n : Nat => AV.int .i64 n)]⟩)) QO) : WO (aops cf xf base (⟨none, .store 1 x y, g, un⟩ :: r) log T H) QO := by
 subst ho
 refine wo_storeR (es := [.agg (v :: ps.map fun n : Nat => AV.int .i64 n)]) (cs := [.int .i64 (m : Nat)]) hx hr rfl rfl hy rfl rfl rfl (by simp [AV.cells]; omega) hw hl ?_
 have e : ([.agg (v :: ps.map fun n : Nat => AV.int .i64 n)] : List AV).set 0 ((AV.agg (v :: ps.map fun n : Nat => AV.int .i64 n)).rewrap ((v :: ps.map fun n : Nat => AV.int .i64 n).take (1 + i) ++ [.int .i64 (m : Nat)] ++ (v :: ps.map fun n : Nat => AV.int .i64 n).drop (1 + i + 1))) = [.agg (v :: (ps.set i m).map fun n : Nat => AV.int .i64 n)] := by
  show [AV.agg ((v :: ps.map fun n : Nat => AV.int .i64 n).take (1 + i) ++ [.int .i64 (m : Nat)] ++ (v :: ps.map fun n : Nat => AV.int .i64 n).drop (1 + i + 1))] = _
  rw [Nat.add_comm 1 i, List.take_succ_cons, List.drop_succ_cons, List.map_set, List.set_eq_take_append_cons_drop, if_pos (by simpa using hi)]
  simp
 show WO (aops cf xf base r _ T (H.upd j ⟨g0, false, .row s (([.agg (v :: ps.map fun n : Nat => AV.int .i64 n)] : List AV).set 0 ((AV.agg (v :: ps.map fun n : Nat => AV.int .i64 n)).rewrap ((v :: ps.map fun n : Nat => AV.int .i64 n).take (1 + i) ++ [.int .i64 (m : Nat)] ++ (v :: ps.map fun n : Nat => AV.int .i64 n).drop (1 + i + 1))))⟩)) QO
 rw [e]
 exact h
end
end Go.AI
namespace Go.Proofs.YtkaiiopoilpjeaaGreat
open Go.AI
theorem numW {b : List UInt8} (h : b.length = 64) : numGo b 4 sW = if (getP b ((4 : Nat) : Int) 8).2 = 0 then some ([(getP b ((4 : Nat) : Int) 8).1, ((g4 b 12 : Nat) : Int), ((g4 b 16 : Nat) : Int), ((g4 b 20 : Nat) : Int), ((g4 b 24 : Nat) : Int)], 28) else none := by
 have e12 := getP_4 (b := b) (a := 12) (by omega)
 have e16 := getP_4 (b := b) (a := 16) (by omega)
 have e20 := getP_4 (b := b) (a := 20) (by omega)
 have e24 := getP_4 (b := b) (a := 24) (by omega)
 show (if (getP b ((4 : Nat) : Int) 8).2 = 0 then ((numGo b 12 [4, 4, 4, 4]).map fun x => ((getP b ((4 : Nat) : Int) 8).1 :: x.1, x.2)) else none) = _
 have e5 : numGo b 12 [4, 4, 4, 4] = some ([((g4 b 12 : Nat) : Int), ((g4 b 16 : Nat) : Int), ((g4 b 20 : Nat) : Int), ((g4 b 24 : Nat) : Int)], 28) := by
  show (if (getP b ((12 : Nat) : Int) 4).2 = 0 then ((if (getP b ((16 : Nat) : Int) 4).2 = 0 then ((if (getP b ((20 : Nat) : Int) 4).2 = 0 then ((if (getP b ((24 : Nat) : Int) 4).2 = 0 then ((some ([], 28)).map fun x => ((getP b ((24 : Nat) : Int) 4).1 :: x.1, x.2)) else none).map fun x => ((getP b ((20 : Nat) : Int) 4).1 :: x.1, x.2)) else none).map fun x => ((getP b ((16 : Nat) : Int) 4).1 :: x.1, x.2)) else none).map fun x => ((getP b ((12 : Nat) : Int) 4).1 :: x.1, x.2)) else none) = _
  rw [e12, e16, e20, e24]
  rfl
 rw [e5]
 by_cases h1 : (getP b ((4 : Nat) : Int) 8).2 = 0
 ·rw [if_pos h1, if_pos h1]; rfl
 ·rw [if_neg h1, if_neg h1]
theorem parseSup_val {b : List UInt8} {o z r : Bool} {n c12 c16 c20 c24 : Nat} (h0 : openP b mW = 0) (en : (getP b ((4 : Nat) : Int) 8).1 = n) (e12 : c12 = g4 b 12) (e16 : c16 = g4 b 16) (e20 : c20 = g4 b 20) (e24 : c24 = g4 b 24)
  (ho : o = decide ((getP b ((4 : Nat) : Int) 8).2 = 0)) (hz : z = zerosP b 28 60) (hr : r = decide (Sup.ok ⟨n, c12, c16, c20, c24⟩)) :
  parseSup b = if (o && r && z) = true then (⟨n, c12, c16, c20, c24⟩, 0) else (sup0, 1) := by
 subst e12 e16 e20 e24 ho hz hr
 obtain ⟨hlen, hrd⟩ := (readP_open (b := b) (m := mW) (ss := sW)).2 h0
 unfold parseSup
 rw [hrd, numW hlen, en]
 by_cases o1 : (getP b ((4 : Nat) : Int) 8).2 = 0
 ·rw [if_pos o1, decide_eq_true o1]
  cases hz : zerosP b 28 60 with
  | true =>
   have hrec : supOf [(n : Int), ((g4 b 12 : Nat) : Int), ((g4 b 16 : Nat) : Int), ((g4 b 20 : Nat) : Int), ((g4 b 24 : Nat) : Int)] = ⟨n, g4 b 12, g4 b 16, g4 b 20, g4 b 24⟩ := rfl
   simp only
   rw [if_pos hz, if_neg (by simp), hrec]
   by_cases hk : Sup.ok ⟨n, g4 b 12, g4 b 16, g4 b 20, g4 b 24⟩
   ·rw [if_pos hk, decide_eq_true hk]; rfl
   ·rw [if_neg hk, decide_eq_false hk]; rfl
  | false =>
   have hz' : ¬ (zerosP b 28 60 = true) := by rw [hz]; decide
   simp only
   rw [if_neg hz', Bool.and_false]; rfl
 ·rw [if_neg o1, decide_eq_false o1]; rfl
def ptrs8 (b : List UInt8) : List Nat := (List.range 8).map fun j => g4 b (8 + 4 * j)
theorem numN {b : List UInt8} (h : b.length = 64) : numGo b 4 sN = some (((g4 b 4 : Nat) : Int) :: (ptrs8 b).map fun n : Nat => (n : Int), 40) := by
 have e : ∀ a, a + 4 ≤ 64 → getP b ((a : Nat) : Int) 4 = (((g4 b a : Nat) : Int), 0) := fun a ha => getP_4 (by omega)
 show (if (getP b ((4 : Nat) : Int) 4).2 = 0 then ((if (getP b ((8 : Nat) : Int) 4).2 = 0 then ((if (getP b ((12 : Nat) : Int) 4).2 = 0 then ((if (getP b ((16 : Nat) : Int) 4).2 = 0 then ((if (getP b ((20 : Nat) : Int) 4).2 = 0 then ((if (getP b ((24 : Nat) : Int) 4).2 = 0 then ((if (getP b ((28 : Nat) : Int) 4).2 = 0 then ((if (getP b ((32 : Nat) : Int) 4).2 = 0 then ((if (getP b ((36 : Nat) : Int) 4).2 = 0 then ((some ([], 40)).map fun x => ((getP b ((36 : Nat) : Int) 4).1 :: x.1, x.2)) else none).map fun x => ((getP b ((32 : Nat) : Int) 4).1 :: x.1, x.2)) else none).map fun x => ((getP b ((28 : Nat) : Int) 4).1 :: x.1, x.2)) else none).map fun x => ((getP b ((24 : Nat) : Int) 4).1 :: x.1, x.2)) else none).map fun x => ((getP b ((20 : Nat) : Int) 4).1 :: x.1, x.2)) else none).map fun x => ((getP b ((16 : Nat) : Int) 4).1 :: x.1, x.2)) else none).map fun x => ((getP b ((12 : Nat) : Int) 4).1 :: x.1, x.2)) else none).map fun x => ((getP b ((8 : Nat) : Int) 4).1 :: x.1, x.2)) else none).map fun x => ((getP b ((4 : Nat) : Int) 4).1 :: x.1, x.2)) else none) = _
 rw [e 4 (by decide), e 8 (by decide), e 12 (by decide), e 16 (by decide), e 20 (by decide), e 24 (by decide), e 28 (by decide), e 32 (by decide), e 36 (by decide)]
 rfl
theorem parseNod_val {b : List UInt8} {z r : Bool} {v : Nat} (h0 : openP b mN = 0) (ev : v = g4 b 4) (hz : z = zerosP b 40 60) (hr : r = decide (Nod.ok ⟨v, ptrs8 b⟩)) :
  parseNod b = if (r && z) = true then (⟨v, ptrs8 b⟩, 0) else (nod0, 1) := by
 subst ev hz hr
 obtain ⟨hlen, hrd⟩ := (readP_open (b := b) (m := mN) (ss := sN)).2 h0
 unfold parseNod
 rw [hrd, numN hlen]
 cases hz : zerosP b 40 60 with
 | true =>
  have hrec : nodOf (((g4 b 4 : Nat) : Int) :: (ptrs8 b).map fun n : Nat => (n : Int)) = ⟨g4 b 4, ptrs8 b⟩ := by
   unfold nodOf
   simp [List.map_map, Function.comp_def]
  simp only
  rw [if_pos hz, if_neg (by simp), hrec]
  by_cases hk : Nod.ok ⟨g4 b 4, ptrs8 b⟩
  ·rw [if_pos hk, decide_eq_true hk]; rfl
  ·rw [if_neg hk, decide_eq_false hk]; rfl
 | false =>
  have hz' : ¬ (zerosP b 40 60 = true) := by rw [hz]; decide
  simp only
  rw [if_neg hz', Bool.and_false]; rfl
attribute [local irreducible] aops aexec acall aiter aop W WO
theorem r_ParseSuper (k : Nat) (hk : 1000050 ≤ k) (t f : Bool) (b : List UInt8) (hb : b.length < 1000000) : FnV (CF k) n_ref01_ParseSuper [.islc t f 1 (BL b)] (.tup [(parseSup b).1.av, .int .i64 (parseSup b).2]) := by
 have ho := r_open (k - 1) (by omega) t f b mW hb
 obtain ⟨hn0, h0⟩ := readP_open (b := b) (m := mW) (ss := sW)
 refine fnk (by omega) B_ref01_ParseSuper rfl ?_
 by_cases hz : openP b mW = 0
 rotate_left 1
 ·have hv : parseSup b = (sup0, openP b mW) := by
   unfold parseSup
   rw [hn0 hz]
   simp only
   rw [if_pos hz]
  rw [hv]
  obtain ⟨e, he⟩ : ∃ e, e = openP b mW := ⟨_, rfl⟩
  rw [← he] at ho hz ⊢
  unfold ref01_ParseSuper
  repeat' (first | refine qS ?_ | refine qN ?_ | refine q_callB (ho) (fun _ => ?_) (fun _ => ?_) | refine q_call (ho) ?_ | refine qQb ?_ | refine q_cmp2 (fun _ => ?_) (fun _ => ?_))
  exact ⟨Or.inr rfl, .tup [sup0.av, .int .i64 e], by kernel_rfl, by kernel_rfl⟩
 obtain ⟨hlen, _⟩ := h0 hz
 have g8 := r_Get8 (k - 1) (by omega) t f b 4 (by omega) hb
 have q12 := r_Get4 (k - 1) (by omega) t f b 12 (by omega) hb
 have q16 := r_Get4 (k - 1) (by omega) t f b 16 (by omega) hb
 have q20 := r_Get4 (k - 1) (by omega) t f b 20 (by omega) hb
 have q24 := r_Get4 (k - 1) (by omega) t f b 24 (by omega) hb
 have hzr := r_Zeros (k - 1) (by omega) t f b 28 60 hb (by decide) (by decide)
 obtain ⟨n, hn, hnlt⟩ := getP_nat b ((4 : Nat) : Int) 8
 have hlt4 : ∀ a, g4 b a < 4294967296 := fun a => by
  have h := leN_lt ((b.drop a).take 4)
  have h2 : ((b.drop a).take 4).length ≤ 4 := by simp; omega
  have h3 : 256 ^ ((b.drop a).take 4).length ≤ 256 ^ 4 := Nat.pow_le_pow_right (by decide) h2
  unfold g4
  have h4 : (256 : Nat) ^ 4 = 4294967296 := rfl
  omega
 have hsup := r_Super (k - 1) (by omega) ⟨n, g4 b 12, g4 b 16, g4 b 20, g4 b 24⟩ ⟨hnlt, by have := hlt4 12; simp only; omega, by have := hlt4 16; simp only; omega, by have := hlt4 20; simp only; omega, by have := hlt4 24; simp only; omega⟩
 obtain ⟨c12, e12⟩ : ∃ c, c = g4 b 12 := ⟨_, rfl⟩
 obtain ⟨c16, e16⟩ : ∃ c, c = g4 b 16 := ⟨_, rfl⟩
 obtain ⟨c20, e20⟩ : ∃ c, c = g4 b 20 := ⟨_, rfl⟩
 obtain ⟨c24, e24⟩ : ∃ c, c = g4 b 24 := ⟨_, rfl⟩
 rw [← e12, ← e16, ← e20, ← e24] at hsup
 rw [← e12] at q12
 rw [← e16] at q16
 rw [← e20] at q20
 rw [← e24] at q24
 rw [hn] at g8
 obtain ⟨r, hr⟩ : ∃ r, r = decide (Sup.ok ⟨n, c12, c16, c20, c24⟩) := ⟨_, rfl⟩
 obtain ⟨o, ho1⟩ : ∃ o, o = decide ((getP b ((4 : Nat) : Int) 8).2 = 0) := ⟨_, rfl⟩
 obtain ⟨z, hz4⟩ : ∃ z, z = zerosP b 28 60 := ⟨_, rfl⟩
 rw [parseSup_val hz hn e12 e16 e20 e24 ho1 hz4 hr]
 rw [hz] at ho
 rw [← ho1] at g8
 rw [← hr] at hsup
 rw [← hz4] at hzr
 unfold Sup.av at hsup
 simp only at hsup
 clear hz hr ho1 hz4 e12 e16 e20 e24 hn h0 hn0 hlt4
 unfold ref01_ParseSuper
 repeat' (first
  | refine qS ?_ | refine qN ?_ | refine q_call g8 ?_ | refine q_callB (ho) (fun _ => ?_) (fun _ => ?_) | refine q_call (ho) ?_ | refine q_callB (q12) (fun _ => ?_) (fun _ => ?_)
  | refine q_call (q12) ?_ | refine q_callB (q16) (fun _ => ?_) (fun _ => ?_) | refine q_call (q16) ?_ | refine q_callB (q20) (fun _ => ?_) (fun _ => ?_) | refine q_call (q20) ?_
  | refine q_callB (q24) (fun _ => ?_) (fun _ => ?_) | refine q_call (q24) ?_ | refine qQb ?_ | refine q_cmp2 (fun _ => ?_) (fun _ => ?_))
 refine wo_cut [(0, .islc t f 1 (BL b)), (2, .ptr 0 1 1 5 0 0), (7, .ptr 1 1 1 5 0 0), (29, .bool o)] [(0, ⟨1, false, .row 5 [sup0.av]⟩), (1, ⟨1, false, .row 5 [Sup.av ⟨n, c12, c16, c20, c24⟩]⟩)] ⟨by kernel_rfl, by kernel_rfl, by kernel_rfl, by kernel_rfl, trivial⟩ ⟨by kernel_rfl, by kernel_rfl, trivial⟩ (fun T H hT hH => ?_)
 obtain ⟨h0, h1, -⟩ := hH
 simp only [over]
 clear hT
 cases o with
 | false =>
  repeat' (first
   | refine qS ?_ | refine qN ?_ | refine q_storeR ?_ (hr := by exact h0) | refine q_callB (hsup) (fun _ => ?_) (fun _ => ?_) | refine q_call (hsup) ?_
   | refine q_callB (hzr) (fun _ => ?_) (fun _ => ?_) | refine q_call (hzr) ?_ | refine qQb ?_ | refine q_cmp2 (fun _ => ?_) (fun _ => ?_))
  exact ⟨Or.inr rfl, .tup [sup0.av, .int .i64 1], by kernel_rfl, by kernel_rfl⟩
 | true =>
  cases r with
  | false =>
   repeat' (first
    | refine qS ?_ | refine qN ?_ | refine q_call hsup ?_ | refine q_call hzr ?_ | refine q_loadR (v := Sup.av ⟨n, c12, c16, c20, c24⟩) ?_ (hr := by exact h1) (hv := by kernel_rfl)
    | refine q_storeR ?_ (hr := by exact h0) | refine qQb ?_ | refine q_cmp2 (fun _ => ?_) (fun _ => ?_))
   exact ⟨Or.inr rfl, .tup [sup0.av, .int .i64 1], by kernel_rfl, by kernel_rfl⟩
  | true =>
   cases z with
   | false =>
    repeat' (first
     | refine qS ?_ | refine qN ?_ | refine q_call hsup ?_ | refine q_call hzr ?_ | refine q_loadR (v := Sup.av ⟨n, c12, c16, c20, c24⟩) ?_ (hr := by exact h1) (hv := by kernel_rfl)
     | refine q_storeR ?_ (hr := by exact h0) | refine qQb ?_ | refine q_cmp2 (fun _ => ?_) (fun _ => ?_))
    exact ⟨Or.inr rfl, .tup [sup0.av, .int .i64 1], by kernel_rfl, by kernel_rfl⟩
   | true =>
    repeat' (first
     | refine qS ?_ | refine qN ?_ | refine q_call hsup ?_ | refine q_call hzr ?_ | refine q_loadR (v := Sup.av ⟨n, c12, c16, c20, c24⟩) ?_ (hr := by exact h1) (hv := by kernel_rfl)
     | refine q_storeR ?_ (hr := by exact h0) | refine qQb ?_ | refine q_cmp2 (fun _ => ?_) (fun _ => ?_))
    exact ⟨Or.inr rfl, .tup [Sup.av ⟨n, c12, c16, c20, c24⟩, .int .i64 0], by kernel_rfl, by kernel_rfl⟩
theorem r_Node (k : Nat) (hk : 100 ≤ k) (n : Nod) (hn : n.ptr.length = 8) : FnV (CF k) n_ref01_Node [n.av] (.bool (decide n.ok)) := by
 obtain ⟨v, l⟩ := n
 simp only at hn
 have hin := r_In (k - 1) (by omega) v 0 2
 have hlk := fun n => r_link (k - 1) (by omega) n 4096 (by decide)
 have hav : Nod.av ⟨v, l⟩ = .agg (.int .i64 v :: l.map fun n : Nat => AV.int .i64 n) := rfl
 have hcl : ((AV.int .i64 v :: l.map fun n : Nat => AV.int .i64 n) : List AV).length = 9 := by simp [hn]
 rw [hav]
 refine fnk (by omega) B_ref01_Node rfl ?_
 unfold ref01_Node
 have hbox : ∀ H : Heap, H.newRow 0 ((AV.agg (.int .i64 v :: l.map fun n : Nat => AV.int .i64 n)).cells.length) [AV.agg (.int .i64 v :: l.map fun n : Nat => AV.int .i64 n)] = H.upd 0 ⟨(H 0).gen + 1, false, .row 9 [AV.agg (.int .i64 v :: l.map fun n : Nat => AV.int .i64 n)]⟩ := fun H => by
  unfold Heap.newRow; rw [show (AV.agg (.int .i64 v :: l.map fun n : Nat => AV.int .i64 n)).cells.length = 9 from hcl]
 by_cases hv : v ≤ 2
 rotate_left 1
 ·rw [decide_eq_false (fun h : Nod.ok ⟨v, l⟩ => hv h.2.1)]
  rw [inR_f.2 (by omega)] at hin
  repeat' (first | refine qS ?_ | refine qN ?_ | refine q_call hin ?_ | refine wo_loadR (.int .i64 v) rfl rfl rfl rfl (Nat.succ_le_succ (Nat.zero_le _)) rfl rfl rfl ?_ | refine qQb ?_ | refine q_cmp2 (fun _ => ?_) (fun _ => ?_))
  exact ⟨Or.inr rfl, .bool false, by kernel_rfl, by kernel_rfl⟩
 rw [inR_iff.2 (by omega)] at hin
 have hok : decide (Nod.ok ⟨v, l⟩) = ((l.all fun p => linkP p 4096) && (l.any fun p => decide (p ≠ 0))) := by
  rw [Bool.eq_iff_iff, decide_eq_true_eq, Bool.and_eq_true]
  unfold Nod.ok linkP ptrOk
  exact ⟨fun h => ⟨h.1, h.2.2⟩, fun h => ⟨h.1, hv, h.2⟩⟩
 rw [hok]
 repeat' (first | refine qS ?_ | refine qN ?_ | refine q_call hin ?_ | refine wo_loadR (.int .i64 v) rfl rfl rfl rfl (Nat.succ_le_succ (Nat.zero_le _)) rfl rfl rfl ?_ | refine qQb ?_ | refine q_cmp2 (fun _ => ?_) (fun _ => ?_))
 refine w_cut (hs := [(0, ⟨1, false, .row 9 [.agg (.int .i64 v :: l.map fun n : Nat => AV.int .i64 n)]⟩)]) [(1, .ptr 0 1 1 9 0 0), (3, .bool false), (4, .int .i64 0)] ⟨?_, by kernel_rfl, by kernel_rfl, trivial⟩ ⟨?_, trivial⟩ (fun T H hT hH => ?_)
 ·show AV.ptr _ _ _ ((AV.int .i64 v :: l.map fun n : Nat => AV.int .i64 n) : List AV).length _ _ = _
  rw [hcl]; rfl
 ·show (⟨1, false, .row ((AV.int .i64 v :: l.map fun n : Nat => AV.int .i64 n) : List AV).length [.agg (.int .i64 v :: l.map fun n : Nat => AV.int .i64 n)]⟩ : Blk) = _
  rw [hcl]
 obtain ⟨h0, -⟩ := hH
 simp only [over]
 refine W.mono (Q := fun ex T' H' => (ex = .ret ∧ (l.all fun p => linkP p 4096) = false ∧ T' 2 = .bool false) ∨
   (ex = .exit 0 ∧ (l.all fun p => linkP p 4096) = true ∧ T' 3 = .bool (l.any fun p => decide (p ≠ 0)))) ?_ ?_
 ·refine w_for 8 (fun i T' H' => (l.all fun p => linkP p 4096) = ((l.drop i).all fun p => linkP p 4096) ∧ H' 0 = ⟨1, false, .row 9 [.agg (.int .i64 v :: l.map fun n : Nat => AV.int .i64 n)]⟩ ∧
    Has T' [(1, .ptr 0 1 1 9 0 0), (3, .bool ((l.take i).any fun p => decide (p ≠ 0))), (4, .int .i64 (i : Nat))]) ⟨by simp, h0, rfl, rfl, rfl, trivial⟩ (by omega) ?_
  clear h0 hT
  rintro i T H hi ⟨hgo, hH, hT⟩
  rw [hT.eq]
  simp only [over]
  by_cases hil : i < 8
  ·have hil2 : i < l.length := by omega
   rw [List.drop_eq_getElem_cons hil2, List.all_cons] at hgo
   have hg : l.getD i default = l[i] := by simp [hil2]
   have htk : ((l.take (i + 1)).any fun p => decide (p ≠ 0)) = (((l.take i).any fun p => decide (p ≠ 0)) || decide (l[i] ≠ 0)) := by
    rw [List.take_succ_eq_append_getElem hil2, List.any_append]; simp only [List.any_cons, List.any_nil, Bool.or_false]
   have hp := hlk (l.getD i default)
   rw [hg] at hp
   have hix : (i : Int).toNat * 1 = i := by omega
   cases hlp : linkP l[i] 4096 with
   | false =>
    rw [hlp] at hp hgo
    repeat' (first
     | refine qS ?_ | refine qN ?_ | refine q_call hp ?_ | refine wo_iaddrA rfl rfl (by omega) (by omega) rfl rfl ?_
     | refine wo_loadNL (i := i) rfl (by omega) hil2 (by exact hH) rfl rfl ?_ | (rw [hg]) | refine qQb ?_ | refine q_cmp2 (fun _ => ?_) (fun _ => ?_))
    exact .inl ⟨rfl, by rw [hgo]; rfl, rfl⟩
   | true =>
    rw [hlp, Bool.true_and] at hgo
    rw [hlp] at hp
    cases ha : (l.take i).any fun p => decide (p ≠ 0) with
    | true =>
     rw [ha, Bool.true_or] at htk
     repeat' (first
      | refine qS ?_ | refine qN ?_ | refine q_call hp ?_ | refine wo_iaddrA rfl rfl (by omega) (by omega) rfl rfl ?_
      | refine wo_loadNL (i := i) rfl (by omega) hil2 (by exact hH) rfl rfl ?_ | (rw [hg]) | refine qQb ?_ | refine q_cmp2 (fun _ => ?_) (fun _ => ?_))
     exact ⟨hil, hgo, hH, rfl, by rw [htk]; rfl, by show AV.int _ _ = AV.int _ _; congr 1, trivial⟩
    | false =>
     rw [ha, Bool.false_or] at htk
     by_cases hz : l[i] = 0
     ·have hz' : ((l[i] : Nat) : Int) = 0 := by omega
      repeat' (first
       | refine qS ?_ | refine qN ?_ | refine q_call hp ?_ | refine wo_iaddrA rfl rfl (by omega) (by omega) rfl rfl ?_
       | refine wo_loadNL (i := i) rfl (by omega) hil2 (by exact hH) rfl rfl ?_ | (rw [hg]) | refine qQb ?_ | refine q_cmp2 (fun _ => ?_) (fun _ => ?_))
      exact ⟨hil, hgo, hH, rfl, by rw [htk, decide_eq_false (fun h => h hz)]; rfl, by show AV.int _ _ = AV.int _ _; congr 1, trivial⟩
     ·have hz' : ((l[i] : Nat) : Int) ≠ 0 := by omega
      repeat' (first
       | refine qS ?_ | refine qN ?_ | refine q_call hp ?_ | refine wo_iaddrA rfl rfl (by omega) (by omega) rfl rfl ?_
       | refine wo_loadNL (i := i) rfl (by omega) hil2 (by exact hH) rfl rfl ?_ | (rw [hg]) | refine qQb ?_ | refine q_cmp2 (fun _ => ?_) (fun _ => ?_))
      exact ⟨hil, hgo, hH, rfl, by rw [htk, decide_eq_true hz]; rfl, by show AV.int _ _ = AV.int _ _; congr 1, trivial⟩
  ·have hi8 : i = 8 := by omega
   repeat' (first | refine qS ?_ | refine qN ?_ | refine qQb ?_ | refine q_cmp2 (fun _ => ?_) (fun _ => ?_))
   refine .inr ⟨rfl, ?_, ?_⟩
   ·rw [hgo, List.drop_of_length_le (by omega)]; rfl
   ·show AV.bool _ = AV.bool _
    rw [List.take_of_length_le (by omega)]
 rintro ex T2 H2 (⟨rfl, ha, h2⟩ | ⟨rfl, ha, h3⟩)
 ·refine ⟨Or.inr rfl, _, rfl, ?_⟩
  show fz true 6 H2 (T2 2) = _
  rw [h2, ha]
  rfl
 ·rw [Has.eq (T := T2) (ps := [(3, _)]) ⟨h3, trivial⟩]
  simp only [over]
  show W _ _
  rw [ha, Bool.true_and]
  repeat' (first | refine qS ?_ | refine qN ?_ | refine qQb ?_ | refine q_cmp2 (fun _ => ?_) (fun _ => ?_))
  exact ⟨Or.inr rfl, _, rfl, rfl⟩
def ptrsI (b : List UInt8) (i : Nat) : List Nat := (List.range 8).map fun j => if j < i then g4 b (8 + 4 * j) else 0
theorem ptrsI_len (b : List UInt8) (i : Nat) : (ptrsI b i).length = 8 := by simp [ptrsI]
theorem ptrsI_set (b : List UInt8) (i : Nat) (hi : i < 8) : (ptrsI b i).set i (g4 b (8 + 4 * i)) = ptrsI b (i + 1) := by
 rcases (by omega : i = 0 ∨ i = 1 ∨ i = 2 ∨ i = 3 ∨ i = 4 ∨ i = 5 ∨ i = 6 ∨ i = 7) with rfl | rfl | rfl | rfl | rfl | rfl | rfl | rfl
 all_goals rfl
theorem ptrsI_8 (b : List UInt8) : ptrsI b 8 = ptrs8 b := by
 unfold ptrsI ptrs8
 apply List.map_congr_left
 intro j hj
 rw [if_pos (List.mem_range.1 hj)]
theorem r_ParseNode (k : Nat) (hk : 1000050 ≤ k) (t f : Bool) (b : List UInt8) (hb : b.length < 1000000) : FnV (CF k) n_ref01_ParseNode [.islc t f 1 (BL b)] (.tup [(parseNod b).1.av, .int .i64 (parseNod b).2]) := by
 have ho := r_open (k - 1) (by omega) t f b mN hb
 obtain ⟨hn0, h0⟩ := readP_open (b := b) (m := mN) (ss := sN)
 refine fnk (by omega) B_ref01_ParseNode rfl ?_
 by_cases hz : openP b mN = 0
 rotate_left 1
 ·have hv : parseNod b = (nod0, openP b mN) := by
   unfold parseNod
   rw [hn0 hz]
   simp only
   rw [if_pos hz]
  rw [hv]
  obtain ⟨e, he⟩ : ∃ e, e = openP b mN := ⟨_, rfl⟩
  rw [← he] at ho hz ⊢
  unfold ref01_ParseNode
  repeat' (first | refine qS ?_ | refine qN ?_ | refine q_callB (ho) (fun _ => ?_) (fun _ => ?_) | refine q_call (ho) ?_ | refine qQb ?_ | refine q_cmp2 (fun _ => ?_) (fun _ => ?_))
  exact ⟨Or.inr rfl, .tup [nod0.av, .int .i64 e], by kernel_rfl, by kernel_rfl⟩
 obtain ⟨hlen, _⟩ := h0 hz
 have q4 := r_Get4 (k - 1) (by omega) t f b 4 (by omega) hb
 have hzr := r_Zeros (k - 1) (by omega) t f b 40 60 hb (by decide) (by decide)
 obtain ⟨v, ev⟩ : ∃ c, c = g4 b 4 := ⟨_, rfl⟩
 rw [← ev] at q4
 have hnod := r_Node (k - 1) (by omega) ⟨v, ptrs8 b⟩ (by simp [ptrs8])
 obtain ⟨r, hr⟩ : ∃ r, r = decide (Nod.ok ⟨v, ptrs8 b⟩) := ⟨_, rfl⟩
 obtain ⟨z, hz4⟩ : ∃ z, z = zerosP b 40 60 := ⟨_, rfl⟩
 rw [parseNod_val hz ev hz4 hr]
 rw [hz] at ho
 rw [← hr] at hnod
 rw [← hz4] at hzr
 have hav : Nod.av ⟨v, ptrs8 b⟩ = .agg (.int .i64 v :: (ptrs8 b).map fun n : Nat => AV.int .i64 n) := rfl
 rw [hav] at hnod
 clear hz hr hz4 ev h0 hn0
 unfold ref01_ParseNode
 repeat' (first
  | refine qS ?_ | refine qN ?_ | refine q_callB (ho) (fun _ => ?_) (fun _ => ?_) | refine q_call (ho) ?_ | refine q_callB (q4) (fun _ => ?_) (fun _ => ?_) | refine q_call (q4) ?_
  | refine qQb ?_ | refine q_cmp2 (fun _ => ?_) (fun _ => ?_))
 refine w_cut [(0, .islc t f 1 (BL b)), (2, .ptr 0 1 1 9 0 0), (5, .ptr 1 1 1 9 0 0), (6, .int .i64 0)] [(0, ⟨1, false, .row 9 [nod0.av]⟩), (1, ⟨1, false, .row 9 [.agg (.int .i64 v :: (ptrsI b 0).map fun n : Nat => AV.int .i64 n)]⟩)] ⟨by kernel_rfl, by kernel_rfl, by kernel_rfl, by kernel_rfl, trivial⟩ ⟨by kernel_rfl, by kernel_rfl, trivial⟩ (fun T H hT hH => ?_)
 obtain ⟨h0, h1, -⟩ := hH
 simp only [over]
 clear hT
 refine W.mono (Q := fun ex T' H' => ex = .exit 0 ∧ H' 0 = ⟨1, false, .row 9 [nod0.av]⟩ ∧ H' 1 = ⟨1, false, .row 9 [.agg (.int .i64 v :: (ptrs8 b).map fun n : Nat => AV.int .i64 n)]⟩ ∧ Has T' [(0, .islc t f 1 (BL b)), (2, .ptr 0 1 1 9 0 0), (5, .ptr 1 1 1 9 0 0)]) ?_ ?_
 ·refine w_for 8 (fun i T' H' => H' 0 = ⟨1, false, .row 9 [nod0.av]⟩ ∧ H' 1 = ⟨1, false, .row 9 [.agg (.int .i64 v :: (ptrsI b i).map fun n : Nat => AV.int .i64 n)]⟩ ∧
    Has T' [(0, .islc t f 1 (BL b)), (2, .ptr 0 1 1 9 0 0), (5, .ptr 1 1 1 9 0 0), (6, .int .i64 (i : Nat))]) ⟨h0, h1, rfl, rfl, rfl, rfl, trivial⟩ (by omega) ?_
  clear h0 h1 T H
  rintro i T H hi ⟨h0, h1, hT⟩
  rw [hT.eq]
  simp only [over]
  by_cases hil : i < 8
  ·have qi := r_Get4 (k - 1) (by omega) t f b (8 + 4 * i) (by omega) hb
   have e : (((8 + 4 * i : Nat)) : Int) = 8 + 4 * (i : Int) := by omega
   rw [e] at qi
   repeat' (first
    | refine qS ?_ | refine qN ?_ | refine q_call qi ?_ | refine wo_iaddrA rfl rfl (by omega) (by omega) rfl rfl ?_
    | refine wo_storeNL (ps := ptrsI b i) (i := i) (m := g4 b (8 + 4 * i)) rfl (by omega) (by rw [ptrsI_len]; exact hil) (by exact h1) rfl rfl rfl ?_ | refine qQb ?_
    | refine q_cmp2 (fun _ => ?_) (fun _ => ?_))
   refine ⟨hil, h0, ?_, rfl, rfl, rfl, by show AV.int _ _ = AV.int _ _; congr 1, trivial⟩
   rw [← ptrsI_set b i hil]; rfl
  ·have hi8 : i = 8 := by omega
   subst hi8
   rw [ptrsI_8] at h1
   repeat' (first | refine qS ?_ | refine qN ?_ | refine qQb ?_ | refine q_cmp2 (fun _ => ?_) (fun _ => ?_))
   exact ⟨rfl, h0, h1, rfl, rfl, rfl, trivial⟩
 clear h0 h1 T H
 rintro ex T H ⟨rfl, h0, h1, hT⟩
 rw [hT.eq]
 simp only [over]
 show W _ _
 have hld : AV.agg (((AV.agg (.int .i64 v :: (ptrs8 b).map fun n : Nat => AV.int .i64 n)).cells.drop 0).take 9) = .agg (.int .i64 v :: (ptrs8 b).map fun n : Nat => AV.int .i64 n) := by kernel_rfl
 cases r with
 | false =>
  repeat' (first
   | refine qS ?_ | refine qN ?_ | refine q_call hnod ?_ | refine q_call hzr ?_
   | refine wo_loadR (.agg (.int .i64 v :: (ptrs8 b).map fun n : Nat => AV.int .i64 n)) rfl (by exact h1) rfl rfl (by exact Nat.le_of_ble_eq_true rfl) hld rfl rfl ?_
   | refine q_storeR ?_ (hr := by exact h0) | refine qQb ?_ | refine q_cmp2 (fun _ => ?_) (fun _ => ?_))
  exact ⟨Or.inr rfl, .tup [nod0.av, .int .i64 1], by kernel_rfl, by kernel_rfl⟩
 | true =>
  cases z with
  | false =>
   repeat' (first
    | refine qS ?_ | refine qN ?_ | refine q_call hnod ?_ | refine q_call hzr ?_
    | refine wo_loadR (.agg (.int .i64 v :: (ptrs8 b).map fun n : Nat => AV.int .i64 n)) rfl (by exact h1) rfl rfl (by exact Nat.le_of_ble_eq_true rfl) hld rfl rfl ?_
    | refine q_storeR ?_ (hr := by exact h0) | refine qQb ?_ | refine q_cmp2 (fun _ => ?_) (fun _ => ?_))
   exact ⟨Or.inr rfl, .tup [nod0.av, .int .i64 1], by kernel_rfl, by kernel_rfl⟩
  | true =>
   repeat' (first
    | refine qS ?_ | refine qN ?_ | refine q_call hnod ?_ | refine q_call hzr ?_
    | refine wo_loadR (.agg (.int .i64 v :: (ptrs8 b).map fun n : Nat => AV.int .i64 n)) rfl (by exact h1) rfl rfl (by exact Nat.le_of_ble_eq_true rfl) hld rfl rfl ?_
    | refine q_storeR ?_ (hr := by exact h0) | refine qQb ?_ | refine q_cmp2 (fun _ => ?_) (fun _ => ?_))
   exact ⟨Or.inr rfl, .tup [.agg (.int .i64 v :: (ptrs8 b).map fun n : Nat => AV.int .i64 n), .int .i64 0], by kernel_rfl, by kernel_rfl⟩
end Go.Proofs.YtkaiiopoilpjeaaGreat

