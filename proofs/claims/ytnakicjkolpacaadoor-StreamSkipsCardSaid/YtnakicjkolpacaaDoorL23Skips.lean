/- woodcutlaw23: StreamSkips, by the interpreter. -/
import Derived.Test.YtnakicjkolpacaaDoorS36
import Derived.Test.YtnakicjkolpacaaDoorL23Back
set_option linter.unusedSimpArgs false
set_option linter.unusedVariables false
set_option maxRecDepth 10000
set_option maxHeartbeats 16000000
namespace Go.Proofs.YtnakicjkolpacaaDoor
open Go.AI

def rsz (n : Int) : Cmd := ⟨5, 0, 0, n, 0, 0, 0, 0, []⟩
def beg39 : Cmd := ⟨1, 3, 0, 9, 0, 0, 0, 0, []⟩
def rszs (n : Nat) : List Cmd := (List.range n).map fun (i : Nat) => rsz i
theorem rszs_len (n : Nat) : (rszs n).length = n := by simp [rszs]
theorem rszs_succ (n : Nat) : rszs (n + 1) = rszs n ++ [rsz n] := by simp [rszs, List.range_succ]
theorem rsz_chk {n : Int} (h : 0 ≤ n ∧ n ≤ 512) : chkP (rsz n) ∧ content (rsz n) := by
  refine ⟨?_, ⟨show (2 : Int) ≤ 5 by decide, show (5 : Int) ≤ 5 by decide⟩⟩
  unfold chkP bareP rsz
  simp only [show ¬ ((5 : Int) = 1) by decide, show ¬ ((5 : Int) = 2) by decide, show ¬ ((5 : Int) = 3) by decide, show ¬ ((5 : Int) = 4) by decide, if_false, if_true]
  simp [inR_iff, h.1, h.2]
theorem beg_chk {n : Int} (h : 0 ≤ n ∧ n ≤ 65535) : chkP { beg39 with count := n } := chk_count (by decide) rfl h
theorem rszs_mem {n : Nat} (hn : n ≤ 512) {c : Cmd} (h : c ∈ rszs n) : chkP c ∧ content c ∧ c.data = [] ∧ (payB c).length = 4 := by
  obtain ⟨i, hi, rfl⟩ := List.mem_map.1 h
  have := List.mem_range.1 hi
  exact ⟨(rsz_chk (by omega)).1, (rsz_chk (by omega)).2, rfl, by simp [payB, rsz]⟩
def endS (n : Nat) : Cmd := ⟨6, 0, 0, 0, 0, n, 0, sumC 0 (rszs n), []⟩
theorem endS_chk {n : Nat} (hn : n ≤ 512) : chkP (endS n) := by
  have h := sumC_range (rszs n) (s := 0) (by decide)
  unfold chkP bareP endS
  simp only [show ¬ ((6 : Int) = 1) by decide, show ¬ ((6 : Int) = 2) by decide, show ¬ ((6 : Int) = 3) by decide, show ¬ ((6 : Int) = 4) by decide, show ¬ ((6 : Int) = 5) by decide, if_false, if_true]
  simp only [Bool.and_eq_true, inR_iff, List.length_nil, and_true, true_and]
  omega
def skipsL (n : Nat) : List Cmd := beg39 :: (rszs n ++ [endS n])
theorem skipsL_len (n : Nat) : (skipsL n).length = n + 2 := by simp [skipsL, rszs_len]
theorem skipsL_chk {n : Nat} (hn : n ≤ 512) : ∀ c ∈ skipsL n, chkP c ∧ c.data = [] := by
  intro c hc
  simp only [skipsL, List.mem_cons, List.mem_append, List.not_mem_nil, or_false] at hc
  rcases hc with rfl | hc | rfl
  · exact ⟨by decide, rfl⟩
  · exact ⟨(rszs_mem hn hc).1, (rszs_mem hn hc).2.2.1⟩
  · exact ⟨endS_chk hn, rfl⟩
theorem skipsL_whole {n : Nat} (hn : n ≤ 512) : wholeP (skipsL n) := by
  have hl := skipsL_len n
  have hlast : (skipsL n).getD ((skipsL n).length - 1) cz = endS n := by
    rw [hl, show n + 2 - 1 = n + 1 by omega]
    simp only [skipsL, List.getD, List.getElem?_cons_succ]
    rw [List.getElem?_append_right (by simp [rszs_len]), rszs_len]
    simp
  have hmids : midsL (skipsL n) = rszs n := by
    unfold midsL
    rw [hl, show n + 2 - 2 = n by omega]
    simp only [skipsL, List.drop_succ_cons, List.drop_zero]
    rw [List.take_append_of_le_length (by rw [rszs_len]; exact Nat.le_refl _), List.take_of_length_le (by rw [rszs_len]; exact Nat.le_refl _)]
  refine ⟨by omega, ⟨rfl, rfl, by rw [hlast]; rfl, by rw [hlast, hl]; show (n : Int) = _; omega⟩, ?_, fun c hc => (skipsL_chk hn c hc).1, ?_⟩
  · rw [hmids, List.all_eq_true]
    exact fun c hc => contentB_iff.2 (rszs_mem hn hc).2.1
  · rw [hlast]
    show sumC 0 (rszs n) = sumC 0 (rszs n ++ [endS n])
    unfold sumC
    rw [List.foldl_append]
    rfl
theorem skips_body {n : Nat} (hn : n ≤ 512) : ∀ (m i : Nat), m ≤ n → (bodyB i ((rszs n).drop (n - m) ++ [endS n])).length = 24 * m + 28
  | 0, i, _ => by
    rw [List.drop_of_length_le (by rw [rszs_len]; omega)]
    simp [bodyB, frB_length, payB, endS]
  | m + 1, i, hm => by
    have hlt : n - (m + 1) < (rszs n).length := by rw [rszs_len]; omega
    rw [List.drop_eq_getElem_cons hlt, show n - (m + 1) + 1 = n - m by omega]
    have ih := skips_body hn m (i + 1) (by omega)
    have h4 := (rszs_mem hn (List.getElem_mem hlt)).2.2.2
    simp only [List.cons_append, bodyB, List.length_append, frB_length, h4, ih]
    omega
theorem skips_len {n s : Nat} (hn : n ≤ 512) (hs : s ≤ n) : (bytesS (skipsL n) (s : Nat)).length = 44 + 24 * (n - s) + 28 ∧ bytesS (skipsL n) (s : Nat) = frB 0 { beg39 with count := (s : Nat) } ++ bodyB (s + 1) ((rszs n).drop s ++ [endS n]) ∧ (frB 0 { beg39 with count := (s : Nat) }).length = 44 := by
  have h1 : (frB 0 { beg39 with count := (s : Nat) }).length = 44 := by simp [frB_length, payB, beg39]
  have h2 : bytesS (skipsL n) (s : Nat) = frB 0 { beg39 with count := (s : Nat) } ++ bodyB (s + 1) ((rszs n).drop s ++ [endS n]) := by
    unfold bytesS
    rw [Int.toNat_natCast]
    simp only [skipsL, List.drop_succ_cons]
    rw [List.drop_append_of_le_length (by rw [rszs_len]; exact hs)]
    rfl
  refine ⟨?_, h2, h1⟩
  have h3 := skips_body hn (n - s) (s + 1) (by omega)
  rw [show n - (n - s) = s by omega] at h3
  rw [h2, List.length_append, h1, h3]
  omega
theorem skips_suffix {n s m : Nat} (hn : n ≤ 512) (hs : s ≤ m) (hm : m ≤ n) : (bytesS (skipsL n) (s : Nat)).drop ((bytesS (skipsL n) (s : Nat)).length - ((bytesS (skipsL n) (m : Nat)).drop 44).length) = (bytesS (skipsL n) (m : Nat)).drop 44 := by
  obtain ⟨a1, a2, a3⟩ := skips_len (s := s) hn (by omega)
  obtain ⟨b1, b2, b3⟩ := skips_len (s := m) hn hm
  have e1 : (bytesS (skipsL n) (m : Nat)).drop 44 = bodyB (m + 1) ((rszs n).drop m ++ [endS n]) := by
    rw [b2, ← b3, List.drop_left]
  have hsp : (rszs n).drop s = ((rszs n).drop s).take (m - s) ++ (rszs n).drop m := by
    have : (rszs n).drop m = ((rszs n).drop s).drop (m - s) := by rw [List.drop_drop]; congr 1; omega
    rw [this, List.take_append_drop]
  have e2 : bytesS (skipsL n) (s : Nat) = (frB 0 { beg39 with count := (s : Nat) } ++ bodyB (s + 1) (((rszs n).drop s).take (m - s))) ++ bodyB (m + 1) ((rszs n).drop m ++ [endS n]) := by
    have hsp2 : (rszs n).drop s ++ [endS n] = ((rszs n).drop s).take (m - s) ++ ((rszs n).drop m ++ [endS n]) := by rw [← List.append_assoc, ← hsp]
    rw [a2, hsp2, bodyB_append]
    rw [show s + 1 + (((rszs n).drop s).take (m - s)).length = m + 1 by rw [List.length_take, List.length_drop, rszs_len]; omega]
    simp only [List.append_assoc]
  rw [e1, e2, List.length_append, Nat.add_sub_cancel, List.drop_left]

theorem endS_eq (n : Nat) (hn : n ≤ 512) : (⟨6, 0, 0, 0, 0, ((beg39 :: rszs n).length : Int) - 1, 0, sumA 0 ((beg39 :: rszs n).drop 1), []⟩ : Cmd) = endS n := by
  have h1 : ((beg39 :: rszs n).length : Int) - 1 = n := by rw [List.length_cons, rszs_len]; omega
  have h2 : sumA 0 ((beg39 :: rszs n).drop 1) = sumC 0 (rszs n) := sumA_content _ _ fun c hc => (rszs_mem hn hc).2.1
  rw [h1, h2]
  rfl

theorem crcSum0 {xf : ExtF} : isZ (acall B xf cloneF 1000028 n_crc_Sum 0 [.islc false true 0 []] Heap.none) = true := by kernel_rfl

attribute [local irreducible] aops aexec acall aiter aop W WO

variable {xf : ExtF}

theorem law_StreamSkips (n a b : Int) : ∃ H, acall B xf cloneF 1000030 n_law23_StreamSkips 0 [.int .i64 n, .int .i64 a, .int .i64 b] Heap.none = some (.bool true, H) := by
  suffices h : FnV (acall B xf cloneF 1000030) n_law23_StreamSkips [.int .i64 n, .int .i64 a, .int .i64 b] (.bool true) by
    obtain ⟨u, H, h1, h2⟩ := h
    refine ⟨H, ?_⟩
    rw [h1, fz_true h2]
  have hw := e_wakes (xf := xf)
  obtain ⟨N, hN⟩ : ∃ N : Int, N = n % 18446744073709551616 % 20 := ⟨_, rfl⟩
  have hN0 : 0 ≤ N ∧ N ≤ 19 := by omega
  obtain ⟨A, hA⟩ : ∃ A : Int, A = a % 18446744073709551616 % (N + 1) := ⟨_, rfl⟩
  have hA0 : 0 ≤ A ∧ A < N + 1 := by rw [hA]; exact ⟨Int.emod_nonneg _ (by omega), Int.emod_lt_of_pos _ (by omega)⟩
  obtain ⟨C, hC⟩ : ∃ C : Int, C = b % 18446744073709551616 % (N + 1) := ⟨_, rfl⟩
  have hC0 : 0 ≤ C ∧ C < N + 1 := by rw [hC]; exact ⟨Int.emod_nonneg _ (by omega), Int.emod_lt_of_pos _ (by omega)⟩
  obtain ⟨k, hk⟩ : ∃ k : Nat, k = N.toNat := ⟨_, rfl⟩
  have hkN : (k : Int) = N := by omega
  have hk5 : k ≤ 512 := by omega
  obtain ⟨sm, hsm⟩ : ∃ s : Nat, s = (min A C).toNat := ⟨_, rfl⟩
  obtain ⟨sx, hsx⟩ : ∃ s : Nat, s = (max A C).toNat := ⟨_, rfl⟩
  have hsm2 : ((sm : Nat) : Int) = min A C := by omega
  have hsx2 : ((sx : Nat) : Int) = max A C := by omega
  -- the commands
  have hL := skipsL_len k
  have hwh := skipsL_whole hk5
  have hesL : CsR ((skipsL k).map (Cmd.av false true 0)) (skipsL k) := csR_nd fun c hc => (skipsL_chk hk5 c hc).2
  have hsmL : smallC (skipsL k) := smallC_of fun c hc => (skipsL_chk hk5 c hc).1
  have hB := fun s => e_stream_Bytes (xf := xf) (gf := cloneF) 1000019 (by omega) true false ((skipsL k).map (Cmd.av false true 0)) (skipsL k) s (by omega) hesL hsmL
  have hB1 := hB (min A C)
  have hB2 := hB (max A C)
  have hB3 := hB (N + 1)
  have hB4 := hB (-1)
  rw [if_pos ⟨hwh, by omega, by omega⟩] at hB1 hB2
  rw [if_neg (by rintro ⟨_, _, h⟩; omega)] at hB3
  rw [if_neg (by rintro ⟨_, h, _⟩; omega)] at hB4
  obtain ⟨x, hx⟩ : ∃ x, x = bytesS (skipsL k) (min A C) := ⟨_, rfl⟩
  obtain ⟨y, hy⟩ : ∃ y, y = bytesS (skipsL k) (max A C) := ⟨_, rfl⟩
  rw [← hx] at hB1
  rw [← hy] at hB2
  rw [← hsm2] at hx
  rw [← hsx2] at hy
  obtain ⟨x1, x2, x3⟩ := skips_len (n := k) (s := sm) hk5 (by omega)
  obtain ⟨y1, y2, y3⟩ := skips_len (n := k) (s := sx) hk5 (by omega)
  have hsuf := skips_suffix (n := k) (s := sm) (m := sx) hk5 (by omega) (by omega)
  rw [← hx] at x1 x2
  rw [← hy] at y1 y2
  rw [← hx, ← hy] at hsuf
  -- the frame that the second begins with
  have hbc := beg_chk (n := (sx : Nat)) (by omega)
  obtain ⟨q1, q2, q3, q4, q5, q6⟩ := parse_frB (seq := 0) hbc (by decide) (bodyB (sx + 1) ((rszs k).drop sx ++ [endS k]))
  rw [← y2] at q1 q2 q3 q4 q5 q6
  have hpar := e_frame_Parse (xf := xf) 1000023 (by omega) false false y (by omega)
  unfold parseAv at hpar
  have hcount : (rawC (pKind y) (pPay y)).count = max A C := by
    show (pCmd y).count = _
    rw [q3]
    exact hsx2
  rw [if_pos q1, q2, q4, y3] at hpar
  -- both are right
  obtain ⟨p1, hp1, _⟩ := parse_bytesS (s := sm) hwh (by omega) (by omega)
  obtain ⟨p2, hp2, _⟩ := parse_bytesS (s := sx) hwh (by omega) (by omega)
  rw [← hx] at hp1
  rw [← hy] at hp2
  have hV1 := e_stream_Verify (xf := xf) 1000021 (by omega) false false x (by omega)
  have hV2 := e_stream_Verify (xf := xf) 1000021 (by omega) false false y (by omega)
  rw [hp1] at hV1
  rw [hp2] at hV2
  have hdl : (y.drop (44 : Int).toNat).length = y.length - 44 := by simp
  have hQ := fun f1 f2 => e_keep_Bytes (xf := xf) (gf := cloneF) 1000028 (by omega) false f1 false f2 1 1 (y.drop (44 : Int).toNat) (x.drop ((x.length : Int) - ((y.drop (44 : Int).toNat).length : Nat)).toNat) (by omega) (by rw [List.length_drop]; omega) (.inl rfl) (.inl rfl)
  have hQe : y.drop (44 : Int).toNat = x.drop ((x.length : Int) - ((y.drop (44 : Int).toNat).length : Nat)).toNat := by
    have : ((x.length : Int) - ((y.drop (44 : Int).toNat).length : Nat)).toNat = x.length - (y.drop 44).length := by
      show ((x.length : Int) - ((y.drop 44).length : Nat)).toNat = _
      omega
    rw [this, hsuf]
    rfl
  rw [decide_eq_true hQe] at hQ
  -- the End
  obtain ⟨H0, hz⟩ := isZ_some (crcSum0 (xf := xf))
  have hE := e_law_End (xf := xf) (gf := cloneF) 1000023 (by omega) true false ((beg39 :: rszs k).map (Cmd.av false true 0)) (beg39 :: rszs k) (by rw [List.length_cons, rszs_len]; omega)
    (csR_nd fun c hc => by rcases List.mem_cons.1 hc with rfl | hc; rfl; exact (rszs_mem hk5 hc).2.2.1) (fun c hc => by rcases List.mem_cons.1 hc with rfl | hc; decide; exact (rszs_mem hk5 hc).1) ⟨_, H0, hz, rfl⟩
  rw [endS_eq k hk5] at hE
  have hfz : ∀ H' : Heap, H' 0 = ⟨1, false, .row 9 ((beg39 :: rszs k).map (Cmd.av false true 0) ++ [(endS k).av false true 0])⟩ → fz false 6 H' (.slc 0 1 (k + 1 + 1) 9 0 (k + 1 + 1) none) = .islc true false 9 ((skipsL k).map (Cmd.av false true 0)) := fun H' h =>
    fz_ownC h (by simp [skipsL]) (by rw [hL])
  refine fn_of B_law23_StreamSkips rfl ?_
  unfold law23_StreamSkips
  subst hN
  subst hA hC
  repeat' (first
   | refine q_s ?_ | refine q_z ?_ | refine q_b ?_ | refine q_n ?_ | refine q_nn ?_ | refine q_mv ?_ | refine q_faddr ?_ | refine q_load ?_ | refine q_loadI ?_ | refine q_loadR ?_
    | refine q_cmp ?_ | refine q_cmp2 (fun _ => ?_) (fun _ => ?_) | refine q_add ?_ | refine q_sub ?_ | refine q_mul ?_ | refine q_rem ?_ | refine q_bin ?_ | refine q_pickT ?_
    | refine q_pickF ?_ | refine q_len ?_ | refine q_lenS ?_ | refine q_len0 ?_ | refine q_ex ?_ | refine q_store ?_ | refine q_storeR ?_ | refine q_box ?_ | refine q_to64 ?_
    | refine q_tou64 ?_ | refine q_cvu ?_ | refine q_cvi ?_ | refine q_build ?_ | refine q_buildS ?_ | refine q_mn ?_ | refine q_mx ?_ | refine q_app fun _ => ?_ | refine q_slice0 ?_
    | refine q_sliceE ?_ | refine q_sliceM ?_)
  refine W.mono (Q := fun ex T' H' => ex = .exit 0 ∧ H' 0 = ⟨1, false, .row 9 ((beg39 :: rszs k).map (Cmd.av false true 0))⟩ ∧ Has T' [(0, .int .i64 (n % 18446744073709551616 % 20)), (1, .int .i64 (a % 18446744073709551616 % (n % 18446744073709551616 % 20 + 1))), (2, .int .i64 (b % 18446744073709551616 % (n % 18446744073709551616 % 20 + 1))), (7, .slc 0 1 (k + 1) 9 0 (k + 1) none)]) ?_ ?_
  · refine w_for k (fun i T' H' => H' 0 = ⟨1, false, .row 9 ((beg39 :: rszs i).map (Cmd.av false true 0))⟩ ∧ Has T' [(0, .int .i64 (n % 18446744073709551616 % 20)), (1, .int .i64 (a % 18446744073709551616 % (n % 18446744073709551616 % 20 + 1))), (2, .int .i64 (b % 18446744073709551616 % (n % 18446744073709551616 % 20 + 1))), (7, .slc 0 1 (i + 1) 9 0 (i + 1) none), (8, .int .i64 (i : Nat))])
      ⟨rfl, rfl, rfl, rfl, rfl, rfl, trivial⟩ (by omega) ?_
    rintro i T H hi ⟨hH, hT⟩
    rw [hT.eq]
    simp only [over]
    by_cases hil : i < k
    · skip
      repeat' (first
       | refine q_s ?_ | refine q_z ?_ | refine q_b ?_ | refine wo_app1 rfl rfl rfl (by exact hH) (by simp [rszs_len]) rfl (by omega) rfl rfl (fun _ => ?_) | refine q_n ?_ | refine q_nn ?_
        | refine q_mv ?_ | refine q_faddr ?_ | refine q_load ?_ | refine q_loadI ?_ | refine q_loadR ?_ | refine q_cmp ?_ | refine q_cmp2 (fun _ => ?_) (fun _ => ?_) | refine q_add ?_
        | refine q_sub ?_ | refine q_mul ?_ | refine q_rem ?_ | refine q_bin ?_ | refine q_pickT ?_ | refine q_pickF ?_ | refine q_len ?_ | refine q_lenS ?_ | refine q_len0 ?_ | refine q_ex ?_
        | refine q_store ?_ | refine q_storeR ?_ | refine q_box ?_ | refine q_to64 ?_ | refine q_tou64 ?_ | refine q_cvu ?_ | refine q_cvi ?_ | refine q_build ?_ | refine q_buildS ?_
        | refine q_mn ?_ | refine q_mx ?_ | refine q_app fun _ => ?_ | refine q_slice0 ?_ | refine q_sliceE ?_ | refine q_sliceM ?_)
      refine ⟨hil, ?_, rfl, rfl, rfl, rfl, by show AV.int _ _ = AV.int _ _; congr 1, trivial⟩
      rw [rszs_succ, ← List.cons_append, List.map_append]
      rfl
    · have hik : i = k := by omega
      repeat' (first
       | refine q_s ?_ | refine q_z ?_ | refine q_b ?_ | refine q_n ?_ | refine q_nn ?_ | refine q_mv ?_ | refine q_faddr ?_ | refine q_load ?_ | refine q_loadI ?_ | refine q_loadR ?_
        | refine q_cmp ?_ | refine q_cmp2 (fun _ => ?_) (fun _ => ?_) | refine q_add ?_ | refine q_sub ?_ | refine q_mul ?_ | refine q_rem ?_ | refine q_bin ?_ | refine q_pickT ?_
        | refine q_pickF ?_ | refine q_len ?_ | refine q_lenS ?_ | refine q_len0 ?_ | refine q_ex ?_ | refine q_store ?_ | refine q_storeR ?_ | refine q_box ?_ | refine q_to64 ?_
        | refine q_tou64 ?_ | refine q_cvu ?_ | refine q_cvi ?_ | refine q_build ?_ | refine q_buildS ?_ | refine q_mn ?_ | refine q_mx ?_ | refine q_app fun _ => ?_ | refine q_slice0 ?_
        | refine q_sliceE ?_ | refine q_sliceM ?_)
      subst hik
      exact ⟨rfl, hH, rfl, rfl, rfl, rfl, trivial⟩
  rintro ex T2 H2 ⟨rfl, hH, hT⟩
  rw [hT.eq]
  simp only [over]
  show W _ _
  repeat' (first
   | refine q_s ?_ | refine q_z ?_ | refine q_b ?_ | refine q_call hE ?_ rfl (by show [fz false 6 _ (AV.slc _ _ _ _ _ _ _)] = _; rw [fz_ownC hH rfl (by rw [List.length_cons, rszs_len])])
    | refine wo_app1 rfl rfl rfl (by exact hH) (by simp [rszs_len]) rfl (by omega) rfl rfl (fun _ => ?_)
    | refine q_call hB1 ?_ rfl (by show [fz false 6 _ (AV.slc _ _ _ _ _ _ _), _] = _; rw [hfz _ rfl]; rfl)
    | refine q_call hB2 ?_ rfl (by show [fz false 6 _ (AV.slc _ _ _ _ _ _ _), _] = _; rw [hfz _ rfl]; rfl)
    | refine q_call hB3 ?_ rfl (by show [fz false 6 _ (AV.slc _ _ _ _ _ _ _), _] = _; rw [hfz _ rfl]; rfl)
    | refine q_call hB4 ?_ rfl (by show [fz false 6 _ (AV.slc _ _ _ _ _ _ _), _] = _; rw [hfz _ rfl]; rfl) | refine q_call hpar ?_
    | refine wo_loadR (.int .i64 (rawC (pKind y) (pPay y)).count) rfl rfl rfl rfl (Nat.le_of_ble_eq_true rfl) rfl rfl rfl ?_ | refine q_call (hQ _ _) ?_ | refine q_call hV1 ?_
    | refine q_call hV2 ?_ | refine q_call hw ?_ | refine q_n ?_ | refine q_nn ?_ | refine q_mv ?_ | refine q_faddr ?_ | refine q_load ?_ | refine q_loadI ?_ | refine q_loadR ?_
    | refine q_cmp ?_ | refine q_cmp2 (fun _ => ?_) (fun _ => ?_) | refine q_add ?_ | refine q_sub ?_ | refine q_mul ?_ | refine q_rem ?_ | refine q_bin ?_ | refine q_pickT ?_
    | refine q_pickF ?_ | refine q_len ?_ | refine q_lenS ?_ | refine q_len0 ?_ | refine q_ex ?_ | refine q_store ?_ | refine q_storeR ?_ | refine q_box ?_ | refine q_to64 ?_
    | refine q_tou64 ?_ | refine q_cvu ?_ | refine q_cvi ?_ | refine q_build ?_ | refine q_buildS ?_ | refine q_mn ?_ | refine q_mx ?_ | refine q_app fun _ => ?_ | refine q_slice0 ?_
    | refine q_sliceE ?_ | refine q_sliceM ?_)
  exact ⟨Or.inr rfl, _, rfl, rfl⟩

end Go.Proofs.YtnakicjkolpacaaDoor
