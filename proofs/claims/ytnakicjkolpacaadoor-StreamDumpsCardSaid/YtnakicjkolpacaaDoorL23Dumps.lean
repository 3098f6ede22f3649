/- woodcutlaw23: StreamDumps, by the interpreter. -/
import Derived.Test.YtnakicjkolpacaaDoorS38
import Derived.Test.YtnakicjkolpacaaDoorS36
import Derived.Test.YtnakicjkolpacaaDoorL23Back
set_option linter.unusedSimpArgs false
set_option linter.unusedVariables false
set_option maxRecDepth 10000
set_option maxHeartbeats 16000000
namespace Go.Proofs.YtnakicjkolpacaaDoor
open Go.AI

section
variable {cf : CallF} {xf : ExtF} {base : Nat} {T : Tmps} {H : Heap} {QO : Tmps → Heap → Prop} {log : List FP} {g : Option (Nat × Bool)} {un : List Nat} {r : List SOper} {d : Nat}
theorem wo_seqT {x y : SArg} {a : List UInt8} (hx : x.ev T = strV a) (hy : y.ev T = strV a) (hw : awanted T g = some true) (hl : logOk log .z un = true)
    (h : WO (aops cf xf base r (log ++ [.z]) (T.upd d (.bool true)) H) QO) : WO (aops cf xf base (⟨some d, .bin .eql x y, g, un⟩ :: r) log T H) QO :=
  wo_step (v := .bool true) hw (by simp [aop, hx, hy, strV, abin, rv]) hl h
end

/-- Frames that are whole, then one that is cut off. -/
theorem parse_cutX {a : List (Int × Cmd)} {q : Int} {c : Cmd} {m : Nat} (hm : Mids ps0 a) (hc : chkP c) (h : m < (frB q c).length) : parseS (frsB a ++ (frB q c).take m) = (after ps0 a, (frsB a).length, 16) := by
  have hl : ∀ a : List (Int × Cmd), a.length ≤ (frsB a).length := by
    intro a
    induction a with
    | nil => simp [frsB]
    | cons x a ih =>
      obtain ⟨q, c⟩ := x
      simp only [frsB, List.length_append, frB_length, List.length_cons]
      omega
  have h1 := hl a
  obtain ⟨k, hk⟩ : ∃ k, (frsB a ++ (frB q c).take m).length + 1 = k + 1 + a.length := ⟨(frsB a ++ (frB q c).take m).length - a.length, by simp only [List.length_append]; omega⟩
  unfold parseS
  rw [hk, goS_mids a (k + 1) ps0 0 _ hm]
  simp only [goS]
  rw [parse_cut hc h, if_pos (by decide), Nat.zero_add]
theorem cut_ms {a b : List (Int × Cmd)} {q : Int} {c : Cmd} {E : Nat} (hm : Mids ps0 a) (hc : chkP c) (h1 : (frsB a).length ≤ E) (h2 : E < (frsB a).length + (frB q c).length) :
    dumpL ((frsB (a ++ (q, c) :: b)).take E) = (a.map fun x => rowB x.2) ++ [[101, 114, 114, 111, 114, 32, 49, 54, 10]] := by
  have e : (frsB (a ++ (q, c) :: b)).take E = frsB a ++ (frB q c).take (E - (frsB a).length) := by
    rw [frsB_append]
    show (frsB a ++ (frB q c ++ frsB b)).take E = _
    rw [List.take_append, List.take_of_length_le h1, List.take_append_of_le_length (by omega)]
  rw [e]
  unfold dumpL
  rw [parse_cutX hm hc (by omega), if_neg (by show ¬ (16 : Int) = 0; decide), after_l]
  have e16 : itoaF 16 = [49, 54] := by decide
  show rowsL (([] : List CV) ++ _) ++ [[101, 114, 114, 111, 114, 32] ++ itoaF 16 ++ [10]] = _
  rw [e16, List.nil_append]
  unfold rowsL
  rw [List.map_map]
  rfl

def zs : List UInt8 := List.replicate 128 0
def dB (S : Int) : Cmd := ⟨1, 8, 4, S, 0, 0, 0, 0, []⟩
def dZ (F C : Int) : Cmd := ⟨3, 0, 0, 0, F, C, 0, 0, []⟩
def dC (F C : Int) : Cmd := ⟨4, 0, 0, 0, F, C, 7, 0, []⟩
def dW (F : Int) : Cmd := ⟨2, 0, 0, 0, F, 0, 0, 0, zs⟩
def dE (F C : Int) : Cmd := ⟨6, 0, 0, 0, 0, 3, 0, sumA 0 [dZ F C, dC F C, dW F], []⟩
def dL (S F C : Int) : List Cmd := [dB S, dZ F C, dC F C, dW F, dE F C]
def dM (S F C : Int) : List (Int × Cmd) := [(0, dB S), (1, dZ F C), (2, dC F C), (3, dW F)]

theorem dB_chk {S : Int} (h : 0 ≤ S ∧ S < 500) : chkP (dB S) := by
  unfold chkP bareP dB
  simp only [if_true]
  simp [inR_iff, parentsP]
  omega
theorem dZ_chk {F C : Int} (h : 0 ≤ F ∧ F < 90) (h' : 1 ≤ C ∧ C < 10) : chkP (dZ F C) ∧ content (dZ F C) := by
  refine ⟨?_, ⟨show (2 : Int) ≤ 3 by decide, show (3 : Int) ≤ 5 by decide⟩⟩
  unfold chkP bareP dZ
  simp only [show ¬ ((3 : Int) = 1) by decide, show ¬ ((3 : Int) = 2) by decide, if_false, if_true]
  simp [withinP]
  omega
theorem dC_chk {F C : Int} (h : 0 ≤ F ∧ F < 90) (h' : 1 ≤ C ∧ C < 10) : chkP (dC F C) ∧ content (dC F C) := by
  refine ⟨?_, ⟨show (2 : Int) ≤ 4 by decide, show (4 : Int) ≤ 5 by decide⟩⟩
  unfold chkP bareP dC
  simp only [show ¬ ((4 : Int) = 1) by decide, show ¬ ((4 : Int) = 2) by decide, show ¬ ((4 : Int) = 3) by decide, if_false, if_true]
  simp [withinP]
  omega
theorem dW_chk {F : Int} (h : 0 ≤ F ∧ F < 90) : chkP (dW F) ∧ content (dW F) := by
  refine ⟨?_, ⟨show (2 : Int) ≤ 2 by decide, show (2 : Int) ≤ 5 by decide⟩⟩
  unfold chkP bareP dW
  simp only [show ¬ ((2 : Int) = 1) by decide, if_false, if_true]
  have e1 : zs.length = 128 := by decide
  have e2 : ((128 : Nat) : Int) / 64 = 2 := by decide
  have hw : withinP F 2 512 = true := by unfold withinP; exact decide_eq_true (by omega)
  have hW : writesP ⟨2, 0, 0, 0, F, 0, 0, 0, zs⟩ = true := by
    unfold writesP
    simp only [e1, e2, hw]
    decide
  exact ⟨hW, by simp⟩
theorem sumA_range (l : List Cmd) : ∀ s : Int, 0 ≤ s ∧ s ≤ 4294967295 → 0 ≤ sumA s l ∧ sumA s l ≤ 4294967295 := by
  induction l with
  | nil => exact fun s h => h
  | cons c l ih => exact fun s h => ih _ (crcMore_range2 _ _)
theorem dE_chk {F C : Int} : chkP (dE F C) := by
  have h := sumA_range [dZ F C, dC F C, dW F] 0 (by decide)
  unfold dE
  generalize sumA 0 [dZ F C, dC F C, dW F] = d at h
  unfold chkP bareP
  simp only [show ¬ ((6 : Int) = 1) by decide, show ¬ ((6 : Int) = 2) by decide, show ¬ ((6 : Int) = 3) by decide, show ¬ ((6 : Int) = 4) by decide, show ¬ ((6 : Int) = 5) by decide, if_false, if_true]
  simp [inR_iff, h.1, h.2]
theorem dL_chk {S F C : Int} (hS : 0 ≤ S ∧ S < 500) (hF : 0 ≤ F ∧ F < 90) (hC : 1 ≤ C ∧ C < 10) : ∀ c ∈ dL S F C, chkP c := by
  intro c hc
  simp only [dL, List.mem_cons, List.not_mem_nil, or_false] at hc
  rcases hc with rfl | rfl | rfl | rfl | rfl
  · exact dB_chk hS
  · exact (dZ_chk hF hC).1
  · exact (dC_chk hF hC).1
  · exact (dW_chk hF).1
  · exact dE_chk
theorem sumC_dB (S n : Int) (l : List Cmd) : sumC n (dB S :: l) = sumC n l := by
  show sumC (if (1 : Int) = 1 ∨ (1 : Int) = 6 then n else crcMore n (payB (dB S))) l = _
  rw [if_pos (.inl rfl)]
theorem sumC_dE (F C n : Int) (l : List Cmd) : sumC n (l ++ [dE F C]) = sumC n l := by
  unfold sumC
  rw [List.foldl_append]
  simp only [List.foldl_cons, List.foldl_nil]
  rw [if_pos (.inr rfl)]
theorem dL_whole {S F C : Int} (hS : 0 ≤ S ∧ S < 500) (hF : 0 ≤ F ∧ F < 90) (hC : 1 ≤ C ∧ C < 10) : wholeP (dL S F C) := by
  have hm : ∀ c ∈ [dZ F C, dC F C, dW F], content c := by
    intro c hc
    simp only [List.mem_cons, List.not_mem_nil, or_false] at hc
    rcases hc with rfl | rfl | rfl
    · exact (dZ_chk hF hC).2
    · exact (dC_chk hF hC).2
    · exact (dW_chk hF).2
  refine ⟨by show 2 ≤ 5; decide, ⟨rfl, rfl, rfl, rfl⟩, ?_, dL_chk hS hF hC, ?_⟩
  · show [dZ F C, dC F C, dW F].all contentB = true
    rw [List.all_eq_true]
    exact fun c hc => contentB_iff.2 (hm c hc)
  · show sumA 0 [dZ F C, dC F C, dW F] = sumC 0 (dB S :: ([dZ F C, dC F C, dW F] ++ [dE F C]))
    rw [sumA_content _ _ hm, sumC_dB, sumC_dE]
theorem dL_bytes (S F C : Int) : bytesS (dL S F C) (0 : Nat) = frsB (dM S F C ++ [(4, dE F C)]) := by
  simp only [bytesS, bodyB, frsB, dL, dM, List.cons_append, List.nil_append, Int.toNat_natCast, List.drop_succ_cons, List.drop_zero, List.append_nil]
  rfl
theorem dM_mids {S F C : Int} (hS : 0 ≤ S ∧ S < 500) (hF : 0 ≤ F ∧ F < 90) (hC : 1 ≤ C ∧ C < 10) : Mids ps0 (dM S F C) :=
  ⟨dB_chk hS, by decide, rfl, by show (1 : Int) ≠ 6; decide, (dZ_chk hF hC).1, by decide, rfl, by show (3 : Int) ≠ 6; decide, (dC_chk hF hC).1, by decide, rfl, by show (4 : Int) ≠ 6; decide, (dW_chk hF).1, by decide, rfl, by show (2 : Int) ≠ 6; decide, trivial⟩
theorem dl0 (q S : Int) : (frB q (dB S)).length = 44 := by simp [frB_length, payB, dB]
theorem dl1 (q F C : Int) : (frB q (dZ F C)).length = 28 := by simp [frB_length, payB, dZ]
theorem dl2 (q F C : Int) : (frB q (dC F C)).length = 32 := by simp [frB_length, payB, dC]
theorem dl3 (q F : Int) : (frB q (dW F)).length = 156 := by simp [frB_length, payB, dW, zs]
theorem dl4 (q F C : Int) : (frB q (dE F C)).length = 28 := by simp [frB_length, payB, dE]
theorem dL_len (S F C : Int) : (bytesS (dL S F C) (0 : Nat)).length = 288 := by
  rw [dL_bytes]
  simp only [dM, frsB, List.cons_append, List.nil_append, List.length_append, dl0, dl1, dl2, dl3, dl4, List.length_nil]

/-- The lines as the law writes them. -/
def dLs (S F C : Int) : List (List UInt8) :=
  [([98, 101, 103, 105, 110, 32, 56, 32, 52, 32] ++ itoaF S) ++ [32, 48, 10], ((([122, 101, 114, 111, 32] ++ itoaF F) ++ [32]) ++ itoaF C) ++ [10], ((([99, 108, 111, 110, 101, 32] ++ itoaF F) ++ [32]) ++ itoaF C) ++ [32, 55, 10], ([119, 114, 105, 116, 101, 32] ++ itoaF F) ++ [32, 50, 10]]
theorem dLs_rows (S F C : Int) : [rowB (dB S), rowB (dZ F C), rowB (dC F C), rowB (dW F)] = dLs S F C := by
  have h8 : itoaF 8 = [56] := by decide
  have h4 : itoaF 4 = [52] := by decide
  have h0 : itoaF 0 = [48] := by decide
  have h7 : itoaF 7 = [55] := by decide
  have h2 : itoaF 2 = [50] := by decide
  have e2 : ((zs.length : Int) / 64) = 2 := by decide
  unfold dLs
  simp [rowB, wordOf, numsOf, dB, dZ, dC, dW, spaced, h8, h4, h0, h7, e2, h2]
theorem dE_row (F C : Int) : rowB (dE F C) = ([101, 110, 100, 32, 51, 32] ++ itoaF (sumA 0 [dZ F C, dC F C, dW F])) ++ [10] := by
  have h3 : itoaF 3 = [51] := by decide
  have : ∀ d, rowB ⟨6, 0, 0, 0, 0, 3, 0, d, []⟩ = ([101, 110, 100, 32, 51, 32] ++ itoaF d) ++ [10] := by
    intro d
    simp [rowB, wordOf, numsOf, spaced, h3]
  exact this _
theorem dLs_sz (S F C : Int) : ∀ l ∈ dLs S F C, l.length ≤ 100 := by
  intro l hl
  rw [← dLs_rows] at hl
  simp only [List.mem_cons, List.not_mem_nil, or_false] at hl
  rcases hl with rfl | rfl | rfl | rfl <;> exact rowB_len _

def endN : List Nat := [44, 72, 104, 260]
theorem dumps_cut {S F C : Int} (hS : 0 ≤ S ∧ S < 500) (hF : 0 ≤ F ∧ F < 90) (hC : 1 ≤ C ∧ C < 10) {E : Nat} (hE : E < 288) :
    ∃ j, j ≤ 4 ∧ (∀ i, i < 4 → ∃ en, endN[i]? = some en ∧ (en ≤ E ↔ i < j)) ∧ dumpL ((bytesS (dL S F C) (0 : Nat)).take E) = (dLs S F C).take j ++ [[101, 114, 114, 111, 114, 32, 49, 54, 10]] := by
  have hm := dM_mids hS hF hC
  have ends : ∀ j, (44 ≤ E ↔ 0 < j) → (72 ≤ E ↔ 1 < j) → (104 ≤ E ↔ 2 < j) → (260 ≤ E ↔ 3 < j) → ∀ i, i < 4 → ∃ en, endN[i]? = some en ∧ (en ≤ E ↔ i < j) := by
    intro j h0 h1 h2 h3 i hi
    have : i = 0 ∨ i = 1 ∨ i = 2 ∨ i = 3 := by omega
    rcases this with rfl | rfl | rfl | rfl
    · exact ⟨44, rfl, h0⟩
    · exact ⟨72, rfl, h1⟩
    · exact ⟨104, rfl, h2⟩
    · exact ⟨260, rfl, h3⟩
  rw [dL_bytes, ← dLs_rows]
  by_cases c0 : E < 44
  · refine ⟨0, by omega, ends 0 (by omega) (by omega) (by omega) (by omega), ?_⟩
    exact cut_ms (a := []) (b := [(1, dZ F C), (2, dC F C), (3, dW F), (4, dE F C)]) (q := 0) (c := dB S) trivial (dB_chk hS) (by simp [frsB]) (by rw [dl0]; simp [frsB]; omega)
  by_cases c1 : E < 72
  · refine ⟨1, by omega, ends 1 (by omega) (by omega) (by omega) (by omega), ?_⟩
    have hl : (frsB [(0, dB S)]).length = 44 := by simp only [frsB, List.length_append, dl0, List.length_nil]
    exact cut_ms (a := [(0, dB S)]) (b := [(2, dC F C), (3, dW F), (4, dE F C)]) (q := 1) (c := dZ F C) ((mids_append [(0, dB S)] [(1, dZ F C), (2, dC F C), (3, dW F)] ps0).1 hm).1 (dZ_chk hF hC).1 (by omega) (by rw [dl1]; omega)
  by_cases c2 : E < 104
  · refine ⟨2, by omega, ends 2 (by omega) (by omega) (by omega) (by omega), ?_⟩
    have hl : (frsB [(0, dB S), (1, dZ F C)]).length = 72 := by simp only [frsB, List.length_append, dl0, dl1, List.length_nil]
    exact cut_ms (a := [(0, dB S), (1, dZ F C)]) (b := [(3, dW F), (4, dE F C)]) (q := 2) (c := dC F C) ((mids_append [(0, dB S), (1, dZ F C)] [(2, dC F C), (3, dW F)] ps0).1 hm).1 (dC_chk hF hC).1 (by omega) (by rw [dl2]; omega)
  by_cases c3 : E < 260
  · refine ⟨3, by omega, ends 3 (by omega) (by omega) (by omega) (by omega), ?_⟩
    have hl : (frsB [(0, dB S), (1, dZ F C), (2, dC F C)]).length = 104 := by simp only [frsB, List.length_append, dl0, dl1, dl2, List.length_nil]
    exact cut_ms (a := [(0, dB S), (1, dZ F C), (2, dC F C)]) (b := [(4, dE F C)]) (q := 3) (c := dW F) ((mids_append [(0, dB S), (1, dZ F C), (2, dC F C)] [(3, dW F)] ps0).1 hm).1 (dW_chk hF).1 (by omega) (by rw [dl3]; omega)
  · refine ⟨4, by omega, ends 4 (by omega) (by omega) (by omega) (by omega), ?_⟩
    have hl : (frsB (dM S F C)).length = 260 := by simp only [dM, frsB, List.length_append, dl0, dl1, dl2, dl3, List.length_nil]
    exact cut_ms (a := dM S F C) (b := []) (q := 4) (c := dE F C) hm dE_chk (by omega) (by rw [dl4]; omega)
theorem dumps_all {S F C : Int} (hS : 0 ≤ S ∧ S < 500) (hF : 0 ≤ F ∧ F < 90) (hC : 1 ≤ C ∧ C < 10) :
    (dumpL (bytesS (dL S F C) (0 : Nat))).flatten = (((dLs S F C).flatten ++ [101, 110, 100, 32, 51, 32]) ++ itoaF (sumA 0 [dZ F C, dC F C, dW F])) ++ [10] := by
  obtain ⟨p, hp, hl⟩ := parse_bytesS (dL_whole hS hF hC) (s := 0) (by show 0 + 2 ≤ 5; decide) (by show 5 ≤ 1000; decide)
  have h1 : dumpL (bytesS (dL S F C) (0 : Nat)) = rowsL p.l := by
    unfold dumpL
    rw [hp, if_pos rfl, List.append_nil]
  have h2 : p.l = [cvOf (dB S), cvOf (dZ F C), cvOf (dC F C), cvOf (dW F), cvOf (dE F C)] := hl
  rw [h1, h2]
  show ([rowB (dB S), rowB (dZ F C), rowB (dC F C), rowB (dW F)] ++ [rowB (dE F C)]).flatten = _
  rw [dLs_rows, List.flatten_append, List.flatten_cons, List.flatten_nil, List.append_nil, dE_row]
  simp only [List.append_assoc]

attribute [local irreducible] aops aexec acall aiter aop W WO

variable {xf : ExtF} {gf : CallF}

theorem e_number (k : Nat) (n : Int) (h : 0 ≤ n ∧ n < 1000000000000000000) : FnV (acall B xf gf (k + 19)) n_law23_number [.int .i64 n] (strV (itoaF n)) := by
  obtain ⟨m, rfl⟩ : ∃ m : Nat, n = m := ⟨n.toNat, by omega⟩
  have := e_law_number (xf := xf) (gf := gf) k 18 m (by omega) (by omega)
  have e : itoaF m = decF 19 m := by
    unfold itoaF
    rw [if_neg (by omega), Int.toNat_natCast, decF_eq 20 m (by omega) (by omega), decF_eq 19 m (by omega) (by omega)]
  rw [e]
  exact this

theorem Dumps_loop {cf : CallF} {fuel : Nat} {T : Tmps} {H : Heap} {Ls : List (List UInt8)} {j E : Nat} {g9 g14 g15 g16 g17 : AV} (hk2 : 1000 ≤ fuel) (hLs : Ls.length = 4) (hsz : ∀ l ∈ Ls, l.length ≤ 100) (hj : j ≤ 4) (hE : E < 1000) (hends : ∀ i, i < 4 → ∃ en, endN[i]? = some en ∧ (en ≤ E ↔ i < j))
    (h4 : H 4 = ⟨1, false, .row 1 (Ls.map strV)⟩) (h5 : H 5 = ⟨1, false, .row 1 (IL (endN.map fun (n : Nat) => (n : Int)))⟩)
    (hT : Has T [(3, .int .i64 E), (9, g9), (12, .slc 4 1 4 1 0 4 none), (13, .slc 5 1 4 1 0 4 none), (14, g14), (15, g15), (16, g16), (17, g17), (18, strV []), (19, strV []), (20, .int .i64 0)]) :
    W (aexec cf xf 0 fuel (.loop law23_StreamDumps_l0) T H) (fun ex T' H' => ex = .exit 0 ∧ H' = H ∧ Has T' [(9, g9), (14, g14), (15, g15), (16, g16), (17, g17), (18, strV Ls.flatten), (19, strV (Ls.take j).flatten)]) := by
  refine w_for 4 (fun i T' H' => H' = H ∧ Has T' [(3, .int .i64 E), (9, g9), (12, .slc 4 1 4 1 0 4 none), (13, .slc 5 1 4 1 0 4 none), (14, g14), (15, g15), (16, g16), (17, g17), (18, strV (Ls.take i).flatten), (19, strV (Ls.take (min i j)).flatten), (20, .int .i64 (i : Nat))])
    ⟨rfl, by simpa using hT⟩ (by omega) ?_
  rintro i T H' hi ⟨hHH, hT⟩
  subst hHH
  rw [hT.eq]
  simp only [over]
  unfold law23_StreamDumps_l0
  have hf : ∀ n, (Ls.take n).flatten.length ≤ 100 * 4 := fun n => by
    have := flatten_le (n := 100) (ls := Ls.take n) fun l hl => hsz l (List.mem_of_mem_take hl)
    have h2 : (Ls.take n).length ≤ 4 := by rw [List.length_take]; omega
    omega
  have hf1 := hf i
  have hf2 := hf (min i j)
  by_cases hil : i < 4
  · obtain ⟨en, hen, hc⟩ := hends i hil
    have hil2 : i < Ls.length := by omega
    obtain ⟨x, hx⟩ : ∃ x, x = Ls[i] := ⟨_, rfl⟩
    have hxs : x.length ≤ 100 := by rw [hx]; exact hsz _ (List.getElem_mem hil2)
    have e4 : (Ls.map strV)[0 + (i : Int).toNat]? = some (strV x) := by
      rw [Nat.zero_add, Int.toNat_natCast, List.getElem?_map, List.getElem?_eq_getElem hil2, ← hx]; rfl
    have e5 : (IL (endN.map fun (n : Nat) => (n : Int)))[0 + (i : Int).toNat]? = some (.int .i64 (en : Nat)) := by
      rw [Nat.zero_add, Int.toNat_natCast]
      unfold IL
      rw [List.getElem?_map, List.getElem?_map, hen]; rfl
    have t1 : (Ls.take (i + 1)).flatten = (Ls.take i).flatten ++ x := by
      rw [List.take_succ_eq_append_getElem hil2, ← hx]; simp
    by_cases hij : i < j
    · have hm1 : min i j = i := by omega
      have hm2 : min (i + 1) j = i + 1 := by omega
      rw [hm1]
      repeat' (first
       | refine q_s ?_ | refine q_z ?_ | refine q_b ?_ | refine wo_atR rfl rfl h4 (by simpa using hLs) (by omega) (by omega) (by omega) rfl rfl ?_
        | refine wo_atR rfl rfl h5 rfl (by omega) (by omega) (by omega) rfl rfl ?_ | refine wo_loadE rfl h4 (by simpa using hLs) e4 rfl rfl rfl ?_ | refine wo_loadE rfl h5 rfl e5 rfl rfl rfl ?_
        | refine wo_sadd (a := (Ls.take i).flatten) (b := x) rfl rfl (by omega) rfl rfl ?_ | refine q_mv ?_ | refine q_load ?_ | refine q_loadI ?_ | refine q_loadR ?_ | refine q_cmp ?_
        | refine q_cmp2 (fun _ => ?_) (fun _ => ?_) | refine q_add ?_ | refine q_at ?_)
      exact ⟨hil, rfl, rfl, rfl, rfl, rfl, rfl, rfl, rfl, rfl, by rw [t1]; rfl, by rw [hm2, t1]; rfl, by show AV.int _ _ = AV.int _ _; congr 1, trivial⟩
    · have hm1 : min (i + 1) j = min i j := by omega
      repeat' (first
       | refine q_s ?_ | refine q_z ?_ | refine q_b ?_ | refine wo_atR rfl rfl h4 (by simpa using hLs) (by omega) (by omega) (by omega) rfl rfl ?_
        | refine wo_atR rfl rfl h5 rfl (by omega) (by omega) (by omega) rfl rfl ?_ | refine wo_loadE rfl h4 (by simpa using hLs) e4 rfl rfl rfl ?_ | refine wo_loadE rfl h5 rfl e5 rfl rfl rfl ?_
        | refine wo_sadd (a := (Ls.take i).flatten) (b := x) rfl rfl (by omega) rfl rfl ?_ | refine q_mv ?_ | refine q_load ?_ | refine q_loadI ?_ | refine q_loadR ?_ | refine q_cmp ?_
        | refine q_cmp2 (fun _ => ?_) (fun _ => ?_) | refine q_add ?_ | refine q_at ?_)
      exact ⟨hil, rfl, rfl, rfl, rfl, rfl, rfl, rfl, rfl, rfl, by rw [t1]; rfl, by rw [hm1]; rfl, by show AV.int _ _ = AV.int _ _; congr 1, trivial⟩
  · have hin : i = 4 := by omega
    repeat' (first
     | refine q_s ?_ | refine q_z ?_ | refine q_b ?_ | refine q_mv ?_ | refine q_load ?_ | refine q_loadI ?_ | refine q_loadR ?_ | refine q_cmp ?_ | refine q_cmp2 (fun _ => ?_) (fun _ => ?_)
      | refine q_add ?_ | refine q_at ?_)
    have e1 : (Ls.take i).flatten = Ls.flatten := by rw [List.take_of_length_le (by omega)]
    have e2 : min i j = j := by omega
    rw [e1, e2]
    exact ⟨rfl, rfl, rfl, rfl, rfl, rfl, rfl, rfl, rfl, trivial⟩

def wAv (F : Int) : AV := .agg [.int .i64 2, .int .i64 0, .int .i64 0, .int .i64 0, .int .i64 F, .int .i64 0, .int .i64 0, .int .i64 0, .slc 0 1 128 1 0 128 none]
theorem fz_w {H : Heap} (h0 : H 0 = ⟨1, false, .row 1 (BL zs)⟩) (F : Int) : fz false 5 H (wAv F) = (dW F).av true false 1 := by
  have e : fz false 4 H (.slc 0 1 128 1 0 128 none) = .islc true false 1 (BL zs) := by
    rw [fz_slcB (n := 2) (ver := 128) (l := zs) (row_of h0 rfl) (by omega), List.drop_zero, List.take_of_length_le (by decide)]
    rfl
  show AV.agg [.int .i64 2, .int .i64 0, .int .i64 0, .int .i64 0, .int .i64 F, .int .i64 0, .int .i64 0, .int .i64 0, fz false 4 H (.slc 0 1 128 1 0 128 none)] = _
  rw [e]
  rfl
def dEs4 (S F C : Int) : List AV := [(dB S).av false true 0, (dZ F C).av false true 0, (dC F C).av false true 0, (dW F).av true false 1]
theorem fz_d4 {H : Heap} {S F C : Int} (h0 : H 0 = ⟨1, false, .row 1 (BL zs)⟩) (h1 : H 1 = ⟨1, false, .row 9 [(dB S).av false true 0, (dZ F C).av false true 0, (dC F C).av false true 0, wAv F]⟩) : fz false 6 H (.slc 1 1 4 9 0 4 none) = .islc true false 9 (dEs4 S F C) := by
  rw [fz_slc (n := 5) (ver := 4) (row_of h1 rfl) (by omega)]
  show AV.islc true false 9 [fz false 5 H ((dB S).av false true 0), fz false 5 H ((dZ F C).av false true 0), fz false 5 H ((dC F C).av false true 0), fz false 5 H (wAv F)] = _
  rw [fz_w h0, fz_av false 3, fz_av false 3, fz_av false 3]
  rfl
theorem fz_d5 {H : Heap} {S F C : Int} (h0 : H 0 = ⟨1, false, .row 1 (BL zs)⟩) (h1 : H 1 = ⟨1, false, .row 9 ([(dB S).av false true 0, (dZ F C).av false true 0, (dC F C).av false true 0, wAv F] ++ [(dE F C).av false true 0])⟩) : fz false 6 H (.slc 1 1 5 9 0 5 none) = .islc true false 9 (dEs4 S F C ++ [(dE F C).av false true 0]) := by
  rw [fz_slc (n := 5) (ver := 5) (row_of h1 rfl) (by omega)]
  show AV.islc true false 9 [fz false 5 H ((dB S).av false true 0), fz false 5 H ((dZ F C).av false true 0), fz false 5 H ((dC F C).av false true 0), fz false 5 H (wAv F), fz false 5 H ((dE F C).av false true 0)] = _
  rw [fz_w h0, fz_av false 3, fz_av false 3, fz_av false 3, fz_av false 3]
  rfl
theorem csR_d4 (S F C : Int) : CsR (dEs4 S F C) [dB S, dZ F C, dC F C, dW F] :=
  ⟨⟨false, true, 0, rfl, .inr rfl, .inl rfl⟩, ⟨false, true, 0, rfl, .inr rfl, .inl rfl⟩, ⟨false, true, 0, rfl, .inr rfl, .inl rfl⟩, ⟨true, false, 1, rfl, .inl rfl, .inr rfl⟩, trivial⟩
theorem csR_d5 (S F C : Int) : CsR (dEs4 S F C ++ [(dE F C).av false true 0]) (dL S F C) :=
  ⟨⟨false, true, 0, rfl, .inr rfl, .inl rfl⟩, ⟨false, true, 0, rfl, .inr rfl, .inl rfl⟩, ⟨false, true, 0, rfl, .inr rfl, .inl rfl⟩, ⟨true, false, 1, rfl, .inl rfl, .inr rfl⟩, ⟨false, true, 0, rfl, .inr rfl, .inl rfl⟩, trivial⟩

end Go.Proofs.YtnakicjkolpacaaDoor
