/- woodcutlaw23: StreamDumps, by the interpreter: the walk. -/
import Derived.Test.YtnakicjkolpacaaDoorL23Dumps
set_option linter.unusedSimpArgs false
set_option linter.unusedVariables false
set_option maxRecDepth 10000
set_option maxHeartbeats 16000000
namespace Go.Proofs.YtnakicjkolpacaaDoor
open Go.AI

theorem crcSumD {xf : ExtF} : isZ (acall B xf cloneF 1000028 n_crc_Sum 0 [.islc false true 0 []] Heap.none) = true := by kernel_rfl

attribute [local irreducible] aops aexec acall aiter aop W WO

variable {xf : ExtF}

theorem law_StreamDumps (size frm count cut : Int) : ∃ H, acall B xf cloneF 1000030 n_law23_StreamDumps 0 [.int .i64 size, .int .i64 frm, .int .i64 count, .int .i64 cut] Heap.none = some (.bool true, H) := by
  suffices h : FnV (acall B xf cloneF 1000030) n_law23_StreamDumps [.int .i64 size, .int .i64 frm, .int .i64 count, .int .i64 cut] (.bool true) by
    obtain ⟨u, H, h1, h2⟩ := h
    refine ⟨H, ?_⟩
    rw [h1, fz_true h2]
  have hw := e_wakes (xf := xf)
  obtain ⟨S, hS⟩ : ∃ S : Int, S = size % 18446744073709551616 % 500 := ⟨_, rfl⟩
  obtain ⟨F, hF⟩ : ∃ F : Int, F = frm % 18446744073709551616 % 90 := ⟨_, rfl⟩
  obtain ⟨C, hC⟩ : ∃ C : Int, C = 1 + count % 18446744073709551616 % 9 := ⟨_, rfl⟩
  obtain ⟨E, hE⟩ : ∃ E : Int, E = cut % 18446744073709551616 % 288 := ⟨_, rfl⟩
  have hS0 : 0 ≤ S ∧ S < 500 := by omega
  have hF0 : 0 ≤ F ∧ F < 90 := by omega
  have hC0 : 1 ≤ C ∧ C < 10 := by omega
  have hE0 : 0 ≤ E ∧ E < 288 := by omega
  have hwh := dL_whole hS0 hF0 hC0
  have hch := dL_chk hS0 hF0 hC0
  have hlen := dL_len S F C
  obtain ⟨j, hj, hends, hcut⟩ := dumps_cut hS0 hF0 hC0 (E := E.toNat) (by omega)
  have hall := dumps_all hS0 hF0 hC0
  have hsz := dLs_sz S F C
  obtain ⟨d, hd⟩ : ∃ d, d = sumA 0 [dZ F C, dC F C, dW F] := ⟨_, rfl⟩
  have hd0 := sumA_range [dZ F C, dC F C, dW F] 0 (by decide)
  have hdE : dE F C = ⟨6, 0, 0, 0, 0, 3, 0, d, []⟩ := by rw [hd]; rfl
  -- the End
  obtain ⟨H0, hz⟩ := isZ_some (crcSumD (xf := xf))
  have hEn := e_law_End (xf := xf) (gf := cloneF) 1000023 (by omega) true false (dEs4 S F C) [dB S, dZ F C, dC F C, dW F] (by show 1 ≤ 4 ∧ 4 < 100000; omega) (csR_d4 S F C)
    (fun c hc => hch c (List.mem_append_left [dE F C] hc)) ⟨_, H0, hz, rfl⟩
  have hEe : (⟨6, 0, 0, 0, 0, (([dB S, dZ F C, dC F C, dW F] : List Cmd).length : Int) - 1, 0, sumA 0 (([dB S, dZ F C, dC F C, dW F] : List Cmd).drop 1), []⟩ : Cmd) = ⟨6, 0, 0, 0, 0, 3, 0, d, []⟩ := by rw [hd]; rfl
  rw [hEe] at hEn
  -- the bytes
  have hB := e_stream_Bytes (xf := xf) (gf := cloneF) 1000019 (by omega) true false (dEs4 S F C ++ [(dE F C).av false true 0]) (dL S F C) (0 : Nat) (by show 5 ≤ 1000; omega) (csR_d5 S F C) (smallC_of hch)
  rw [if_pos ⟨hwh, by omega, by show ((0 : Nat) : Int) ≤ ((5 : Nat) : Int) - 2; omega⟩] at hB
  obtain ⟨bs, hbs⟩ : ∃ bs, bs = bytesS (dL S F C) (0 : Nat) := ⟨_, rfl⟩
  rw [← hbs] at hB hcut hall hlen
  have hD1 := e_stream_Dump (xf := xf) 1000021 (by omega) false false bs (by omega)
  have hD2 := fun f => e_stream_Dump (xf := xf) 1000021 (by omega) false f (bs.take E.toNat) (by rw [List.length_take]; omega)
  rw [hall] at hD1
  rw [hcut, List.flatten_append, List.flatten_cons, List.flatten_nil, List.append_nil] at hD2
  rw [← hd] at hD1 hd0
  have hN := fun n h => e_number (xf := xf) (gf := cloneF) 1000010 n h
  have hNS := hN S (by omega)
  have hNF := hN F (by omega)
  have hNC := hN C (by omega)
  have hNd := hN d (by omega)
  have iS := itoaF_len S
  have iF := itoaF_len F
  have iC := itoaF_len C
  have id := itoaF_len d
  have hfl := flatten_le (n := 100) (ls := dLs S F C) hsz
  have hfj := flatten_le (n := 100) (ls := (dLs S F C).take j) fun l hl => hsz l (List.mem_of_mem_take hl)
  have hl4 : (dLs S F C).length = 4 := rfl
  have hlj : ((dLs S F C).take j).length ≤ 4 := by rw [List.length_take]; omega
  have hfz4 : ∀ H' : Heap, H' 0 = ⟨1, false, .row 1 (BL zs)⟩ → H' 1 = ⟨1, false, .row 9 [(dB S).av false true 0, (dZ F C).av false true 0, (dC F C).av false true 0, wAv F]⟩ → fz false 6 H' (.slc 1 1 4 9 0 4 none) = .islc true false 9 (dEs4 S F C) := fun H' h h' => fz_d4 h h'
  have hfz5 : ∀ H' : Heap, H' 0 = ⟨1, false, .row 1 (BL zs)⟩ → H' 1 = ⟨1, false, .row 9 ([(dB S).av false true 0, (dZ F C).av false true 0, (dC F C).av false true 0, wAv F] ++ [(dE F C).av false true 0])⟩ → fz false 6 H' (.slc 1 1 5 9 0 5 none) = .islc true false 9 (dEs4 S F C ++ [(dE F C).av false true 0]) := fun H' h h' => fz_d5 h h'
  rw [hdE] at hfz5 hB
  obtain ⟨Ls, hLs⟩ : ∃ Ls, Ls = dLs S F C := ⟨_, rfl⟩
  rw [← hLs] at hD1 hD2 hsz hfl hfj hl4 hlj
  have hEE : ((E.toNat : Nat) : Int) = E := by omega
  obtain ⟨En, hEn2⟩ : ∃ En, En = E.toNat := ⟨_, rfl⟩
  rw [← hEn2] at hEE hends
  clear hwh hch
  subst hS hF hC hE
  refine fn_of B_law23_StreamDumps rfl ?_
  unfold law23_StreamDumps
  repeat' (first
   | refine q_s ?_ | refine q_z ?_ | refine q_b ?_ | refine q_mks ?_ | refine q_call hEn ?_ rfl (by exact congrArg (fun x => [x]) (hfz4 _ (by rfl) (by rfl)))
    | refine wo_app1 rfl rfl rfl rfl rfl rfl (by decide) rfl rfl (fun _ => ?_)
    | refine q_call hB ?_ rfl (by exact congrArg (fun x => [x, AV.int .i64 ((0 : Nat) : Int)]) (hfz5 _ (by rfl) (by rfl))) | refine q_call hNS ?_ | refine q_call hNF ?_ | refine q_call hNC ?_
    | refine wo_sadd rfl rfl (by simp only [List.length_append, List.length_cons, List.length_nil]; omega) rfl rfl ?_ | refine wo_lenG (n := 288) rfl (by simpa using hlen) rfl rfl ?_
    | refine q_len (l := bs) ?_ | refine q_call hD1 ?_ | refine q_call (hD2 _) ?_ | refine wo_atR rfl rfl rfl rfl (by decide) (by decide) (by decide) rfl rfl ?_ | refine q_n ?_ | refine q_nn ?_
    | refine q_mv ?_ | refine q_faddr ?_ | refine q_load ?_ | refine q_loadI ?_ | refine q_loadR ?_ | refine q_cmp ?_ | refine q_cmp2 (fun _ => ?_) (fun _ => ?_) | refine q_add ?_
    | refine q_rem ?_ | refine q_bin ?_ | refine q_pickT ?_ | refine q_pickF ?_ | refine q_len ?_ | refine q_lenS ?_ | refine q_len0 ?_ | refine q_ex ?_ | refine q_to64 ?_ | refine q_tou64 ?_
    | refine q_cvu ?_ | refine q_cvi ?_ | refine q_at ?_ | refine q_build ?_ | refine q_buildS ?_ | refine q_app fun _ => ?_ | refine q_slice0 ?_ | refine q_sliceE ?_ | refine q_sliceM ?_
    | refine q_mks ?_)
  refine W.mono (Dumps_loop (fuel := 1000029) (Ls := Ls) (j := j) (E := En) (g9 := .slc 1 1 5 9 0 5 none) (g14 := strV (((Ls.flatten ++ [101, 110, 100, 32, 51, 32]) ++ itoaF d) ++ [10])) (g15 := .int .i64 0) (g16 := strV ((Ls.take j).flatten ++ [101, 114, 114, 111, 114, 32, 49, 54, 10])) (g17 := .int .i64 0) (by omega) hl4 hsz hj (by omega) hends ?_ ?_ ?_) ?_
  · rw [hLs]; rfl
  · rfl
  · exact ⟨by rw [hEE]; rfl, rfl, rfl, rfl, rfl, rfl, rfl, rfl, rfl, rfl, rfl, trivial⟩
  rintro ex T2 H2 ⟨rfl, rfl, hT⟩
  rw [hT.eq]
  simp only [over]
  show W _ _
  repeat' (first
   | refine q_s ?_ | refine q_z ?_ | refine q_b ?_ | refine q_call hNd ?_ | refine wo_sadd rfl rfl (by simp only [List.length_append, List.length_cons, List.length_nil]; omega) rfl rfl ?_
    | refine wo_atR rfl rfl rfl rfl (by decide) (by decide) (by decide) rfl rfl ?_ | refine q_loadR ?_ | refine wo_seqT rfl rfl rfl rfl ?_ | refine q_call hw ?_ | refine q_n ?_ | refine q_nn ?_
    | refine q_mv ?_ | refine q_faddr ?_ | refine q_load ?_ | refine q_loadI ?_ | refine q_loadR ?_ | refine q_cmp ?_ | refine q_cmp2 (fun _ => ?_) (fun _ => ?_) | refine q_add ?_
    | refine q_rem ?_ | refine q_bin ?_ | refine q_pickT ?_ | refine q_pickF ?_ | refine q_len ?_ | refine q_lenS ?_ | refine q_len0 ?_ | refine q_ex ?_ | refine q_to64 ?_ | refine q_tou64 ?_
    | refine q_cvu ?_ | refine q_cvi ?_ | refine q_at ?_ | refine q_build ?_ | refine q_buildS ?_ | refine q_app fun _ => ?_ | refine q_slice0 ?_ | refine q_sliceE ?_ | refine q_sliceM ?_
    | refine q_mks ?_)
  exact ⟨Or.inr rfl, _, rfl, rfl⟩

end Go.Proofs.YtnakicjkolpacaaDoor
