/- What the page's own functions answer: a stream's lines. (MADE BY gen_dump.py) -/
import Derived.Test.YtnakicjkolpacaaDoorS41
import Derived.Test.YtnakicjkolpacaaDoorS43
set_option linter.unusedSimpArgs false
set_option linter.unusedVariables false
set_option maxRecDepth 10000
set_option maxHeartbeats 16000000
namespace Go.Proofs.YtnakicjkolpacaaDoor
open Go.AI
theorem itoa_dec {n : Int} (h : 0 ≤ n) : itoaF n = decF 20 n.toNat := by unfold itoaF; rw [if_neg (by omega)]
theorem nums_small {c : Cmd} (h : chkP c) : ∀ n ∈ numsOf c, 0 ≤ n ∧ n ≤ 9223372036854775807 := by
  intro n hn
  unfold numsOf at hn
  rcases chkP_inv h with ⟨h0, h1, h2, h3, _⟩ | ⟨h0, h1, h2, _⟩ | ⟨h0, h1, h2, _⟩ | ⟨h0, h1, h2, h3, _⟩ | ⟨h0, h1, _⟩ | ⟨h0, h1, h2, _⟩
  · rw [if_pos h0] at hn
    have := parentsP_iff.1 h1
    simp only [List.mem_cons, List.not_mem_nil, or_false] at hn
    rcases hn with rfl | rfl | rfl | rfl <;> omega
  · rw [if_neg (by omega), if_pos h0] at hn
    simp only [List.mem_cons, List.not_mem_nil, or_false] at hn
    rcases hn with rfl | rfl <;> omega
  · rw [if_neg (by omega), if_neg (by omega), if_pos h0] at hn
    simp only [List.mem_cons, List.not_mem_nil, or_false] at hn
    rcases hn with rfl | rfl <;> omega
  · rw [if_neg (by omega), if_neg (by omega), if_neg (by omega), if_pos h0] at hn
    simp only [List.mem_cons, List.not_mem_nil, or_false] at hn
    rcases hn with rfl | rfl | rfl <;> omega
  · rw [if_neg (by omega), if_neg (by omega), if_neg (by omega), if_neg (by omega), if_pos h0] at hn
    simp only [List.mem_cons, List.not_mem_nil, or_false] at hn
    subst hn; omega
  · rw [if_neg (by omega), if_neg (by omega), if_neg (by omega), if_neg (by omega), if_neg (by omega)] at hn
    simp only [List.mem_cons, List.not_mem_nil, or_false] at hn
    rcases hn with rfl | rfl <;> omega
attribute [local irreducible] aops aexec acall aiter aop W WO

variable {xf : ExtF} {gf : CallF}

theorem ref_Dump_l0 (k : Nat) (hk : 1000 ≤ k) {fuel : Nat} (hk2 : 100 ≤ fuel) {T : Tmps} {H : Heap} {j g : Nat} {ns : List Int} {w : List UInt8} {v4 v6 v8 : AV} (hl : ns.length ≤ 4) (hw : w.length ≤ 900000000) (hns : ∀ n ∈ ns, 0 ≤ n ∧ n ≤ 9223372036854775807) (hH : H j = ⟨g, false, .row 1 (IL ns)⟩)
    (hT : Has T [(4, v4), (6, v6), (7, strV w), (8, v8), (10, .slc j g ns.length 1 0 ns.length none), (11, .int .i64 0)]) :
    W (aexec (acall B xf gf (k + 1)) xf 0 fuel (.loop ref18_Dump_l0) T H) (fun ex T' H' => ex = .exit 3 ∧ Has T' [(4, v4), (6, v6), (7, strV (w ++ spaced ns)), (8, v8)]) := by
  refine w_for ns.length (fun i T' H' => H' j = ⟨g, false, .row 1 (IL ns)⟩ ∧ Has T' [(4, v4), (6, v6), (7, strV (w ++ spaced (ns.take i))), (8, v8), (10, .slc j g ns.length 1 0 ns.length none), (11, .int .i64 (i : Nat))]) ⟨hH, by simpa [spaced] using hT⟩ (by omega) ?_
  rintro i T H hi ⟨hH, hT⟩
  rw [hT.eq]
  simp only [over]
  unfold ref18_Dump_l0
  have hsl := spaced_len (ns.take i)
  rw [List.length_take] at hsl
  by_cases hil : i < ns.length
  · obtain ⟨n, hn⟩ : ∃ n, n = ns[i] := ⟨_, rfl⟩
    have hnr : 0 ≤ n ∧ n ≤ 9223372036854775807 := by rw [hn]; exact hns _ (List.getElem_mem hil)
    have hI := e_ref_digits (xf := xf) (gf := gf) k hk n.toNat (by omega)
    rw [← itoa_dec hnr.1, show ((n.toNat : Nat) : Int) = n by omega] at hI
    have hil2 := itoaF_len n
    have hQi : (IL ns)[0 + (i : Int).toNat]? = some (.int .i64 n) := by
      simp only [IL, Nat.zero_add, Int.toNat_natCast, List.getElem?_map, List.getElem?_eq_getElem hil, Option.map_some, hn]
    have hts : spaced (ns.take (i + 1)) = spaced (ns.take i) ++ ([32] ++ itoaF n) := by
      rw [List.take_succ_eq_append_getElem hil, ← hn]
      simp [spaced]
    repeat' (first
     | refine q_s ?_ | refine q_z ?_ | refine q_b ?_ | refine q_lenS (len := ns.length) ?_ | refine wo_atR rfl rfl (by exact hH) (by simp) (by omega) (by omega) (by omega) rfl rfl ?_
      | refine wo_loadE rfl (by exact hH) (by simp) hQi rfl rfl rfl ?_ | refine q_call hI ?_ | refine wo_sadd (a := w ++ spaced (ns.take i)) (b := [32]) rfl rfl (by simp; omega) rfl rfl ?_
      | refine wo_sadd (a := (w ++ spaced (ns.take i)) ++ [32]) (b := itoaF n) rfl rfl (by simp; omega) rfl rfl ?_ | refine q_mv ?_ | refine q_load ?_ | refine q_loadI ?_ | refine q_loadR ?_
      | refine q_cmp ?_ | refine q_cmp2 (fun _ => ?_) (fun _ => ?_) | refine q_add ?_ | refine q_len ?_ | refine q_lenS ?_ | refine q_len0 ?_ | refine q_at ?_)
    exact ⟨hil, hH, rfl, rfl, by rw [hts, ← List.append_assoc w, ← List.append_assoc (w ++ _)]; rfl, rfl, rfl, by show AV.int _ _ = AV.int _ _; congr 1, trivial⟩
  · have hin : i = ns.length := by omega
    repeat' (first
     | refine q_s ?_ | refine q_z ?_ | refine q_b ?_ | refine q_lenS (len := ns.length) ?_ | refine q_mv ?_ | refine q_load ?_ | refine q_loadI ?_ | refine q_loadR ?_ | refine q_cmp ?_
      | refine q_cmp2 (fun _ => ?_) (fun _ => ?_) | refine q_add ?_ | refine q_len ?_ | refine q_lenS ?_ | refine q_len0 ?_ | refine q_at ?_)
    rw [hin, List.take_length]
    exact ⟨rfl, rfl, rfl, rfl, rfl, trivial⟩

theorem ref_Dump_l1 (k : Nat) (hk : 1000 ≤ k) {fuel : Nat} (hk2 : 1000000 ≤ fuel) {T : Tmps} {H : Heap} {l : List CV} {v6 : AV} (hl : l.length < 900000) (hc : ∀ x ∈ l, chkP x.c) (hT : Has T [(4, .islc false false 9 (l.map CV.av)), (6, v6), (7, strV []), (8, .int .i64 0)]) :
    W (aexec (acall B xf gf (k + 1)) xf 0 fuel (.loop ref18_Dump_l1) T H) (fun ex T' H' => ex = .exit 0 ∧ Has T' [(6, v6), (7, strV (rowsL l).flatten)]) := by
  refine w_for l.length (fun i T' H' => Has T' [(4, .islc false false 9 (l.map CV.av)), (6, v6), (7, strV (rowsL (l.take i)).flatten), (8, .int .i64 (i : Nat))]) hT (by omega) ?_
  rintro i T H hi hT
  rw [hT.eq]
  simp only [over]
  unfold ref18_Dump_l1
  have hll : (l.map CV.av).length = l.length := List.length_map _
  by_cases hil : i < l.length
  · obtain ⟨x, hx⟩ : ∃ x, x = l[i] := ⟨_, rfl⟩
    have hch := hc _ (List.getElem_mem hil)
    rw [← hx] at hch
    have he2 : (l.map CV.av)[(i : Int).toNat]? = some x.av := by
      rw [Int.toNat_natCast, List.getElem?_map, List.getElem?_eq_getElem hil, ← hx]; rfl
    have hts : (rowsL (l.take (i + 1))).flatten = (rowsL (l.take i)).flatten ++ rowB x.c := by
      rw [List.take_succ_eq_append_getElem hil, ← hx]
      simp [rowsL]
    have hfl := flatten_le (n := 100) (ls := rowsL (l.take i)) fun y hy => by
      obtain ⟨z, _, rfl⟩ := List.mem_map.1 hy
      exact rowB_len _
    have hrl : (rowsL (l.take i)).length = i := by simp [rowsL, List.length_take]; omega
    obtain ⟨S, hS⟩ : ∃ S, S = (rowsL (l.take i)).flatten := ⟨_, rfl⟩
    rw [← hS] at hts hfl ⊢
    rw [hrl] at hfl
    have hnr := nums_small hch
    have hkd := chk_kind hch
    obtain ⟨⟨kd, id, pa, sz, fr, cn, so, dg, da⟩, fl, s⟩ := x
    simp only at hkd hnr hts
    have hcase : kd = 1 ∨ kd = 2 ∨ kd = 3 ∨ kd = 4 ∨ kd = 5 ∨ kd = 6 := by omega
    have hav : CV.av ⟨⟨kd, id, pa, sz, fr, cn, so, dg, da⟩, fl, s⟩ = .agg [.int .i64 kd, .int .i64 id, .int .i64 pa, .int .i64 sz, .int .i64 fr, .int .i64 cn, .int .i64 so, .int .i64 dg, .islc false fl s (BL da)] := rfl
    rw [hav] at he2
    have hdl := (chk_small hch).1
    simp only at hdl
    rcases hcase with rfl | rfl | rfl | rfl | rfl | rfl
    · have hw : S ++ [98, 101, 103, 105, 110] ++ spaced [id, pa, sz, cn] ++ [10] = (rowsL (l.take (i + 1))).flatten := by rw [hts]; show _ = S ++ ([98, 101, 103, 105, 110] ++ spaced [id, pa, sz, cn] ++ [10]); simp only [List.append_assoc]
      have hsl := spaced_len [id, pa, sz, cn]
      simp only [List.length_cons, List.length_nil] at hsl
      repeat' (first
       | refine q_s ?_ | refine q_z ?_ | refine q_b ?_ | refine wo_lenG (n := l.length) rfl hll rfl rfl ?_ | refine wo_lenG (n := da.length) rfl (by simp) rfl rfl ?_
        | refine wo_atG rfl rfl (by omega) he2 rfl rfl ?_ | refine wo_sadd (a := S) (b := [98, 101, 103, 105, 110]) rfl rfl (by simp only [List.length_cons, List.length_nil]; omega) rfl rfl ?_
        | refine q_mv ?_ | refine q_faddr ?_ | refine q_load ?_ | refine q_loadI ?_ | refine q_loadR ?_ | refine q_cmp ?_ | refine q_cmp2 (fun _ => ?_) (fun _ => ?_) | refine q_add ?_
        | refine q_quo ?_ | refine q_bin ?_ | refine q_len ?_ | refine q_lenS ?_ | refine q_len0 ?_ | refine q_store ?_ | refine q_storeR ?_ | refine q_box ?_ | refine q_at ?_
        | refine q_buildS ?_)
      refine W.mono (ref_Dump_l0 (xf := xf) (gf := gf) k hk (by omega) (j := 1) (g := (H 1).gen + 1) (v4 := .islc false false 9 (l.map CV.av)) (v6 := v6) (v8 := .int .i64 (i : Nat)) (ns := [id, pa, sz, cn]) (w := S ++ [98, 101, 103, 105, 110]) (by simp) (by simp only [List.length_append, List.length_cons, List.length_nil]; omega) (fun n hn => hnr n hn) ?_ ?_) ?_
      · rfl
      · exact ⟨rfl, rfl, rfl, rfl, rfl, rfl, trivial⟩
      rintro ex T2 H2 ⟨rfl, hT2⟩
      rw [hT2.eq]
      simp only [over]
      show W _ _
      repeat' (first
       | refine q_s ?_ | refine q_z ?_ | refine q_b ?_
        | refine wo_sadd (a := S ++ [98, 101, 103, 105, 110] ++ spaced [id, pa, sz, cn]) (b := [10]) rfl rfl (by simp only [List.length_append, List.length_cons, List.length_nil]; omega) rfl rfl ?_
        | refine q_mv ?_ | refine q_faddr ?_ | refine q_load ?_ | refine q_loadI ?_ | refine q_loadR ?_ | refine q_cmp ?_ | refine q_cmp2 (fun _ => ?_) (fun _ => ?_) | refine q_add ?_
        | refine q_quo ?_ | refine q_bin ?_ | refine q_len ?_ | refine q_lenS ?_ | refine q_len0 ?_ | refine q_store ?_ | refine q_storeR ?_ | refine q_box ?_ | refine q_at ?_
        | refine q_buildS ?_)
      rw [hw]
      exact ⟨hil, rfl, rfl, rfl, by show AV.int _ _ = AV.int _ _; congr 1, trivial⟩
    · have hw : S ++ [119, 114, 105, 116, 101] ++ spaced [fr, (da.length / 64 : Int)] ++ [10] = (rowsL (l.take (i + 1))).flatten := by rw [hts]; show _ = S ++ ([119, 114, 105, 116, 101] ++ spaced [fr, (da.length / 64 : Int)] ++ [10]); simp only [List.append_assoc]
      have hsl := spaced_len [fr, (da.length / 64 : Int)]
      simp only [List.length_cons, List.length_nil] at hsl
      repeat' (first
       | refine q_s ?_ | refine q_z ?_ | refine q_b ?_ | refine wo_lenG (n := l.length) rfl hll rfl rfl ?_ | refine wo_lenG (n := da.length) rfl (by simp) rfl rfl ?_
        | refine wo_atG rfl rfl (by omega) he2 rfl rfl ?_ | refine wo_sadd (a := S) (b := [119, 114, 105, 116, 101]) rfl rfl (by simp only [List.length_cons, List.length_nil]; omega) rfl rfl ?_
        | refine q_mv ?_ | refine q_faddr ?_ | refine q_load ?_ | refine q_loadI ?_ | refine q_loadR ?_ | refine q_cmp ?_ | refine q_cmp2 (fun _ => ?_) (fun _ => ?_) | refine q_add ?_
        | refine q_quo ?_ | refine q_bin ?_ | refine q_len ?_ | refine q_lenS ?_ | refine q_len0 ?_ | refine q_store ?_ | refine q_storeR ?_ | refine q_box ?_ | refine q_at ?_
        | refine q_buildS ?_)
      refine W.mono (ref_Dump_l0 (xf := xf) (gf := gf) k hk (by omega) (j := 2) (g := (H 2).gen + 1) (v4 := .islc false false 9 (l.map CV.av)) (v6 := v6) (v8 := .int .i64 (i : Nat)) (ns := [fr, (da.length / 64 : Int)]) (w := S ++ [119, 114, 105, 116, 101]) (by simp) (by simp only [List.length_append, List.length_cons, List.length_nil]; omega) (fun n hn => hnr n hn) ?_ ?_) ?_
      · rfl
      · exact ⟨rfl, rfl, rfl, rfl, rfl, rfl, trivial⟩
      rintro ex T2 H2 ⟨rfl, hT2⟩
      rw [hT2.eq]
      simp only [over]
      show W _ _
      repeat' (first
       | refine q_s ?_ | refine q_z ?_ | refine q_b ?_
        | refine wo_sadd (a := S ++ [119, 114, 105, 116, 101] ++ spaced [fr, (da.length / 64 : Int)]) (b := [10]) rfl rfl (by simp only [List.length_append, List.length_cons, List.length_nil]; omega) rfl rfl ?_
        | refine q_mv ?_ | refine q_faddr ?_ | refine q_load ?_ | refine q_loadI ?_ | refine q_loadR ?_ | refine q_cmp ?_ | refine q_cmp2 (fun _ => ?_) (fun _ => ?_) | refine q_add ?_
        | refine q_quo ?_ | refine q_bin ?_ | refine q_len ?_ | refine q_lenS ?_ | refine q_len0 ?_ | refine q_store ?_ | refine q_storeR ?_ | refine q_box ?_ | refine q_at ?_
        | refine q_buildS ?_)
      rw [hw]
      exact ⟨hil, rfl, rfl, rfl, by show AV.int _ _ = AV.int _ _; congr 1, trivial⟩
    · have hw : S ++ [122, 101, 114, 111] ++ spaced [fr, cn] ++ [10] = (rowsL (l.take (i + 1))).flatten := by rw [hts]; show _ = S ++ ([122, 101, 114, 111] ++ spaced [fr, cn] ++ [10]); simp only [List.append_assoc]
      have hsl := spaced_len [fr, cn]
      simp only [List.length_cons, List.length_nil] at hsl
      repeat' (first
       | refine q_s ?_ | refine q_z ?_ | refine q_b ?_ | refine wo_lenG (n := l.length) rfl hll rfl rfl ?_ | refine wo_lenG (n := da.length) rfl (by simp) rfl rfl ?_
        | refine wo_atG rfl rfl (by omega) he2 rfl rfl ?_ | refine wo_sadd (a := S) (b := [122, 101, 114, 111]) rfl rfl (by simp only [List.length_cons, List.length_nil]; omega) rfl rfl ?_
        | refine q_mv ?_ | refine q_faddr ?_ | refine q_load ?_ | refine q_loadI ?_ | refine q_loadR ?_ | refine q_cmp ?_ | refine q_cmp2 (fun _ => ?_) (fun _ => ?_) | refine q_add ?_
        | refine q_quo ?_ | refine q_bin ?_ | refine q_len ?_ | refine q_lenS ?_ | refine q_len0 ?_ | refine q_store ?_ | refine q_storeR ?_ | refine q_box ?_ | refine q_at ?_
        | refine q_buildS ?_)
      refine W.mono (ref_Dump_l0 (xf := xf) (gf := gf) k hk (by omega) (j := 3) (g := (H 3).gen + 1) (v4 := .islc false false 9 (l.map CV.av)) (v6 := v6) (v8 := .int .i64 (i : Nat)) (ns := [fr, cn]) (w := S ++ [122, 101, 114, 111]) (by simp) (by simp only [List.length_append, List.length_cons, List.length_nil]; omega) (fun n hn => hnr n hn) ?_ ?_) ?_
      · rfl
      · exact ⟨rfl, rfl, rfl, rfl, rfl, rfl, trivial⟩
      rintro ex T2 H2 ⟨rfl, hT2⟩
      rw [hT2.eq]
      simp only [over]
      show W _ _
      repeat' (first
       | refine q_s ?_ | refine q_z ?_ | refine q_b ?_
        | refine wo_sadd (a := S ++ [122, 101, 114, 111] ++ spaced [fr, cn]) (b := [10]) rfl rfl (by simp only [List.length_append, List.length_cons, List.length_nil]; omega) rfl rfl ?_
        | refine q_mv ?_ | refine q_faddr ?_ | refine q_load ?_ | refine q_loadI ?_ | refine q_loadR ?_ | refine q_cmp ?_ | refine q_cmp2 (fun _ => ?_) (fun _ => ?_) | refine q_add ?_
        | refine q_quo ?_ | refine q_bin ?_ | refine q_len ?_ | refine q_lenS ?_ | refine q_len0 ?_ | refine q_store ?_ | refine q_storeR ?_ | refine q_box ?_ | refine q_at ?_
        | refine q_buildS ?_)
      rw [hw]
      exact ⟨hil, rfl, rfl, rfl, by show AV.int _ _ = AV.int _ _; congr 1, trivial⟩
    · have hw : S ++ [99, 108, 111, 110, 101] ++ spaced [fr, cn, so] ++ [10] = (rowsL (l.take (i + 1))).flatten := by rw [hts]; show _ = S ++ ([99, 108, 111, 110, 101] ++ spaced [fr, cn, so] ++ [10]); simp only [List.append_assoc]
      have hsl := spaced_len [fr, cn, so]
      simp only [List.length_cons, List.length_nil] at hsl
      repeat' (first
       | refine q_s ?_ | refine q_z ?_ | refine q_b ?_ | refine wo_lenG (n := l.length) rfl hll rfl rfl ?_ | refine wo_lenG (n := da.length) rfl (by simp) rfl rfl ?_
        | refine wo_atG rfl rfl (by omega) he2 rfl rfl ?_ | refine wo_sadd (a := S) (b := [99, 108, 111, 110, 101]) rfl rfl (by simp only [List.length_cons, List.length_nil]; omega) rfl rfl ?_
        | refine q_mv ?_ | refine q_faddr ?_ | refine q_load ?_ | refine q_loadI ?_ | refine q_loadR ?_ | refine q_cmp ?_ | refine q_cmp2 (fun _ => ?_) (fun _ => ?_) | refine q_add ?_
        | refine q_quo ?_ | refine q_bin ?_ | refine q_len ?_ | refine q_lenS ?_ | refine q_len0 ?_ | refine q_store ?_ | refine q_storeR ?_ | refine q_box ?_ | refine q_at ?_
        | refine q_buildS ?_)
      refine W.mono (ref_Dump_l0 (xf := xf) (gf := gf) k hk (by omega) (j := 4) (g := (H 4).gen + 1) (v4 := .islc false false 9 (l.map CV.av)) (v6 := v6) (v8 := .int .i64 (i : Nat)) (ns := [fr, cn, so]) (w := S ++ [99, 108, 111, 110, 101]) (by simp) (by simp only [List.length_append, List.length_cons, List.length_nil]; omega) (fun n hn => hnr n hn) ?_ ?_) ?_
      · rfl
      · exact ⟨rfl, rfl, rfl, rfl, rfl, rfl, trivial⟩
      rintro ex T2 H2 ⟨rfl, hT2⟩
      rw [hT2.eq]
      simp only [over]
      show W _ _
      repeat' (first
       | refine q_s ?_ | refine q_z ?_ | refine q_b ?_
        | refine wo_sadd (a := S ++ [99, 108, 111, 110, 101] ++ spaced [fr, cn, so]) (b := [10]) rfl rfl (by simp only [List.length_append, List.length_cons, List.length_nil]; omega) rfl rfl ?_
        | refine q_mv ?_ | refine q_faddr ?_ | refine q_load ?_ | refine q_loadI ?_ | refine q_loadR ?_ | refine q_cmp ?_ | refine q_cmp2 (fun _ => ?_) (fun _ => ?_) | refine q_add ?_
        | refine q_quo ?_ | refine q_bin ?_ | refine q_len ?_ | refine q_lenS ?_ | refine q_len0 ?_ | refine q_store ?_ | refine q_storeR ?_ | refine q_box ?_ | refine q_at ?_
        | refine q_buildS ?_)
      rw [hw]
      exact ⟨hil, rfl, rfl, rfl, by show AV.int _ _ = AV.int _ _; congr 1, trivial⟩
    · have hw : S ++ [114, 101, 115, 105, 122, 101] ++ spaced [sz] ++ [10] = (rowsL (l.take (i + 1))).flatten := by rw [hts]; show _ = S ++ ([114, 101, 115, 105, 122, 101] ++ spaced [sz] ++ [10]); simp only [List.append_assoc]
      have hsl := spaced_len [sz]
      simp only [List.length_cons, List.length_nil] at hsl
      repeat' (first
       | refine q_s ?_ | refine q_z ?_ | refine q_b ?_ | refine wo_lenG (n := l.length) rfl hll rfl rfl ?_ | refine wo_lenG (n := da.length) rfl (by simp) rfl rfl ?_
        | refine wo_atG rfl rfl (by omega) he2 rfl rfl ?_
        | refine wo_sadd (a := S) (b := [114, 101, 115, 105, 122, 101]) rfl rfl (by simp only [List.length_cons, List.length_nil]; omega) rfl rfl ?_ | refine q_mv ?_ | refine q_faddr ?_
        | refine q_load ?_ | refine q_loadI ?_ | refine q_loadR ?_ | refine q_cmp ?_ | refine q_cmp2 (fun _ => ?_) (fun _ => ?_) | refine q_add ?_ | refine q_quo ?_ | refine q_bin ?_
        | refine q_len ?_ | refine q_lenS ?_ | refine q_len0 ?_ | refine q_store ?_ | refine q_storeR ?_ | refine q_box ?_ | refine q_at ?_ | refine q_buildS ?_)
      refine W.mono (ref_Dump_l0 (xf := xf) (gf := gf) k hk (by omega) (j := 5) (g := (H 5).gen + 1) (v4 := .islc false false 9 (l.map CV.av)) (v6 := v6) (v8 := .int .i64 (i : Nat)) (ns := [sz]) (w := S ++ [114, 101, 115, 105, 122, 101]) (by simp) (by simp only [List.length_append, List.length_cons, List.length_nil]; omega) (fun n hn => hnr n hn) ?_ ?_) ?_
      · rfl
      · exact ⟨rfl, rfl, rfl, rfl, rfl, rfl, trivial⟩
      rintro ex T2 H2 ⟨rfl, hT2⟩
      rw [hT2.eq]
      simp only [over]
      show W _ _
      repeat' (first
       | refine q_s ?_ | refine q_z ?_ | refine q_b ?_
        | refine wo_sadd (a := S ++ [114, 101, 115, 105, 122, 101] ++ spaced [sz]) (b := [10]) rfl rfl (by simp only [List.length_append, List.length_cons, List.length_nil]; omega) rfl rfl ?_
        | refine q_mv ?_ | refine q_faddr ?_ | refine q_load ?_ | refine q_loadI ?_ | refine q_loadR ?_ | refine q_cmp ?_ | refine q_cmp2 (fun _ => ?_) (fun _ => ?_) | refine q_add ?_
        | refine q_quo ?_ | refine q_bin ?_ | refine q_len ?_ | refine q_lenS ?_ | refine q_len0 ?_ | refine q_store ?_ | refine q_storeR ?_ | refine q_box ?_ | refine q_at ?_
        | refine q_buildS ?_)
      rw [hw]
      exact ⟨hil, rfl, rfl, rfl, by show AV.int _ _ = AV.int _ _; congr 1, trivial⟩
    · have hw : S ++ [101, 110, 100] ++ spaced [cn, dg] ++ [10] = (rowsL (l.take (i + 1))).flatten := by rw [hts]; show _ = S ++ ([101, 110, 100] ++ spaced [cn, dg] ++ [10]); simp only [List.append_assoc]
      have hsl := spaced_len [cn, dg]
      simp only [List.length_cons, List.length_nil] at hsl
      repeat' (first
       | refine q_s ?_ | refine q_z ?_ | refine q_b ?_ | refine wo_lenG (n := l.length) rfl hll rfl rfl ?_ | refine wo_lenG (n := da.length) rfl (by simp) rfl rfl ?_
        | refine wo_atG rfl rfl (by omega) he2 rfl rfl ?_ | refine wo_sadd (a := S) (b := [101, 110, 100]) rfl rfl (by simp only [List.length_cons, List.length_nil]; omega) rfl rfl ?_
        | refine q_mv ?_ | refine q_faddr ?_ | refine q_load ?_ | refine q_loadI ?_ | refine q_loadR ?_ | refine q_cmp ?_ | refine q_cmp2 (fun _ => ?_) (fun _ => ?_) | refine q_add ?_
        | refine q_quo ?_ | refine q_bin ?_ | refine q_len ?_ | refine q_lenS ?_ | refine q_len0 ?_ | refine q_store ?_ | refine q_storeR ?_ | refine q_box ?_ | refine q_at ?_
        | refine q_buildS ?_)
      refine W.mono (ref_Dump_l0 (xf := xf) (gf := gf) k hk (by omega) (j := 6) (g := (H 6).gen + 1) (v4 := .islc false false 9 (l.map CV.av)) (v6 := v6) (v8 := .int .i64 (i : Nat)) (ns := [cn, dg]) (w := S ++ [101, 110, 100]) (by simp) (by simp only [List.length_append, List.length_cons, List.length_nil]; omega) (fun n hn => hnr n hn) ?_ ?_) ?_
      · rfl
      · exact ⟨rfl, rfl, rfl, rfl, rfl, rfl, trivial⟩
      rintro ex T2 H2 ⟨rfl, hT2⟩
      rw [hT2.eq]
      simp only [over]
      show W _ _
      repeat' (first
       | refine q_s ?_ | refine q_z ?_ | refine q_b ?_
        | refine wo_sadd (a := S ++ [101, 110, 100] ++ spaced [cn, dg]) (b := [10]) rfl rfl (by simp only [List.length_append, List.length_cons, List.length_nil]; omega) rfl rfl ?_
        | refine q_mv ?_ | refine q_faddr ?_ | refine q_load ?_ | refine q_loadI ?_ | refine q_loadR ?_ | refine q_cmp ?_ | refine q_cmp2 (fun _ => ?_) (fun _ => ?_) | refine q_add ?_
        | refine q_quo ?_ | refine q_bin ?_ | refine q_len ?_ | refine q_lenS ?_ | refine q_len0 ?_ | refine q_store ?_ | refine q_storeR ?_ | refine q_box ?_ | refine q_at ?_
        | refine q_buildS ?_)
      rw [hw]
      exact ⟨hil, rfl, rfl, rfl, by show AV.int _ _ = AV.int _ _; congr 1, trivial⟩
  · have hin : i = l.length := by omega
    repeat' (first
     | refine q_s ?_ | refine q_z ?_ | refine q_b ?_ | refine wo_lenG (n := l.length) rfl hll rfl rfl ?_ | refine q_mv ?_ | refine q_faddr ?_ | refine q_load ?_ | refine q_loadI ?_
      | refine q_loadR ?_ | refine q_cmp ?_ | refine q_cmp2 (fun _ => ?_) (fun _ => ?_) | refine q_add ?_ | refine q_quo ?_ | refine q_bin ?_ | refine q_len ?_ | refine q_lenS ?_
      | refine q_len0 ?_ | refine q_store ?_ | refine q_storeR ?_ | refine q_box ?_ | refine q_at ?_ | refine q_buildS ?_)
    rw [hin, List.take_length]
    exact ⟨rfl, rfl, rfl, trivial⟩

theorem e_ref_Dump (k : Nat) (hk : 1000000 ≤ k) (t f : Bool) (b : List UInt8) (hb : b.length < 900000) : FnV (acall B xf gf (k + 7)) n_ref18_Dump [.islc t f 1 (BL b)] (.tup [strV (dumpL b).flatten, .int .i64 0]) := by
  have hp := e_ref_ParseStream (xf := xf) (gf := gf) k hk t f b hb
  obtain ⟨⟨hf1, hf2⟩, hf3⟩ := parseS_fit b hb
  have her : 0 ≤ (parseS b).2.2 ∧ (parseS b).2.2 ≤ 16 := goS_err _ _ _ _
  have hdl : dumpL b = rowsL (parseS b).1.l ++ (if (parseS b).2.2 = 0 then [] else [[101, 114, 114, 111, 114, 32] ++ itoaF (parseS b).2.2 ++ [10]]) := rfl
  rw [hdl]
  obtain ⟨e, hed⟩ : ∃ e, e = (parseS b).2.2 := ⟨_, rfl⟩
  obtain ⟨l, hld⟩ : ∃ l, l = (parseS b).1.l := ⟨_, rfl⟩
  clear hf2 hdl
  rw [← hed] at hp her ⊢
  rw [← hld] at hp hf1 hf3 ⊢
  have hrn : (rowsL l).length = l.length := by simp [rowsL]
  have hfl := flatten_le (n := 100) (ls := rowsL l) fun x hx => by
    obtain ⟨y, _, rfl⟩ := List.mem_map.1 hx
    exact rowB_len _
  have hI := e_ref_digits (xf := xf) (gf := gf) (k + 5) (by omega) e.toNat (by omega)
  rw [← itoa_dec her.1, show ((e.toNat : Nat) : Int) = e by omega] at hI
  have hil := itoaF_len e
  refine fn_of B_ref18_Dump rfl ?_
  unfold ref18_Dump
  repeat' (first
   | refine q_s ?_ | refine q_z ?_ | refine q_b ?_ | refine q_call hp ?_ | refine q_mv ?_ | refine q_faddr ?_ | refine q_load ?_ | refine q_loadI ?_ | refine q_loadR ?_ | refine q_cmp ?_
    | refine q_cmp2 (fun _ => ?_) (fun _ => ?_) | refine q_add ?_ | refine q_quo ?_ | refine q_bin ?_ | refine q_len ?_ | refine q_lenS ?_ | refine q_len0 ?_ | refine q_ex ?_
    | refine q_store ?_ | refine q_storeR ?_ | refine q_box ?_ | refine q_at ?_ | refine q_buildS ?_)
  refine W.mono (ref_Dump_l1 (xf := xf) (gf := gf) (k + 5) (by omega) (fuel := k + 6) (by omega) (l := l) (v6 := .int .i64 e) (by omega) (fun x hx => (hf1 x hx).2) ?_) ?_
  · exact ⟨rfl, rfl, rfl, rfl, trivial⟩
  rintro ex T2 H2 ⟨rfl, hT⟩
  rw [hT.eq]
  simp only [over]
  show W _ _
  by_cases he0 : e = 0
  · rw [if_pos he0, List.append_nil]
    repeat' (first
     | refine q_s ?_ | refine q_z ?_ | refine q_b ?_ | refine q_mv ?_ | refine q_faddr ?_ | refine q_load ?_ | refine q_loadI ?_ | refine q_loadR ?_ | refine q_cmp ?_
      | refine q_cmp2 (fun _ => ?_) (fun _ => ?_) | refine q_add ?_ | refine q_quo ?_ | refine q_bin ?_ | refine q_len ?_ | refine q_lenS ?_ | refine q_len0 ?_ | refine q_ex ?_
      | refine q_store ?_ | refine q_storeR ?_ | refine q_box ?_ | refine q_at ?_ | refine q_buildS ?_)
    exact ⟨Or.inr rfl, _, rfl, rfl⟩
  · rw [if_neg he0]
    have hfin : (rowsL l).flatten ++ [101, 114, 114, 111, 114, 32] ++ itoaF e ++ [10] = (rowsL l ++ [[101, 114, 114, 111, 114, 32] ++ itoaF e ++ [10]]).flatten := by
      simp
    repeat' (first
     | refine q_s ?_ | refine q_z ?_ | refine q_b ?_ | refine q_call hI ?_
      | refine wo_sadd (a := (rowsL l).flatten) (b := [101, 114, 114, 111, 114, 32]) rfl rfl (by simp only [List.length_append, List.length_cons, List.length_nil]; omega) rfl rfl ?_
      | refine wo_sadd (a := (rowsL l).flatten ++ [101, 114, 114, 111, 114, 32]) (b := itoaF e) rfl rfl (by simp only [List.length_append, List.length_cons, List.length_nil]; omega) rfl rfl ?_
      | refine wo_sadd (a := (rowsL l).flatten ++ [101, 114, 114, 111, 114, 32] ++ itoaF e) (b := [10]) rfl rfl (by simp only [List.length_append, List.length_cons, List.length_nil]; omega) rfl rfl ?_
      | refine q_mv ?_ | refine q_faddr ?_ | refine q_load ?_ | refine q_loadI ?_ | refine q_loadR ?_ | refine q_cmp ?_ | refine q_cmp2 (fun _ => ?_) (fun _ => ?_) | refine q_add ?_
      | refine q_quo ?_ | refine q_bin ?_ | refine q_len ?_ | refine q_lenS ?_ | refine q_len0 ?_ | refine q_ex ?_ | refine q_store ?_ | refine q_storeR ?_ | refine q_box ?_ | refine q_at ?_
      | refine q_buildS ?_)
    rw [hfin]
    exact ⟨Or.inr rfl, _, rfl, rfl⟩

end Go.Proofs.YtnakicjkolpacaaDoor
