/- What the functions answer: a stream's lines. -/
import Derived.Test.YtnakicjkolpacaaDoorS36
set_option linter.unusedSimpArgs false
set_option linter.unusedVariables false
set_option maxRecDepth 10000
set_option maxHeartbeats 16000000
namespace Go.Proofs.YtnakicjkolpacaaDoor
open Go.AI

theorem decF_len : ∀ (k u : Nat), (decF k u).length ≤ k
  | 0, u => by simp [decF]
  | k + 1, u => by
    unfold decF
    split
    · simp
    · have := decF_len k (u / 10)
      simp; omega
theorem itoaF_len (n : Int) : (itoaF n).length ≤ 21 := by
  unfold itoaF
  split
  · have := decF_len 20 n.natAbs
    simp; omega
  · have := decF_len 20 n.toNat
    omega

attribute [local irreducible] aops aexec acall aiter aop W WO

variable {xf : ExtF}

theorem e_Itoa (k : Nat) (n : Int) (hn : -9223372036854775808 ≤ n ∧ n ≤ 9223372036854775807) : FnV (acall B xf cloneF (k + 1)) n_strconv_Itoa [.int .i64 n] (strV (itoaF n)) := by
  refine ⟨strV (itoaF n), Heap.none, ?_, rfl⟩
  have hB : B n_strconv_Itoa = none := rfl
  unfold acall
  rw [hB]
  show cloneF n_strconv_Itoa 0 [.int .i64 n] Heap.none = _
  unfold cloneF
  rw [if_neg (by decide)]
  unfold libF
  rw [if_pos rfl]
  show (if _ then _ else _) = _
  rw [if_pos hn]
  rfl

def wordOf (k : Int) : List UInt8 := if k = 1 then [98, 101, 103, 105, 110] else if k = 2 then [119, 114, 105, 116, 101] else if k = 3 then [122, 101, 114, 111] else if k = 4 then [99, 108, 111, 110, 101] else if k = 5 then [114, 101, 115, 105, 122, 101] else [101, 110, 100]
def numsOf (c : Cmd) : List Int := if c.kind = 1 then [c.id, c.parent, c.size, c.count] else if c.kind = 2 then [c.frm, (c.data.length / 64 : Int)] else if c.kind = 3 then [c.frm, c.count] else if c.kind = 4 then [c.frm, c.count, c.source] else if c.kind = 5 then [c.size] else [c.count, c.digest]
def spaced (ns : List Int) : List UInt8 := ns.flatMap fun n => [32] ++ itoaF n
def rowB (c : Cmd) : List UInt8 := wordOf c.kind ++ spaced (numsOf c) ++ [10]
theorem spaced_len : ∀ ns : List Int, (spaced ns).length ≤ 22 * ns.length
  | [] => by simp [spaced]
  | n :: ns => by
    have h1 := spaced_len ns
    have h2 := itoaF_len n
    simp only [spaced, List.flatMap_cons, List.length_append, List.length_cons, List.length_nil] at h1 ⊢
    omega
theorem rowB_len (c : Cmd) : (rowB c).length ≤ 100 := by
  have h1 : (wordOf c.kind).length ≤ 6 := by unfold wordOf; (repeat' split) <;> decide
  have h2 := spaced_len (numsOf c)
  have h3 : (numsOf c).length ≤ 4 := by unfold numsOf; (repeat' split) <;> simp only [List.length_cons, List.length_nil] <;> omega
  simp only [rowB, List.length_append, List.length_cons, List.length_nil]
  omega

theorem row_loop (k : Nat) {fuel : Nat} {T : Tmps} {H : Heap} {j g : Nat} {ns : List Int} {w : List UInt8} (hk2 : 100 ≤ fuel) (hl : ns.length ≤ 4) (hw : w.length ≤ 10) (hns : ∀ n ∈ ns, -9223372036854775808 ≤ n ∧ n ≤ 9223372036854775807) (hH : H j = ⟨g, false, .row 1 (IL ns)⟩)
    (hT : Has T [(3, strV w), (53, .slc j g ns.length 1 0 ns.length none), (54, .int .i64 ns.length), (55, .int .i64 0)]) :
    W (aexec (acall B xf cloneF (k + 1)) xf 0 fuel (.loop stream_row_l0) T H) (fun ex T' H' => ex = .exit 0 ∧ T' 3 = strV (w ++ spaced ns)) := by
  refine w_for ns.length (fun i T' H' => H' j = ⟨g, false, .row 1 (IL ns)⟩ ∧ Has T' [(3, strV (w ++ spaced (ns.take i))), (53, .slc j g ns.length 1 0 ns.length none), (54, .int .i64 ns.length), (55, .int .i64 (i : Nat))]) ⟨hH, by rw [hT.1]; simp [spaced], hT.2.1, hT.2.2.1, hT.2.2.2.1, trivial⟩ (by omega) ?_
  rintro i T H hi ⟨hH, hT⟩
  rw [hT.eq]
  simp only [over]
  unfold stream_row_l0
  have hsl := spaced_len (ns.take i)
  rw [List.length_take] at hsl
  by_cases hil : i < ns.length
  · obtain ⟨n, hn⟩ : ∃ n, n = ns[i] := ⟨_, rfl⟩
    have hI := e_Itoa (xf := xf) k n (by rw [hn]; exact hns _ (List.getElem_mem hil))
    have hil2 := itoaF_len n
    have hQi : (IL ns)[0 + (i : Int).toNat]? = some (.int .i64 n) := by
      simp only [IL, Nat.zero_add, Int.toNat_natCast, List.getElem?_map, List.getElem?_eq_getElem hil, Option.map_some, hn]
    have hts : spaced (ns.take (i + 1)) = spaced (ns.take i) ++ ([32] ++ itoaF n) := by
      rw [List.take_succ_eq_append_getElem hil, ← hn]
      simp [spaced]
    repeat' (first
     | refine q_s ?_ | refine q_z ?_ | refine q_b ?_ | refine wo_atR rfl rfl (by exact hH) (by simp) (by omega) (by omega) (by omega) rfl rfl ?_
      | refine wo_loadE rfl (by exact hH) (by simp) hQi rfl rfl rfl ?_ | refine q_call hI ?_ | refine wo_sadd (a := [32]) (b := itoaF n) rfl rfl (by simp; omega) rfl rfl ?_
      | refine wo_sadd (a := w ++ spaced (ns.take i)) (b := [32] ++ itoaF n) rfl rfl (by simp; omega) rfl rfl ?_ | refine q_mv ?_ | refine q_load ?_ | refine q_loadI ?_ | refine q_loadR ?_
      | refine q_cmp ?_ | refine q_cmp2 (fun _ => ?_) (fun _ => ?_) | refine q_add ?_ | refine q_at ?_)
    exact ⟨hil, hH, by rw [hts, ← List.append_assoc w]; rfl, rfl, rfl, by show AV.int _ _ = AV.int _ _; congr 1, trivial⟩
  · have hin : i = ns.length := by omega
    repeat' (first
     | refine q_s ?_ | refine q_z ?_ | refine q_b ?_ | refine q_mv ?_ | refine q_load ?_ | refine q_loadI ?_ | refine q_loadR ?_ | refine q_cmp ?_ | refine q_cmp2 (fun _ => ?_) (fun _ => ?_)
      | refine q_add ?_ | refine q_at ?_)
    rw [hin, List.take_length]
    exact ⟨rfl, rfl⟩

theorem nums_range {c : Cmd} (h : chkP c) : ∀ n ∈ numsOf c, -9223372036854775808 ≤ n ∧ n ≤ 9223372036854775807 := by
  intro n hn
  unfold numsOf at hn
  rcases chkP_inv h with ⟨h0, h1, h2, h3, _⟩ | ⟨h0, h1, h2, _⟩ | ⟨h0, h1, h2, _⟩ | ⟨h0, h1, h2, h3, _⟩ | ⟨h0, h1, _⟩ | ⟨h0, h1, h2, _⟩
  · rw [if_pos h0] at hn
    have := parentsP_iff.1 h1
    simp only [List.mem_cons, List.not_mem_nil, or_false] at hn
    rcases hn with rfl | rfl | rfl | rfl <;> omega
  · rw [if_neg (by omega), if_pos h0] at hn
    simp only [List.mem_cons, List.not_mem_nil, or_false] at hn
    rcases hn with rfl | rfl <;> omega
  · rw [if_neg (by omega), if_neg (by omega), if_pos h0] at hn
    simp only [List.mem_cons, List.not_mem_nil, or_false] at hn
    rcases hn with rfl | rfl <;> omega
  · rw [if_neg (by omega), if_neg (by omega), if_neg (by omega), if_pos h0] at hn
    simp only [List.mem_cons, List.not_mem_nil, or_false] at hn
    rcases hn with rfl | rfl | rfl <;> omega
  · rw [if_neg (by omega), if_neg (by omega), if_neg (by omega), if_neg (by omega), if_pos h0] at hn
    simp only [List.mem_cons, List.not_mem_nil, or_false] at hn
    subst hn; omega
  · rw [if_neg (by omega), if_neg (by omega), if_neg (by omega), if_neg (by omega), if_neg (by omega)] at hn
    simp only [List.mem_cons, List.not_mem_nil, or_false] at hn
    rcases hn with rfl | rfl <;> omega

theorem e_stream_row (k : Nat) (hk : 1000 ≤ k) (t f : Bool) (s : Nat) (c : Cmd) (hc : chkP c) : FnV (acall B xf cloneF (k + 2)) n_stream_row [c.av t f s] (strV (rowB c)) := by
  have hsec := e_frame_Sectors (xf := xf) (gf := cloneF) k t f s c (by have := chk_small hc; omega)
  have hnr := nums_range hc
  have hkd := chk_kind hc
  have hrl := rowB_len c
  obtain ⟨kd, id, pa, sz, fr, cn, so, dg, da⟩ := c
  simp only at hkd
  have hcase : kd = 1 ∨ kd = 2 ∨ kd = 3 ∨ kd = 4 ∨ kd = 5 ∨ kd = 6 := by omega
  have hav : Cmd.av t f s ⟨kd, id, pa, sz, fr, cn, so, dg, da⟩ = .agg [.int .i64 kd, .int .i64 id, .int .i64 pa, .int .i64 sz, .int .i64 fr, .int .i64 cn, .int .i64 so, .int .i64 dg, .islc t f s (BL da)] := rfl
  rw [hav] at hsec ⊢
  simp only at hsec
  refine fn_of B_stream_row rfl ?_
  unfold stream_row
  rcases hcase with rfl | rfl | rfl | rfl | rfl | rfl
  all_goals
    repeat' (first
     | refine q_s ?_ | refine q_z ?_ | refine q_b ?_ | refine q_call hsec ?_ (hl := by kernel_rfl) | refine q_loadI (hl := by kernel_rfl) ?_ | refine q_load (hl := by kernel_rfl) ?_
      | refine q_buildS (hl := by kernel_rfl) ?_ | refine q_atR ?_ | refine q_mv ?_ | refine q_faddr ?_ | refine q_load ?_ | refine q_loadI ?_ | refine q_loadR ?_ | refine q_cmp ?_
      | refine q_cmp2 (fun _ => ?_) (fun _ => ?_) | refine q_add ?_ | refine q_sub ?_ | refine q_len ?_ | refine q_lenS ?_ | refine q_len0 ?_ | refine q_box ?_ | refine q_at ?_
      | refine q_buildS ?_)
  · refine W.mono (row_loop (xf := xf) (fuel := k + 1) k (j := 2) (g := 1) (ns := [id, pa, sz, cn]) (w := [98, 101, 103, 105, 110]) (by omega) (by simp) (by simp) (fun n hn => hnr n hn) ?_ ?_) ?_
    · rfl
    · exact ⟨rfl, rfl, rfl, rfl, trivial⟩
    rintro ex T2 H2 ⟨rfl, h3⟩
    rw [Has.eq (T := T2) (ps := [(3, _)]) ⟨h3, trivial⟩]
    simp only [over]
    show W _ _
    repeat' (first
     | refine q_s ?_ | refine q_z ?_ | refine q_b ?_
      | refine wo_sadd (a := [98, 101, 103, 105, 110] ++ spaced [id, pa, sz, cn]) (b := [10]) rfl rfl (by have := spaced_len [id, pa, sz, cn]; simp only [List.length_append, List.length_cons, List.length_nil] at this ⊢; omega) rfl rfl ?_
      | refine q_mv ?_ | refine q_faddr ?_ | refine q_load ?_ | refine q_loadI ?_ | refine q_loadR ?_ | refine q_cmp ?_ | refine q_cmp2 (fun _ => ?_) (fun _ => ?_) | refine q_add ?_
      | refine q_sub ?_ | refine q_len ?_ | refine q_lenS ?_ | refine q_len0 ?_ | refine q_box ?_ | refine q_at ?_ | refine q_buildS ?_)
    exact ⟨Or.inr rfl, _, rfl, rfl⟩
  · refine W.mono (row_loop (xf := xf) (fuel := k + 1) k (j := 3) (g := 1) (ns := [fr, (da.length / 64 : Int)]) (w := [119, 114, 105, 116, 101]) (by omega) (by simp) (by simp) (fun n hn => hnr n hn) ?_ ?_) ?_
    · rfl
    · exact ⟨rfl, rfl, rfl, rfl, trivial⟩
    rintro ex T2 H2 ⟨rfl, h3⟩
    rw [Has.eq (T := T2) (ps := [(3, _)]) ⟨h3, trivial⟩]
    simp only [over]
    show W _ _
    repeat' (first
     | refine q_s ?_ | refine q_z ?_ | refine q_b ?_
      | refine wo_sadd (a := [119, 114, 105, 116, 101] ++ spaced [fr, (da.length / 64 : Int)]) (b := [10]) rfl rfl (by have := spaced_len [fr, (da.length / 64 : Int)]; simp only [List.length_append, List.length_cons, List.length_nil] at this ⊢; omega) rfl rfl ?_
      | refine q_mv ?_ | refine q_faddr ?_ | refine q_load ?_ | refine q_loadI ?_ | refine q_loadR ?_ | refine q_cmp ?_ | refine q_cmp2 (fun _ => ?_) (fun _ => ?_) | refine q_add ?_
      | refine q_sub ?_ | refine q_len ?_ | refine q_lenS ?_ | refine q_len0 ?_ | refine q_box ?_ | refine q_at ?_ | refine q_buildS ?_)
    exact ⟨Or.inr rfl, _, rfl, rfl⟩
  · refine W.mono (row_loop (xf := xf) (fuel := k + 1) k (j := 4) (g := 1) (ns := [fr, cn]) (w := [122, 101, 114, 111]) (by omega) (by simp) (by simp) (fun n hn => hnr n hn) ?_ ?_) ?_
    · rfl
    · exact ⟨rfl, rfl, rfl, rfl, trivial⟩
    rintro ex T2 H2 ⟨rfl, h3⟩
    rw [Has.eq (T := T2) (ps := [(3, _)]) ⟨h3, trivial⟩]
    simp only [over]
    show W _ _
    repeat' (first
     | refine q_s ?_ | refine q_z ?_ | refine q_b ?_
      | refine wo_sadd (a := [122, 101, 114, 111] ++ spaced [fr, cn]) (b := [10]) rfl rfl (by have := spaced_len [fr, cn]; simp only [List.length_append, List.length_cons, List.length_nil] at this ⊢; omega) rfl rfl ?_
      | refine q_mv ?_ | refine q_faddr ?_ | refine q_load ?_ | refine q_loadI ?_ | refine q_loadR ?_ | refine q_cmp ?_ | refine q_cmp2 (fun _ => ?_) (fun _ => ?_) | refine q_add ?_
      | refine q_sub ?_ | refine q_len ?_ | refine q_lenS ?_ | refine q_len0 ?_ | refine q_box ?_ | refine q_at ?_ | refine q_buildS ?_)
    exact ⟨Or.inr rfl, _, rfl, rfl⟩
  · refine W.mono (row_loop (xf := xf) (fuel := k + 1) k (j := 5) (g := 1) (ns := [fr, cn, so]) (w := [99, 108, 111, 110, 101]) (by omega) (by simp) (by simp) (fun n hn => hnr n hn) ?_ ?_) ?_
    · rfl
    · exact ⟨rfl, rfl, rfl, rfl, trivial⟩
    rintro ex T2 H2 ⟨rfl, h3⟩
    rw [Has.eq (T := T2) (ps := [(3, _)]) ⟨h3, trivial⟩]
    simp only [over]
    show W _ _
    repeat' (first
     | refine q_s ?_ | refine q_z ?_ | refine q_b ?_
      | refine wo_sadd (a := [99, 108, 111, 110, 101] ++ spaced [fr, cn, so]) (b := [10]) rfl rfl (by have := spaced_len [fr, cn, so]; simp only [List.length_append, List.length_cons, List.length_nil] at this ⊢; omega) rfl rfl ?_
      | refine q_mv ?_ | refine q_faddr ?_ | refine q_load ?_ | refine q_loadI ?_ | refine q_loadR ?_ | refine q_cmp ?_ | refine q_cmp2 (fun _ => ?_) (fun _ => ?_) | refine q_add ?_
      | refine q_sub ?_ | refine q_len ?_ | refine q_lenS ?_ | refine q_len0 ?_ | refine q_box ?_ | refine q_at ?_ | refine q_buildS ?_)
    exact ⟨Or.inr rfl, _, rfl, rfl⟩
  · refine W.mono (row_loop (xf := xf) (fuel := k + 1) k (j := 6) (g := 1) (ns := [sz]) (w := [114, 101, 115, 105, 122, 101]) (by omega) (by simp) (by simp) (fun n hn => hnr n hn) ?_ ?_) ?_
    · rfl
    · exact ⟨rfl, rfl, rfl, rfl, trivial⟩
    rintro ex T2 H2 ⟨rfl, h3⟩
    rw [Has.eq (T := T2) (ps := [(3, _)]) ⟨h3, trivial⟩]
    simp only [over]
    show W _ _
    repeat' (first
     | refine q_s ?_ | refine q_z ?_ | refine q_b ?_
      | refine wo_sadd (a := [114, 101, 115, 105, 122, 101] ++ spaced [sz]) (b := [10]) rfl rfl (by have := spaced_len [sz]; simp only [List.length_append, List.length_cons, List.length_nil] at this ⊢; omega) rfl rfl ?_
      | refine q_mv ?_ | refine q_faddr ?_ | refine q_load ?_ | refine q_loadI ?_ | refine q_loadR ?_ | refine q_cmp ?_ | refine q_cmp2 (fun _ => ?_) (fun _ => ?_) | refine q_add ?_
      | refine q_sub ?_ | refine q_len ?_ | refine q_lenS ?_ | refine q_len0 ?_ | refine q_box ?_ | refine q_at ?_ | refine q_buildS ?_)
    exact ⟨Or.inr rfl, _, rfl, rfl⟩
  · refine W.mono (row_loop (xf := xf) (fuel := k + 1) k (j := 7) (g := 1) (ns := [cn, dg]) (w := [101, 110, 100]) (by omega) (by simp) (by simp) (fun n hn => hnr n hn) ?_ ?_) ?_
    · rfl
    · exact ⟨rfl, rfl, rfl, rfl, trivial⟩
    rintro ex T2 H2 ⟨rfl, h3⟩
    rw [Has.eq (T := T2) (ps := [(3, _)]) ⟨h3, trivial⟩]
    simp only [over]
    show W _ _
    repeat' (first
     | refine q_s ?_ | refine q_z ?_ | refine q_b ?_
      | refine wo_sadd (a := [101, 110, 100] ++ spaced [cn, dg]) (b := [10]) rfl rfl (by have := spaced_len [cn, dg]; simp only [List.length_append, List.length_cons, List.length_nil] at this ⊢; omega) rfl rfl ?_
      | refine q_mv ?_ | refine q_faddr ?_ | refine q_load ?_ | refine q_loadI ?_ | refine q_loadR ?_ | refine q_cmp ?_ | refine q_cmp2 (fun _ => ?_) (fun _ => ?_) | refine q_add ?_
      | refine q_sub ?_ | refine q_len ?_ | refine q_lenS ?_ | refine q_len0 ?_ | refine q_box ?_ | refine q_at ?_ | refine q_buildS ?_)
    exact ⟨Or.inr rfl, _, rfl, rfl⟩

end Go.Proofs.YtnakicjkolpacaaDoor
