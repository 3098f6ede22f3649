/- What the functions answer: a stream's lines, joined. -/
import Derived.Test.YtnakicjkolpacaaDoorS37
import Derived.Test.YtnakicjkolpacaaDoorP8
set_option linter.unusedSimpArgs false
set_option linter.unusedVariables false
set_option maxRecDepth 10000
set_option maxHeartbeats 16000000
namespace Go.Proofs.YtnakicjkolpacaaDoor
open Go.AI

theorem intersperse_nil : ∀ xs : List (List UInt8), (xs.intersperse []).flatten = xs.flatten
  | [] => rfl
  | [x] => rfl
  | x :: y :: r => by
    have := intersperse_nil (y :: r)
    simp only [List.intersperse, List.flatten_cons, List.nil_append] at this ⊢
    rw [this]
theorem join_nil (xs : List (List UInt8)) : Go.Lib.join xs [] = xs.flatten := by
  unfold Go.Lib.join List.intercalate
  exact intersperse_nil xs
theorem strsOf_strV (ls : List (List UInt8)) : strsOf (ls.map strV) = some (ls.map fun l => ⟨l.toArray⟩) := by
  have := strsOf_map (ls.map fun l => (⟨l.toArray⟩ : ByteArray))
  rwa [List.map_map] at this
theorem fz_ownT {H : Heap} {j gn v : Nat} {ro : Bool} {cap : Option Nat} {ls : List (List UInt8)} (hr : H j = ⟨gn, ro, .row 1 (ls.map strV)⟩) (hv : ls.length = v) : fz false 6 H (.slc j gn v 1 0 v cap) = .islc true false 1 (ls.map strV) := by
  rw [fz_slc (n := 5) (row_of hr (by simpa using hv)) (by omega), List.drop_zero, ← hv, List.take_of_length_le (by simp)]
  simp only [Bool.not_false]
  congr 1
  rw [List.map_map]
  exact List.map_congr_left fun c _ => rfl

attribute [local irreducible] aops aexec acall aiter aop W WO

variable {xf : ExtF}

theorem e_Join (k : Nat) (t f : Bool) (ls : List (List UInt8)) (h1 : ls.length ≤ 1000000) (h2 : ls.flatten.length ≤ 1000000000) : FnV (acall B xf cloneF (k + 1)) n_strings_Join [.islc t f 1 (ls.map strV), .str ⟨#[]⟩] (strV ls.flatten) := by
  refine ⟨strV ls.flatten, Heap.none, ?_, rfl⟩
  have hB : B n_strings_Join = none := rfl
  unfold acall
  rw [hB]
  show cloneF n_strings_Join 0 [.islc t f 1 (ls.map strV), .str ⟨#[]⟩] Heap.none = _
  unfold cloneF
  rw [if_neg (by decide)]
  unfold libF
  rw [if_neg (by decide), if_pos rfl]
  simp only [strsOf_strV]
  have e : (ls.map fun l => (⟨l.toArray⟩ : ByteArray)).map (·.data.toList) = ls := by
    rw [List.map_map]
    exact List.map_id' ls
  rw [e]
  show (if _ ∧ (Go.Lib.join ls []).length ≤ _ then some (AV.str ⟨(Go.Lib.join ls []).toArray⟩, Heap.none) else none) = _
  rw [join_nil, if_pos ⟨by simpa using h1, h2⟩]
  rfl

def rowsL (l : List CV) : List (List UInt8) := l.map fun x => rowB x.c
theorem rowsL_map (l : List CV) : (rowsL l).map strV = l.map fun x => strV (rowB x.c) := by
  unfold rowsL; rw [List.map_map]; rfl
theorem flatten_le {n : Nat} : ∀ {ls : List (List UInt8)}, (∀ l ∈ ls, l.length ≤ n) → ls.flatten.length ≤ n * ls.length
  | [], _ => by simp
  | l :: ls, h => by
    have h1 := flatten_le (ls := ls) fun x hx => h x (by simp [hx])
    have h2 := h l (by simp)
    rw [List.flatten_cons, List.length_append, List.length_cons, Nat.mul_add]
    omega

theorem Dump_loop (k : Nat) (hk : 1000 ≤ k) {fuel : Nat} {T : Tmps} {H : Heap} {f : Bool} {s : Nat} {l : List CV} {g6 : AV} (hs : s = 9 ∨ l = []) (hl : l.length < 1000000) (hc : ∀ x ∈ l, chkP x.c) (hk2 : 1000000 ≤ fuel) (hH : H 0 = ⟨1, false, .row 1 []⟩)
    (hT : Has T [(6, g6), (7, .slc 0 1 0 1 0 0 none), (19, .islc false f s (l.map CV.av)), (20, .int .i64 l.length), (21, .int .i64 0)]) :
    W (aexec (acall B xf cloneF (k + 2)) xf 0 fuel (.loop stream_Dump_l0) T H) (fun ex T' H' => ex = .exit 0 ∧ H' 0 = ⟨1, false, .row 1 ((rowsL l).map strV)⟩ ∧ T' 6 = g6 ∧ T' 7 = .slc 0 1 l.length 1 0 l.length none) := by
  refine w_for l.length (fun i T' H' => H' 0 = ⟨1, false, .row 1 ((rowsL (l.take i)).map strV)⟩ ∧ Has T' [(6, g6), (7, .slc 0 1 i 1 0 i none), (19, .islc false f s (l.map CV.av)), (20, .int .i64 l.length), (21, .int .i64 (i : Nat))]) ⟨hH, hT⟩ (by omega) ?_
  rintro i T H hi ⟨hH, hT⟩
  rw [hT.eq]
  simp only [over]
  unfold stream_Dump_l0
  have hll : (l.map CV.av).length = l.length := List.length_map _
  have hrl : ((rowsL (l.take i)).map strV).length = i := by simp [rowsL, List.length_take]; omega
  by_cases hil : i < l.length
  · have hs9 : s = 9 := by
      rcases hs with h | h
      · exact h
      · subst h; simp at hil
    subst hs9
    obtain ⟨x, hx⟩ : ∃ x, x = l[i] := ⟨_, rfl⟩
    have hch := hc _ (List.getElem_mem hil)
    rw [← hx] at hch
    have he2 : (l.map CV.av)[(i : Int).toNat]? = some x.av := by
      rw [Int.toNat_natCast, List.getElem?_map, List.getElem?_eq_getElem hil, ← hx]; rfl
    have hrow := e_stream_row (xf := xf) k hk false x.f x.s x.c hch
    unfold CV.av at he2
    unfold Cmd.av at hrow he2
    have hts : (rowsL (l.take (i + 1))).map strV = (rowsL (l.take i)).map strV ++ [strV (rowB x.c)] := by
      rw [List.take_succ_eq_append_getElem hil, ← hx]
      simp [rowsL]
    repeat' (first
     | refine q_s ?_ | refine q_z ?_ | refine q_b ?_ | refine wo_atG rfl rfl (by omega) he2 rfl rfl ?_ | refine q_call hrow ?_
      | refine wo_app1 rfl rfl rfl (by exact hH) hrl rfl (by omega) rfl rfl (fun _ => ?_) | refine q_mv ?_ | refine q_load ?_ | refine q_loadI ?_ | refine q_loadR ?_ | refine q_cmp ?_
      | refine q_cmp2 (fun _ => ?_) (fun _ => ?_) | refine q_add ?_ | refine q_store ?_ | refine q_storeR ?_ | refine q_box ?_ | refine q_at ?_ | refine q_buildS ?_ | refine q_app fun _ => ?_)
    exact ⟨hil, by rw [hts]; rfl, rfl, rfl, rfl, rfl, by show AV.int _ _ = AV.int _ _; congr 1, trivial⟩
  · have hin : i = l.length := by omega
    repeat' (first
     | refine q_s ?_ | refine q_z ?_ | refine q_b ?_ | refine q_mv ?_ | refine q_load ?_ | refine q_loadI ?_ | refine q_loadR ?_ | refine q_cmp ?_ | refine q_cmp2 (fun _ => ?_) (fun _ => ?_)
      | refine q_add ?_ | refine q_store ?_ | refine q_storeR ?_ | refine q_box ?_ | refine q_at ?_ | refine q_buildS ?_ | refine q_app fun _ => ?_)
    subst hin
    rw [List.take_length] at hH
    exact ⟨rfl, hH, rfl, rfl⟩

/-- What a stream's bytes are told as. -/
def dumpL (b : List UInt8) : List (List UInt8) := rowsL (parseS b).1.l ++ (if (parseS b).2.2 = 0 then [] else [[101, 114, 114, 111, 114, 32] ++ itoaF (parseS b).2.2 ++ [10]])
theorem pErr_range (l : List UInt8) : 0 ≤ pErr l ∧ pErr l ≤ 16 := by
  unfold pErr
  split
  · unfold lenP at *
    repeat' split
    all_goals (simp only; omega)
  split
  · omega
  split <;> omega
theorem goS_err : ∀ (k : Nat) (p : PS) (g : Nat) (r : List UInt8), 0 ≤ (goS k p g r).2.2 ∧ (goS k p g r).2.2 ≤ 16
  | 0, p, g, r => by simp [goS]
  | k + 1, p, g, r => by
    simp only [goS]
    split
    · exact pErr_range r
    split
    · rcases takeE_cases p (pCmd r) (pSeq r) with h | h | h <;> (simp only; omega)
    split
    · simp only; split <;> omega
    · exact goS_err k _ _ _

theorem e_stream_Dump (k : Nat) (hk : 1000000 ≤ k) (t f : Bool) (b : List UInt8) (hb : b.length < 900000) : FnV (acall B xf cloneF (k + 8)) n_stream_Dump [.islc t f 1 (BL b)] (.tup [strV (dumpL b).flatten, .int .i64 0]) := by
  have hp := e_stream_Parse (xf := xf) k hk t f b hb
  unfold parseSAv at hp
  obtain ⟨⟨hf1, hf2⟩, hf3⟩ := parseS_fit b hb
  have her : 0 ≤ (parseS b).2.2 ∧ (parseS b).2.2 ≤ 16 := goS_err _ _ _ _
  have hdl : dumpL b = rowsL (parseS b).1.l ++ (if (parseS b).2.2 = 0 then [] else [[101, 114, 114, 111, 114, 32] ++ itoaF (parseS b).2.2 ++ [10]]) := rfl
  rw [hdl]
  obtain ⟨e, hed⟩ : ∃ e, e = (parseS b).2.2 := ⟨_, rfl⟩
  obtain ⟨l, hld⟩ : ∃ l, l = (parseS b).1.l := ⟨_, rfl⟩
  clear hf2 hdl
  rw [← hed] at hp her ⊢
  rw [← hld] at hp hf1 hf3 ⊢
  have hlr : ∃ (f' : Bool) (s' : Nat), LR l = .islc false f' s' (l.map CV.av) ∧ (s' = 9 ∨ l = []) := by
    unfold LR
    by_cases h : l = []
    · rw [if_pos h, h]; exact ⟨true, 0, rfl, .inr rfl⟩
    · rw [if_neg h]; exact ⟨false, 9, rfl, .inl rfl⟩
  obtain ⟨f', s', hlr, hs'⟩ := hlr
  rw [hlr] at hp
  have hrn : (rowsL l).length = l.length := by simp [rowsL]
  have hrn2 : ((rowsL l).map strV).length = l.length := by simp [rowsL]
  have hfl := flatten_le (n := 100) (ls := rowsL l) fun x hx => by
    obtain ⟨y, _, rfl⟩ := List.mem_map.1 hx
    exact rowB_len _
  have hI := e_Itoa (xf := xf) (k + 6) e (by omega)
  have hil := itoaF_len e
  have hmap : (l.map CV.av).length = l.length := List.length_map _
  refine fn_of B_stream_Dump rfl ?_
  unfold stream_Dump
  by_cases he0 : e = 0
  · have hJ := e_Join (xf := xf) (k + 6) true false (rowsL l) (by omega) (by omega)
    rw [if_pos he0, List.append_nil]
    repeat' (first
     | refine q_s ?_ | refine q_z ?_ | refine q_b ?_ | refine q_call hp ?_ | refine wo_lenG (n := l.length) rfl hmap rfl rfl ?_ | refine q_mv ?_ | refine q_load ?_ | refine q_loadI ?_
      | refine q_loadR ?_ | refine q_cmp ?_ | refine q_cmp2 (fun _ => ?_) (fun _ => ?_) | refine q_add ?_ | refine q_len ?_ | refine q_lenS ?_ | refine q_len0 ?_ | refine q_ex ?_
      | refine q_store ?_ | refine q_storeR ?_ | refine q_box ?_ | refine q_at ?_ | refine q_nilrow ?_ | refine q_buildS ?_ | refine q_app fun _ => ?_)
    refine W.mono (Dump_loop (xf := xf) (fuel := k + 7) (k + 5) (by omega) (f := f') (s := s') (l := l) (g6 := .int .i64 e) hs' (by omega) (fun x hx => (hf1 x hx).2) (by omega) ?_ ?_) ?_
    · rfl
    · exact ⟨rfl, rfl, rfl, rfl, rfl, trivial⟩
    rintro ex T2 H2 ⟨rfl, hrow, h6, h7⟩
    rw [Has.eq (T := T2) (ps := [(6, _), (7, _)]) ⟨h6, h7, trivial⟩]
    simp only [over]
    show W _ _
    repeat' (first
     | refine q_s ?_ | refine q_z ?_ | refine q_b ?_ | refine q_call hJ ?_ rfl (by show [fz false 6 _ (AV.slc _ _ _ _ _ _ _), _] = _; rw [fz_ownT hrow hrn]; rfl) | refine q_mv ?_
      | refine q_load ?_ | refine q_loadI ?_ | refine q_loadR ?_ | refine q_cmp ?_ | refine q_cmp2 (fun _ => ?_) (fun _ => ?_) | refine q_add ?_ | refine q_len ?_ | refine q_lenS ?_
      | refine q_len0 ?_ | refine q_ex ?_ | refine q_store ?_ | refine q_storeR ?_ | refine q_box ?_ | refine q_at ?_ | refine q_nilrow ?_ | refine q_buildS ?_ | refine q_app fun _ => ?_)
    exact ⟨Or.inr rfl, _, rfl, rfl⟩
  · have hJ := e_Join (xf := xf) (k + 6) true false (rowsL l ++ [[101, 114, 114, 111, 114, 32] ++ itoaF e ++ [10]]) (by simp only [List.length_append, List.length_cons, List.length_nil]; omega) (by simp only [List.flatten_append, List.flatten_cons, List.flatten_nil, List.length_append, List.length_cons, List.length_nil]; omega)
    rw [if_neg he0]
    have hrn3 : (rowsL l ++ [[101, 114, 114, 111, 114, 32] ++ itoaF e ++ [10]]).length = l.length + 1 := by simp [rowsL]
    repeat' (first
     | refine q_s ?_ | refine q_z ?_ | refine q_b ?_ | refine q_call hp ?_ | refine wo_lenG (n := l.length) rfl hmap rfl rfl ?_ | refine q_mv ?_ | refine q_load ?_ | refine q_loadI ?_
      | refine q_loadR ?_ | refine q_cmp ?_ | refine q_cmp2 (fun _ => ?_) (fun _ => ?_) | refine q_add ?_ | refine q_len ?_ | refine q_lenS ?_ | refine q_len0 ?_ | refine q_ex ?_
      | refine q_store ?_ | refine q_storeR ?_ | refine q_box ?_ | refine q_at ?_ | refine q_nilrow ?_ | refine q_buildS ?_ | refine q_app fun _ => ?_)
    refine W.mono (Dump_loop (xf := xf) (fuel := k + 7) (k + 5) (by omega) (f := f') (s := s') (l := l) (g6 := .int .i64 e) hs' (by omega) (fun x hx => (hf1 x hx).2) (by omega) ?_ ?_) ?_
    · rfl
    · exact ⟨rfl, rfl, rfl, rfl, rfl, trivial⟩
    rintro ex T2 H2 ⟨rfl, hrow, h6, h7⟩
    rw [Has.eq (T := T2) (ps := [(6, _), (7, _)]) ⟨h6, h7, trivial⟩]
    simp only [over]
    show W _ _
    repeat' (first
     | refine q_s ?_ | refine q_z ?_ | refine q_b ?_ | refine q_call hI ?_
      | refine wo_sadd (a := [101, 114, 114, 111, 114, 32]) (b := itoaF e) rfl rfl (by simp only [List.length_cons, List.length_nil]; omega) rfl rfl ?_
      | refine wo_sadd (a := [101, 114, 114, 111, 114, 32] ++ itoaF e) (b := [10]) rfl rfl (by simp only [List.length_append, List.length_cons, List.length_nil]; omega) rfl rfl ?_
      | refine wo_app1 rfl rfl rfl (by exact hrow) hrn2 rfl (by omega) rfl rfl (fun _ => ?_)
      | refine q_call hJ ?_ rfl (by show [fz false 6 _ (AV.slc _ _ _ _ _ _ _), _] = _; rw [fz_ownT (ls := rowsL l ++ [[101, 114, 114, 111, 114, 32] ++ itoaF e ++ [10]]) (by rw [List.map_append]; rfl) hrn3]; rfl)
      | refine q_mv ?_ | refine q_load ?_ | refine q_loadI ?_ | refine q_loadR ?_ | refine q_cmp ?_ | refine q_cmp2 (fun _ => ?_) (fun _ => ?_) | refine q_add ?_ | refine q_len ?_
      | refine q_lenS ?_ | refine q_len0 ?_ | refine q_ex ?_ | refine q_store ?_ | refine q_storeR ?_ | refine q_box ?_ | refine q_at ?_ | refine q_nilrow ?_ | refine q_buildS ?_
      | refine q_app fun _ => ?_)
    exact ⟨Or.inr rfl, _, rfl, rfl⟩

section
variable {cf : CallF} {xf : ExtF} {base : Nat} {T : Tmps} {H : Heap} {QO : Tmps → Heap → Prop} {log : List FP} {g : Option (Nat × Bool)} {un : List Nat} {r : List SOper} {d : Nat}
theorem digit_ex : ∀ n : Nat, n < 10 → (⟨#[48, 49, 50, 51, 52, 53, 54, 55, 56, 57]⟩ : ByteArray).extract n (n + 1) = ⟨[UInt8.ofNat (48 + n)].toArray⟩ := by
  intro n h
  have : n = 0 ∨ n = 1 ∨ n = 2 ∨ n = 3 ∨ n = 4 ∨ n = 5 ∨ n = 6 ∨ n = 7 ∨ n = 8 ∨ n = 9 := by omega
  rcases this with rfl | rfl | rfl | rfl | rfl | rfl | rfl | rfl | rfl | rfl <;> rfl
theorem wo_digit {y z : SArg} {n : Nat} {a b : Int} (hy : y.ev T = .int .i64 a) (hz : z.ev T = .int .i64 b) (ha : a = n) (hb : b = n + 1) (hn : n < 10) (hw : awanted T g = some true) (hl : logOk log .z un = true)
    (h : WO (aops cf xf base r (log ++ [.z]) (T.upd d (strV [UInt8.ofNat (48 + n)])) H) QO) : WO (aops cf xf base (⟨some d, .slcStr (.c (.str ⟨#[48, 49, 50, 51, 52, 53, 54, 55, 56, 57]⟩)) (some y) (some z), g, un⟩ :: r) log T H) QO :=
  wo_step (v := strV [UInt8.ofNat (48 + n)]) hw (by
    subst ha hb
    have e1 : optNat T (some y) = some (some n) := by simp [optNat, hy, natOf]
    have e2 : optNat T (some z) = some (some (n + 1)) := by simp [optNat, hz, natOf]; omega
    have e3 : (⟨#[48, 49, 50, 51, 52, 53, 54, 55, 56, 57]⟩ : ByteArray).size = 10 := rfl
    simp only [aop, e1, e2, Option.bind_eq_bind, Option.bind_some, ev_c, Option.getD_some, e3]
    rw [if_pos ⟨by omega, by omega⟩, digit_ex n hn]
    rfl) hl h
end

variable {gf : CallF}
theorem e_law_number (k : Nat) : ∀ (m n : Nat), n < 10 ^ m → m ≤ 18 → FnV (acall B xf gf (k + m + 1)) n_law23_number [.int .i64 n] (strV (decF (m + 1) n))
  | 0, n, h, _ => by
    have hn : n = 0 := by simpa using h
    subst hn
    refine fn_of B_law23_number rfl ?_
    unfold law23_number
    repeat' (first
     | refine q_s ?_ | refine q_z ?_ | refine q_b ?_ | refine wo_digit (n := 0) rfl rfl rfl rfl (by decide) rfl rfl ?_ | refine q_mv ?_ | refine q_cmp ?_
      | refine q_cmp2 (fun _ => ?_) (fun _ => ?_) | refine q_add ?_ | refine q_rem ?_ | refine q_quo ?_ | refine q_bin ?_)
    exact ⟨Or.inr rfl, _, rfl, rfl⟩
  | m + 1, n, h, hm => by
    have hlt : n < 9223372036854775807 := by
      have : (10 : Nat) ^ (m + 1) ≤ 10 ^ 18 := Nat.pow_le_pow_right (by decide) hm
      omega
    by_cases h10 : n < 10
    · have hd : decF (m + 1 + 1) n = [UInt8.ofNat (48 + n)] := by rw [decF, if_pos h10]
      rw [hd]
      refine fn_of B_law23_number rfl ?_
      unfold law23_number
      repeat' (first
       | refine q_s ?_ | refine q_z ?_ | refine q_b ?_ | refine wo_digit (n := n) rfl rfl rfl rfl h10 rfl rfl ?_ | refine q_mv ?_ | refine q_cmp ?_ | refine q_cmp2 (fun _ => ?_) (fun _ => ?_)
        | refine q_add ?_ | refine q_rem ?_ | refine q_quo ?_ | refine q_bin ?_)
      exact ⟨Or.inr rfl, _, rfl, rfl⟩
    · have hd : decF (m + 1 + 1) n = decF (m + 1) (n / 10) ++ [UInt8.ofNat (48 + n % 10)] := by rw [decF, if_neg h10]
      have ih := e_law_number k m (n / 10) (by rw [Nat.pow_succ] at h; omega) (by omega)
      have hln := decF_len (m + 1) (n / 10)
      have hq : ((n : Int) / 10) = ((n / 10 : Nat) : Int) := by omega
      have hr : ((n : Int) % 10) = ((n % 10 : Nat) : Int) := by omega
      rw [hd]
      refine fn_of B_law23_number rfl ?_
      unfold law23_number
      repeat' (first
       | refine q_s ?_ | refine q_z ?_ | refine q_b ?_ | (refine q_quo ?_; rw [hq]) | refine q_call ih ?_ | refine wo_digit (n := n % 10) rfl rfl hr (by rw [hr]) (by omega) rfl rfl ?_
        | refine wo_sadd (a := decF (m + 1) (n / 10)) (b := [UInt8.ofNat (48 + n % 10)]) rfl rfl (by simp; omega) rfl rfl ?_ | refine q_mv ?_ | refine q_cmp ?_
        | refine q_cmp2 (fun _ => ?_) (fun _ => ?_) | refine q_add ?_ | refine q_rem ?_ | refine q_quo ?_ | refine q_bin ?_)
      exact ⟨Or.inr rfl, _, rfl, rfl⟩

end Go.Proofs.YtnakicjkolpacaaDoor
