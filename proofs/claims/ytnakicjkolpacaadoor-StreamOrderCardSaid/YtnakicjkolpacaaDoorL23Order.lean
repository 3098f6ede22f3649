/- woodcutlaw23: StreamOrder, by the interpreter. -/
import Derived.Test.YtnakicjkolpacaaDoorL23Skips
set_option linter.unusedSimpArgs false
set_option linter.unusedVariables false
set_option maxRecDepth 10000
set_option maxHeartbeats 16000000
namespace Go.Proofs.YtnakicjkolpacaaDoor
open Go.AI

section
variable {cf : CallF} {xf : ExtF} {base : Nat} {T : Tmps} {H : Heap} {QO : Tmps → Heap → Prop} {log : List FP} {g : Option (Nat × Bool)} {un : List Nat} {r : List SOper} {d : Nat}
/-- A call whose row is the caller's then. -/
def FnFG (cf : CallF) (fn : Nat) (args : List AV) (s : Nat) (es : List AV) : Prop := ∃ j gn Hc, cf fn 0 args Heap.none = some (.slc j gn es.length s 0 es.length .none, Hc) ∧ Hc j = ⟨gn, false, .row s es⟩ ∧ norefsL es = true ∧ es.map (fz true deep Hc) = es
theorem wo_freshG {site fn s n : Nat} {xs : List SArg} {args es : List AV} (hF : FnFG cf fn args s es) (hn : es.length = n) (hw : awanted T g = some true) (ha : (xs.map (SArg.ev T)).map (fz false deep H) = args)
    (hl : logOk log ⟨(xs.map (SArg.ev T)).flatMap (vis deep H), [base + site], false⟩ un = true)
    (h : WO (aops cf xf base r (log ++ [⟨(xs.map (SArg.ev T)).flatMap (vis deep H), [base + site], false⟩]) (T.upd d (.slc (base + site) ((H (base + site)).gen + 1) n s 0 n .none)) (H.newRow (base + site) s es)) QO) :
    WO (aops cf xf base (⟨some d, .call (.fresh site) fn xs, g, un⟩ :: r) log T H) QO := by
  obtain ⟨j, gn, Hc, h1, h2, h3, h4⟩ := hF
  subst hn
  refine wo_step (v := .slc (base + site) ((H (base + site)).gen + 1) es.length s 0 es.length .none) (H' := H.newRow (base + site) s es) (fp := ⟨(xs.map (SArg.ev T)).flatMap (vis deep H), [base + site], false⟩) hw ?_ hl h
  simp only [aop, acallM, ha, h1, Option.bind_eq_bind, Option.bind_some, moveRes, moveOut, rowW_of h2 rfl]
  rw [if_pos ⟨h3, rfl⟩, h4]
  rfl
end

theorem xor_even (n : Nat) : (n ^^^ 1) ≠ n := by
  intro h
  have h1 : n ^^^ (n ^^^ 1) = n ^^^ n := congrArg (n ^^^ ·) h
  rw [← Nat.xor_assoc, Nat.xor_self, Nat.zero_xor] at h1
  cases h1
section
variable {cf : CallF} {xf : ExtF} {base : Nat} {T : Tmps} {H : Heap} {QO : Tmps → Heap → Prop} {log : List FP} {g : Option (Nat × Bool)} {un : List Nat} {r : List SOper} {d : Nat}
theorem wo_xor64 {x : SArg} {a : Int} (hx : x.ev T = .int .i64 a) (ha : 0 ≤ a ∧ a < 9223372036854775808) (hw : awanted T g = some true) (hl : logOk log .z un = true)
    (h : WO (aops cf xf base r (log ++ [.z]) (T.upd d (.int .i64 (a.toNat ^^^ 1 : Nat))) H) QO) : WO (aops cf xf base (⟨some d, .bin .xor x (.c (.int .i64 1)), g, un⟩ :: r) log T H) QO :=
  wo_step (v := .int .i64 (a.toNat ^^^ 1 : Nat)) hw (by
    obtain ⟨n, rfl⟩ : ∃ n : Nat, a = n := ⟨a.toNat, by omega⟩
    have h1 : (BitVec.ofInt 64 (n : Int)).toNat = n := by simp; omega
    have h3 : n ^^^ 1 < 2 ^ 63 := Nat.xor_lt_two_pow (by omega) (by omega)
    have h4 : (BitVec.ofInt IntKind.i64.bits (n : Int) ^^^ BitVec.ofInt IntKind.i64.bits 1).toNat = n ^^^ 1 := by
      show (BitVec.ofInt 64 (n : Int) ^^^ BitVec.ofInt 64 1).toNat = _
      rw [BitVec.toNat_xor, h1]
      rfl
    have h6 : IntKind.i64.wrap ((n ^^^ 1 : Nat) : Int) = ((n ^^^ 1 : Nat) : Int) := by
      have : ∀ m : Nat, m < 2 ^ 63 → IntKind.i64.wrap (m : Int) = m := fun m hm => by
        simp [IntKind.wrap, IntKind.bits, IntKind.signed, Int.bmod]
        omega
      exact this _ h3
    simp only [aop, hx, ev_c, abin, Int.toNat_natCast, h4, h6, if_true, rv]
    rfl) hl h
theorem wo_sliceR9 {x y : SArg} {j gn v s off len : Nat} {k : IntKind} {n : Int} {ro : Bool} {es : List AV} (hx : x.ev T = .slc j gn v s off len none) (hr : H j = ⟨gn, ro, .row s es⟩) (hv : es.length = v)
    (hy : y.ev T = .int k n) (h0 : 0 ≤ n) (hab : n ≤ len) (hb : off + len ≤ v) (hw : awanted T g = some true) (hl : logOk log ⟨[j], [], false⟩ un = true)
    (h : WO (aops cf xf base r (log ++ [⟨[j], [], false⟩]) (T.upd d (.slc j gn v s (off + n.toNat) (len - n.toNat) none)) H) QO) : WO (aops cf xf base (⟨some d, .slice s x (some y) none none, g, un⟩ :: r) log T H) QO :=
  wo_step (v := .slc j gn v s (off + n.toNat) (len - n.toNat) none) (fp := ⟨[j], [], false⟩) hw (by
    have e3 : optNat T none = some none := rfl
    have e1 : ∃ lo', optNat T (some y) = some lo' ∧ lo'.getD 0 = n.toNat := by
      have := optN (m := 0) hy h0
      simp only [Option.map_eq_some_iff] at this
      exact this
    obtain ⟨lo', e1, e2⟩ := e1
    simp only [aop, e1, e3, Option.bind_eq_bind, Option.bind_some, hx, aslice, ne_eq, not_true_eq_false, if_false, row_of hr hv, Option.getD_none, e2]
    rw [if_pos ⟨by omega, by omega, Nat.le_refl _, by omega, fun _ => trivial⟩]
    rfl) hl h
end

theorem fz_ownB {H : Heap} {j gn v : Nat} {ro : Bool} {cap : Option Nat} {l : List UInt8} (hr : H j = ⟨gn, ro, .row 1 (BL l)⟩) (hv : l.length = v) : fz false 6 H (.slc j gn v 1 0 v cap) = .islc true false 1 (BL l) := by
  rw [fz_slcB (n := 4) (row_of hr (by simpa using hv)) (by omega), List.drop_zero, ← hv, List.take_length]
  rfl

/-- Frames that are taken, then one that is not. -/
theorem parse_bad {a : List (Int × Cmd)} {q : Int} {c : Cmd} {more : List UInt8} (hm : Mids ps0 a) (hc : chkP c) (hq : 0 ≤ q ∧ q ≤ 4294967295) (he : takeE (after ps0 a) c q ≠ 0) :
    parseS (frsB a ++ (frB q c ++ more)) = (after ps0 a, (frsB a).length, takeE (after ps0 a) c q) := by
  have hl : ∀ a : List (Int × Cmd), a.length ≤ (frsB a).length := by
    intro a
    induction a with
    | nil => simp [frsB]
    | cons x a ih =>
      obtain ⟨q, c⟩ := x
      simp only [frsB, List.length_append, frB_length, List.length_cons]
      omega
  have h1 := hl a
  have h2 := frB_length q c
  obtain ⟨k, hk⟩ : ∃ k, (frsB a ++ (frB q c ++ more)).length + 1 = k + 1 + a.length := ⟨(frsB a ++ (frB q c ++ more)).length - a.length, by simp only [List.length_append]; omega⟩
  unfold parseS
  rw [hk, goS_mids a (k + 1) ps0 0 _ hm, goS_frame hc hq, if_pos he, Nat.zero_add]

attribute [local irreducible] aops aexec acall aiter aop W WO

variable {xf : ExtF} {gf : CallF}

def smB (size : Int) : Cmd := ⟨1, 9, 0, size, 0, 0, 0, 0, []⟩
def smE (size : Int) : Cmd := ⟨6, 0, 0, 0, 0, 1, 0, crcMore 0 (payB (rsz size)), []⟩
def smL (size : Int) : List Cmd := [smB size, rsz size, smE size]

theorem smB_chk {n : Int} (h : 0 ≤ n ∧ n ≤ 512) : chkP (smB n) := by
  unfold chkP bareP smB
  simp only [if_true]
  simp [inR_iff, h.1, h.2, parentsP]
theorem end_chk {c d : Int} (hc : 0 ≤ c ∧ c ≤ 65535) (hd : 0 ≤ d ∧ d ≤ 4294967295) : chkP ⟨6, 0, 0, 0, 0, c, 0, d, []⟩ := by
  unfold chkP bareP
  simp only [show ¬ ((6 : Int) = 1) by decide, show ¬ ((6 : Int) = 2) by decide, show ¬ ((6 : Int) = 3) by decide, show ¬ ((6 : Int) = 4) by decide, show ¬ ((6 : Int) = 5) by decide, if_false, if_true]
  simp [inR_iff, hc.1, hc.2, hd.1, hd.2]

theorem e_law_SmallF (k : Nat) (hk : 1000000 ≤ k) (size : Int) (hs : 0 ≤ size ∧ size ≤ 512) : FnFG (acall B xf gf (k + 6)) n_law23_Small [.int .i64 size] 9 ((smL size).map (Cmd.av false true 0)) := by
  have hc := (rsz_chk hs).1
  have hp := e_frame_Payload (xf := xf) (gf := gf) k hk false true 0 (rsz size) (show (0 : Nat) < 900000 by decide) (.inr rfl) (.inl rfl)
  rw [if_pos hc] at hp
  have hpl := payB_le hc
  have hm := fun f => e_crc_Sum (xf := xf) (gf := gf) (k + 3) (by omega) false f (payB (rsz size)) (by omega)
  have key : ∃ u H, acall B xf gf (k + 6) n_law23_Small 0 [.int .i64 size] Heap.none = some (u, H) ∧ ∃ j gn, u = .slc j gn 3 9 0 3 none ∧ H j = ⟨gn, false, .row 9 ((smL size).map (Cmd.av false true 0))⟩ := by
    refine fn_gen B_law23_Small rfl ?_
    unfold law23_Small
    unfold Cmd.av at hp
    repeat' (first
     | refine q_s ?_ | refine q_z ?_ | refine q_call hp ?_ | refine q_call (hm _) ?_ | refine q_mv ?_ | refine q_load ?_ | refine q_loadI ?_ | refine q_loadR ?_ | refine q_ex ?_
      | refine q_store ?_ | refine q_storeR ?_ | refine q_box ?_ | refine q_build ?_ | refine q_buildS ?_)
    exact ⟨Or.inr rfl, _, rfl, _, _, rfl, rfl⟩
  obtain ⟨u, H, h1, j, gn, rfl, h2⟩ := key
  exact ⟨j, gn, H, h1, h2, rfl, rfl⟩

theorem frsB_take_succ {ms : List (Int × Cmd)} {i : Nat} (h : i < ms.length) : frsB (ms.take (i + 1)) = frsB (ms.take i) ++ frB ms[i].1 ms[i].2 := by
  rw [List.take_succ_eq_append_getElem h, frsB_append]
  simp [frsB]
theorem frsB_le : ∀ {ms : List (Int × Cmd)}, (∀ x ∈ ms, chkP x.2) → (frsB ms).length ≤ 540 * ms.length
  | [], _ => by simp [frsB]
  | (q, c) :: ms, h => by
    have h1 := frsB_le (ms := ms) fun x hx => h x (by simp [hx])
    have h2 := payB_le (h (q, c) (by simp))
    simp only [frsB, List.length_append, frB_length, List.length_cons]
    simp only at h2
    omega

theorem Order_loop (k : Nat) (hk : 1000000 ≤ k) {fuel : Nat} {T : Tmps} {H : Heap} {jl gl vl offl n js gs : Nat} {capl : Option Nat} {E : List AV} {ms : List (Int × Cmd)} {g8 g9 : AV} (hk2 : 1000000 ≤ fuel) (hn : ms.length = n) (hn2 : n < 1000)
    (hrow : H jl = ⟨gl, false, .row 9 E⟩) (hE : E.length = vl) (hoff : offl + n ≤ vl) (hC : ∀ i c, ms[i]? = some c → E[offl + i]? = some (c.2.av false true 0)) (hd : ∀ x ∈ ms, x.2.data = []) (hseq : H js = ⟨gs, false, .row 1 (IL (ms.map (·.1)))⟩)
    (hchk : ∀ x ∈ ms, chkP x.2 ∧ 0 ≤ x.1 ∧ x.1 ≤ 4294967295) (hjl : jl ≠ 1) (hjs : js ≠ 1) (hH1 : H 1 = ⟨1, false, .row 1 (BL [])⟩)
    (hT : Has T [(5, .slc jl gl vl 9 offl n capl), (6, .slc 1 1 0 1 0 0 none), (7, .slc js gs n 1 0 n none), (8, g8), (9, g9), (10, .int .i64 0)]) :
    W (aexec (acall B xf gf (k + 6)) xf 0 fuel (.loop law23_StreamOrder_l0) T H) (fun ex T' H' => ex = .exit 1 ∧ H' 1 = ⟨1, false, .row 1 (BL (frsB ms))⟩ ∧ T' 6 = .slc 1 1 (frsB ms).length 1 0 (frsB ms).length none ∧ T' 8 = g8 ∧ T' 9 = g9) := by
  refine w_for n (fun i T' H' => H' 1 = ⟨1, false, .row 1 (BL (frsB (ms.take i)))⟩ ∧ H' jl = ⟨gl, false, .row 9 E⟩ ∧ H' js = ⟨gs, false, .row 1 (IL (ms.map (·.1)))⟩ ∧
      Has T' [(5, .slc jl gl vl 9 offl n capl), (6, .slc 1 1 (frsB (ms.take i)).length 1 0 (frsB (ms.take i)).length none), (7, .slc js gs n 1 0 n none), (8, g8), (9, g9), (10, .int .i64 (i : Nat))])
    ⟨hH1, hrow, hseq, hT⟩ (by omega) ?_
  rintro i T H hi ⟨h1, h2, h3, hT⟩
  rw [hT.eq]
  simp only [over]
  unfold law23_StreamOrder_l0
  have hle := frsB_le (ms := ms.take i) fun x hx => (hchk x (List.mem_of_mem_take hx)).1
  rw [List.length_take] at hle
  by_cases hil : i < n
  · have him : i < ms.length := by omega
    rcases hx : ms[i] with ⟨q, c⟩
    have hmem : (q, c) ∈ ms := by rw [← hx]; exact List.getElem_mem him
    obtain ⟨hch, hq⟩ := hchk _ hmem
    have hdc := hd _ hmem
    simp only at hch hq hdc
    have hcs := chk_small hch
    have hpl := payB_le hch
    have hfl := frB_length q c
    have hEi : E[offl + (i : Int).toNat]? = some (c.av false true 0) := by
      have := hC i (q, c) (by rw [List.getElem?_eq_getElem him, hx])
      simpa using this
    have hQi : (IL (ms.map (·.1)))[0 + (i : Int).toNat]? = some (.int .i64 q) := by
      simp only [IL, Nat.zero_add, Int.toNat_natCast, List.getElem?_map, List.getElem?_eq_getElem him, hx, Option.map_some]
    have hb := e_frame_Bytes (xf := xf) (gf := gf) k hk false true 0 q c (by omega) (.inr hdc) (.inl rfl)
    rw [if_pos ⟨hch, hq⟩] at hb
    unfold Cmd.av at hb hEi
    repeat' (first
     | refine q_s ?_ | refine q_z ?_ | refine q_b ?_ | refine wo_lenSG (n := n) rfl rfl rfl rfl ?_
      | refine wo_atR rfl rfl (by exact h3) (by simp; omega) (by omega) (by omega) (by omega) rfl rfl ?_ | refine wo_atR rfl rfl (by exact h2) hE (by omega) (by omega) (by omega) rfl rfl ?_
      | refine wo_loadE rfl (by exact h3) (by simp; omega) hQi rfl rfl rfl ?_ | refine wo_loadR (.agg _) rfl (by exact h2) hE hEi (Nat.le_of_ble_eq_true rfl) rfl rfl rfl ?_
      | refine q_call hb ?_ | refine wo_app rfl rfl (.inl rfl) (by exact h1) rfl (by omega) rfl rfl (fun _ => ?_) | refine q_mv ?_ | refine q_load ?_ | refine q_loadI ?_ | refine q_loadR ?_
      | refine q_cmp ?_ | refine q_cmp2 (fun _ => ?_) (fun _ => ?_) | refine q_add ?_ | refine q_len ?_ | refine q_lenS ?_ | refine q_len0 ?_ | refine q_ex ?_ | refine q_at ?_
      | refine q_app fun _ => ?_)
    have hts : frsB (ms.take (i + 1)) = frsB (ms.take i) ++ frB q c := by rw [frsB_take_succ him, hx]
    refine ⟨hil, by rw [hts]; rfl, by rw [Heap.upd_other hjl]; exact h2, by rw [Heap.upd_other hjs]; exact h3, rfl, by rw [hts, List.length_append]; rfl, rfl, rfl, rfl, by show AV.int _ _ = AV.int _ _; congr 1, trivial⟩
  · have hin : i = n := by omega
    repeat' (first
     | refine q_s ?_ | refine q_z ?_ | refine q_b ?_ | refine wo_lenSG (n := n) rfl rfl rfl rfl ?_ | refine q_mv ?_ | refine q_load ?_ | refine q_loadI ?_ | refine q_loadR ?_ | refine q_cmp ?_
      | refine q_cmp2 (fun _ => ?_) (fun _ => ?_) | refine q_add ?_ | refine q_len ?_ | refine q_lenS ?_ | refine q_len0 ?_ | refine q_ex ?_ | refine q_at ?_ | refine q_app fun _ => ?_)
    subst hin
    rw [← hn, List.take_length] at h1
    refine ⟨rfl, h1, ?_, rfl, rfl⟩
    rw [← hn, List.take_length]
    rfl

theorem smE_chk {n : Int} : chkP (smE n) := end_chk (by decide) (crcMore_range2 _ _)
theorem crc_xor {n : Nat} (h : n ≤ 4294967295) : (n ^^^ 1 : Nat) ≤ 4294967295 := by
  have : n ^^^ 1 < 2 ^ 32 := Nat.xor_lt_two_pow (by omega) (by omega)
  omega
theorem smB_mid {S : Int} (h : 0 ≤ S ∧ S ≤ 512) : Mids ps0 [(0, smB S)] :=
  ⟨smB_chk h, by decide, rfl, by show (1 : Int) ≠ 6; decide, trivial⟩
theorem smBr_mid {S : Int} (h : 0 ≤ S ∧ S ≤ 512) : Mids ps0 [(0, smB S), (1, rsz S)] :=
  ⟨smB_chk h, by decide, rfl, by show (1 : Int) ≠ 6; decide, (rsz_chk h).1, by decide, rfl, by show (5 : Int) ≠ 6; decide, trivial⟩
theorem smB_len {q S : Int} : (frB q (smB S)).length = 44 := by simp [frB_length, payB, smB]
theorem rsz_len {q S : Int} : (frB q (rsz S)).length = 24 := by simp [frB_length, payB, rsz]

theorem ord0 {S : Int} (h : 0 ≤ S ∧ S ≤ 512) : ∃ p, parseS (frsB [(0, rsz S), (1, smE S)]) = (p, 0, 14) := by
  have ht : takeE (after ps0 []) (rsz S) 0 = 14 := rfl
  have hb := parse_bad (a := []) (q := 0) (c := rsz S) (more := frB 1 (smE S) ++ []) (trivial) ((rsz_chk h).1) (by decide) (by rw [ht]; decide)
  have hl : (frsB []).length = 0 := rfl
  rw [ht, hl] at hb
  exact ⟨_, hb⟩
theorem ord1 {S : Int} (h : 0 ≤ S ∧ S ≤ 512) : ∃ p, parseS (frsB [(0, smB S), (2, rsz S), (2, smE S)]) = (p, 44, 14) := by
  have ht : takeE (after ps0 [(0, smB S)]) (rsz S) 2 = 14 := rfl
  have hb := parse_bad (a := [(0, smB S)]) (q := 2) (c := rsz S) (more := frB 2 (smE S) ++ []) (smB_mid h) ((rsz_chk h).1) (by decide) (by rw [ht]; decide)
  have hl : (frsB [(0, smB S)]).length = 44 := by simp [frsB, smB_len]
  rw [ht, hl] at hb
  exact ⟨_, hb⟩
theorem ord2 {S : Int} (h : 0 ≤ S ∧ S ≤ 512) : ∃ p, parseS (frsB [(0, smB S), (1, smB S), (2, smE S)]) = (p, 44, 14) := by
  have ht : takeE (after ps0 [(0, smB S)]) (smB S) 1 = 14 := rfl
  have hb := parse_bad (a := [(0, smB S)]) (q := 1) (c := smB S) (more := frB 2 (smE S) ++ []) (smB_mid h) (smB_chk h) (by decide) (by rw [ht]; decide)
  have hl : (frsB [(0, smB S)]).length = 44 := by simp [frsB, smB_len]
  rw [ht, hl] at hb
  exact ⟨_, hb⟩
theorem ord3 {S : Int} (h : 0 ≤ S ∧ S ≤ 512) : ∃ p, parseS (frsB [(0, smB S), (1, rsz S), (2, ⟨6, 0, 0, 0, 0, 2, 0, crcMore 0 (payB (rsz S)), []⟩)]) = (p, 68, 14) := by
  have ht : takeE (after ps0 [(0, smB S), (1, rsz S)]) ⟨6, 0, 0, 0, 0, 2, 0, crcMore 0 (payB (rsz S)), []⟩ 2 = 14 := rfl
  have hb := parse_bad (a := [(0, smB S), (1, rsz S)]) (q := 2) (c := ⟨6, 0, 0, 0, 0, 2, 0, crcMore 0 (payB (rsz S)), []⟩) (more := []) (smBr_mid h) (end_chk (by decide) (crcMore_range2 _ _)) (by decide) (by rw [ht]; decide)
  have hl : (frsB [(0, smB S), (1, rsz S)]).length = 68 := by simp [frsB, smB_len, rsz_len]
  rw [ht, hl] at hb
  exact ⟨_, hb⟩
theorem xor_even' (n : Int) (h : 0 ≤ n ∧ n ≤ 4294967295) : ((n.toNat ^^^ 1 : Nat) : Int) ≠ n := by
  have := xor_even n.toNat
  omega
theorem takeE_dig {S d : Int} (hd : d ≠ crcMore 0 (payB (rsz S))) : takeE (after ps0 [(0, smB S), (1, rsz S)]) ⟨6, 0, 0, 0, 0, 1, 0, d, []⟩ 2 = 15 := by
  have h1 : (after ps0 [(0, smB S), (1, rsz S)]).sum = crcMore 0 (payB (rsz S)) := rfl
  have h2 : (after ps0 [(0, smB S), (1, rsz S)]).next = 2 := rfl
  have h3 : (after ps0 [(0, smB S), (1, rsz S)]).cnt = 0 := rfl
  have h4 : ((after ps0 [(0, smB S), (1, rsz S)]).l = [] ↔ (6 : Int) = 1) := by
    constructor
    · intro h; cases h
    · intro h; omega
  unfold takeE
  rw [h1, h2, h3, if_neg (by rintro (h | h); exact h h4; exact h rfl), if_pos rfl, if_neg (by show ¬ ((1 : Int) ≠ 2 - 1); decide), if_pos ⟨rfl, hd⟩]
theorem ord4 {S : Int} (h : 0 ≤ S ∧ S ≤ 512) : ∃ p, parseS (frsB [(0, smB S), (1, rsz S), (2, ⟨6, 0, 0, 0, 0, 1, 0, ((crcMore 0 (payB (rsz S))).toNat ^^^ 1 : Nat), []⟩)]) = (p, 68, 15) := by
  have ht : takeE (after ps0 [(0, smB S), (1, rsz S)]) ⟨6, 0, 0, 0, 0, 1, 0, ((crcMore 0 (payB (rsz S))).toNat ^^^ 1 : Nat), []⟩ 2 = 15 := takeE_dig (xor_even' _ (crcMore_range2 _ _))
  have hb := parse_bad (a := [(0, smB S), (1, rsz S)]) (q := 2) (c := ⟨6, 0, 0, 0, 0, 1, 0, ((crcMore 0 (payB (rsz S))).toNat ^^^ 1 : Nat), []⟩) (more := []) (smBr_mid h) (end_chk (by decide) (by have := crcMore_range2 0 (payB (rsz S)); have := crc_xor (n := (crcMore 0 (payB (rsz S))).toNat) (by omega); omega)) (by decide) (by rw [ht]; decide)
  have hl : (frsB [(0, smB S), (1, rsz S)]).length = 68 := by simp [frsB, smB_len, rsz_len]
  rw [ht, hl] at hb
  exact ⟨_, hb⟩
theorem ord5 {S : Int} (h : 0 ≤ S ∧ S ≤ 512) : ∃ p, parseS (frsB [(1, smB S), (1, rsz S), (2, smE S)]) = (p, 0, 14) := by
  have ht : takeE (after ps0 []) (smB S) 1 = 14 := rfl
  have hb := parse_bad (a := []) (q := 1) (c := smB S) (more := frB 1 (rsz S) ++ (frB 2 (smE S) ++ [])) (trivial) (smB_chk h) (by decide) (by rw [ht]; decide)
  have hl : (frsB []).length = 0 := rfl
  rw [ht, hl] at hb
  exact ⟨_, hb⟩

theorem law_StreamOrder (how size : Int) : ∃ H, acall B xf cloneF 1000030 n_law23_StreamOrder 0 [.int .i64 how, .int .i64 size] Heap.none = some (.bool true, H) := by
  suffices h : FnV (acall B xf cloneF 1000030) n_law23_StreamOrder [.int .i64 how, .int .i64 size] (.bool true) by
    obtain ⟨u, H, h1, h2⟩ := h
    refine ⟨H, ?_⟩
    rw [h1, fz_true h2]
  have hw := e_wakes (xf := xf)
  obtain ⟨S, hS⟩ : ∃ S : Int, S = size % 18446744073709551616 % 513 := ⟨_, rfl⟩
  have hS0 : 0 ≤ S ∧ S ≤ 512 := by omega
  have hu : how % 18446744073709551616 % 6 = 0 ∨ how % 18446744073709551616 % 6 = 1 ∨ how % 18446744073709551616 % 6 = 2 ∨ how % 18446744073709551616 % 6 = 3 ∨ how % 18446744073709551616 % 6 = 4 ∨ how % 18446744073709551616 % 6 = 5 := by omega
  have hsm := e_law_SmallF (xf := xf) (gf := cloneF) 1000023 (by omega) S hS0
  have hrd := crcMore_range2 0 (payB (rsz S))
  have hx := crc_xor (n := (crcMore 0 (payB (rsz S))).toNat) (by omega)
  have fin : ∀ (ms : List (Int × Cmd)) (a : Nat) (e : Int), (∃ p, parseS (frsB ms) = (p, a, e)) → (frsB ms).length < 900000 →
      ∃ L : AV, FnV (acall B xf cloneF 1000029) n_stream_Parse [.islc true false 1 (BL (frsB ms))] (.tup [L, .int .i64 a, .int .i64 e]) ∧ FnV (acall B xf cloneF 1000029) n_stream_Verify [.islc true false 1 (BL (frsB ms))] (.int .i64 e) := by
    intro ms a e ⟨p, hp⟩ hl
    have hP := e_stream_Parse (xf := xf) 1000022 (by omega) true false (frsB ms) hl
    have hV := e_stream_Verify (xf := xf) 1000021 (by omega) true false (frsB ms) hl
    unfold parseSAv at hP
    rw [hp] at hP hV
    exact ⟨_, hP, hV⟩
  subst hS
  refine fn_of B_law23_StreamOrder rfl ?_
  unfold law23_StreamOrder
  rcases hu with hu | hu | hu | hu | hu | hu
  · skip
    repeat' (first
     | refine q_s ?_ | refine q_z ?_ | refine q_b ?_ | refine wo_freshG (n := 3) hsm rfl rfl rfl rfl ?_ | refine wo_sliceR9 rfl rfl rfl rfl (by decide) (by decide) (by decide) rfl rfl ?_
      | refine wo_atR rfl rfl rfl rfl (by decide) (by decide) (by decide) rfl rfl ?_ | refine q_loadR ?_ | refine q_storeR ?_ | refine wo_xor64 rfl (by omega) rfl rfl ?_ | refine q_n ?_
      | refine q_nn ?_ | refine q_mv ?_ | refine q_faddr ?_ | refine q_load ?_ | refine q_loadI ?_ | refine q_loadR ?_ | refine q_cmp ?_ | refine q_cmp2 (fun _ => ?_) (fun _ => ?_)
      | refine q_add ?_ | refine q_rem ?_ | refine q_bin ?_ | refine q_pickT ?_ | refine q_pickF ?_ | refine q_len ?_ | refine q_lenS ?_ | refine q_len0 ?_ | refine q_ex ?_ | refine q_store ?_
      | refine q_storeR ?_ | refine q_to64 ?_ | refine q_tou64 ?_ | refine q_cvu ?_ | refine q_cvi ?_ | refine q_at ?_ | refine q_nilrow ?_ | refine q_buildS ?_ | refine q_app fun _ => ?_
      | refine q_slice0 ?_ | refine q_sliceE ?_ | refine q_sliceM ?_)
    obtain ⟨ms, hms⟩ : ∃ ms : List (Int × Cmd), ms = [(0, rsz (size % 18446744073709551616 % 513)), (1, smE (size % 18446744073709551616 % 513))] := ⟨_, rfl⟩
    have hchk : ∀ x ∈ ms, (chkP x.2 ∧ 0 ≤ x.1 ∧ x.1 ≤ 4294967295) ∧ x.2.data = [] := by
      intro x hx
      rw [hms] at hx
      simp only [List.mem_cons, List.not_mem_nil, or_false] at hx
      rcases hx with rfl | rfl
      all_goals
        refine ⟨⟨?_, by simp, by simp⟩, rfl⟩
        first | exact smB_chk hS0 | exact (rsz_chk hS0).1 | exact smE_chk | exact end_chk (by decide) hrd | exact end_chk (by decide) ⟨by omega, by omega⟩
    have hfl := frsB_le (ms := ms) fun x hx => (hchk x hx).1.1
    have hmn : ms.length = 2 := by rw [hms]; rfl
    obtain ⟨L, hP, hV⟩ := fin ms 0 14 (by rw [hms]; exact ord0 hS0) (by omega)
    refine W.mono (Order_loop (fuel := 1000029) (g8 := .int .i64 0) (g9 := .int .i64 14) (xf := xf) (gf := cloneF) 1000023 (by omega) (jl := 0) (gl := 1) (vl := 3) (offl := 1) (n := 2) (js := 3) (gs := 1) (capl := none) (ms := ms) (E := (smL (size % 18446744073709551616 % 513)).map (Cmd.av false true 0)) (by omega) hmn (by omega) ?_ ?_ (by omega) ?_ (fun x hx => (hchk x hx).2) ?_ (fun x hx => (hchk x hx).1) (by decide) (by decide) ?_ ?_) ?_
    · rfl
    · rfl
    · intro i c hc
      rw [hms] at hc
      obtain ⟨hi, hc⟩ := List.getElem?_eq_some_iff.1 hc
      simp only [List.length_cons, List.length_nil] at hi
      have : i = 0 ∨ i = 1 := by omega
      rcases this with rfl | rfl <;> rw [← hc] <;> rfl
    · rw [hms]; rfl
    · rfl
    · exact ⟨rfl, rfl, rfl, rfl, rfl, rfl, trivial⟩
    rintro ex T2 H2 ⟨rfl, hrow, h6, h8, h9⟩
    rw [Has.eq (T := T2) (ps := [(6, _), (8, _), (9, _)]) ⟨h6, h8, h9, trivial⟩]
    simp only [over]
    show W _ _
    repeat' (first
     | refine q_s ?_ | refine q_z ?_ | refine q_b ?_ | refine q_call hP ?_ rfl (by show [fz false 6 _ (AV.slc _ _ _ _ _ _ _)] = _; rw [fz_ownB hrow rfl])
      | refine q_call hV ?_ rfl (by show [fz false 6 _ (AV.slc _ _ _ _ _ _ _)] = _; rw [fz_ownB hrow rfl]) | refine q_call hw ?_ | refine q_n ?_ | refine q_nn ?_ | refine q_mv ?_
      | refine q_faddr ?_ | refine q_load ?_ | refine q_loadI ?_ | refine q_loadR ?_ | refine q_cmp ?_ | refine q_cmp2 (fun _ => ?_) (fun _ => ?_) | refine q_add ?_ | refine q_rem ?_
      | refine q_bin ?_ | refine q_pickT ?_ | refine q_pickF ?_ | refine q_len ?_ | refine q_lenS ?_ | refine q_len0 ?_ | refine q_ex ?_ | refine q_store ?_ | refine q_storeR ?_
      | refine q_to64 ?_ | refine q_tou64 ?_ | refine q_cvu ?_ | refine q_cvi ?_ | refine q_at ?_ | refine q_nilrow ?_ | refine q_buildS ?_ | refine q_app fun _ => ?_ | refine q_slice0 ?_
      | refine q_sliceE ?_ | refine q_sliceM ?_)
    exact ⟨Or.inr rfl, _, rfl, rfl⟩
  · skip
    repeat' (first
     | refine q_s ?_ | refine q_z ?_ | refine q_b ?_ | refine wo_freshG (n := 3) hsm rfl rfl rfl rfl ?_ | refine wo_sliceR9 rfl rfl rfl rfl (by decide) (by decide) (by decide) rfl rfl ?_
      | refine wo_atR rfl rfl rfl rfl (by decide) (by decide) (by decide) rfl rfl ?_ | refine q_loadR ?_ | refine q_storeR ?_ | refine wo_xor64 rfl (by omega) rfl rfl ?_ | refine q_n ?_
      | refine q_nn ?_ | refine q_mv ?_ | refine q_faddr ?_ | refine q_load ?_ | refine q_loadI ?_ | refine q_loadR ?_ | refine q_cmp ?_ | refine q_cmp2 (fun _ => ?_) (fun _ => ?_)
      | refine q_add ?_ | refine q_rem ?_ | refine q_bin ?_ | refine q_pickT ?_ | refine q_pickF ?_ | refine q_len ?_ | refine q_lenS ?_ | refine q_len0 ?_ | refine q_ex ?_ | refine q_store ?_
      | refine q_storeR ?_ | refine q_to64 ?_ | refine q_tou64 ?_ | refine q_cvu ?_ | refine q_cvi ?_ | refine q_at ?_ | refine q_nilrow ?_ | refine q_buildS ?_ | refine q_app fun _ => ?_
      | refine q_slice0 ?_ | refine q_sliceE ?_ | refine q_sliceM ?_)
    obtain ⟨ms, hms⟩ : ∃ ms : List (Int × Cmd), ms = [(0, smB (size % 18446744073709551616 % 513)), (2, rsz (size % 18446744073709551616 % 513)), (2, smE (size % 18446744073709551616 % 513))] := ⟨_, rfl⟩
    have hchk : ∀ x ∈ ms, (chkP x.2 ∧ 0 ≤ x.1 ∧ x.1 ≤ 4294967295) ∧ x.2.data = [] := by
      intro x hx
      rw [hms] at hx
      simp only [List.mem_cons, List.not_mem_nil, or_false] at hx
      rcases hx with rfl | rfl | rfl
      all_goals
        refine ⟨⟨?_, by simp, by simp⟩, rfl⟩
        first | exact smB_chk hS0 | exact (rsz_chk hS0).1 | exact smE_chk | exact end_chk (by decide) hrd | exact end_chk (by decide) ⟨by omega, by omega⟩
    have hfl := frsB_le (ms := ms) fun x hx => (hchk x hx).1.1
    have hmn : ms.length = 3 := by rw [hms]; rfl
    obtain ⟨L, hP, hV⟩ := fin ms 44 14 (by rw [hms]; exact ord1 hS0) (by omega)
    refine W.mono (Order_loop (fuel := 1000029) (g8 := .int .i64 44) (g9 := .int .i64 14) (xf := xf) (gf := cloneF) 1000023 (by omega) (jl := 0) (gl := 1) (vl := 3) (offl := 0) (n := 3) (js := 2) (gs := 1) (capl := none) (ms := ms) (E := (smL (size % 18446744073709551616 % 513)).map (Cmd.av false true 0)) (by omega) hmn (by omega) ?_ ?_ (by omega) ?_ (fun x hx => (hchk x hx).2) ?_ (fun x hx => (hchk x hx).1) (by decide) (by decide) ?_ ?_) ?_
    · rfl
    · rfl
    · intro i c hc
      rw [hms] at hc
      obtain ⟨hi, hc⟩ := List.getElem?_eq_some_iff.1 hc
      simp only [List.length_cons, List.length_nil] at hi
      have : i = 0 ∨ i = 1 ∨ i = 2 := by omega
      rcases this with rfl | rfl | rfl <;> rw [← hc] <;> rfl
    · rw [hms]; rfl
    · rfl
    · exact ⟨rfl, rfl, rfl, rfl, rfl, rfl, trivial⟩
    rintro ex T2 H2 ⟨rfl, hrow, h6, h8, h9⟩
    rw [Has.eq (T := T2) (ps := [(6, _), (8, _), (9, _)]) ⟨h6, h8, h9, trivial⟩]
    simp only [over]
    show W _ _
    repeat' (first
     | refine q_s ?_ | refine q_z ?_ | refine q_b ?_ | refine q_call hP ?_ rfl (by show [fz false 6 _ (AV.slc _ _ _ _ _ _ _)] = _; rw [fz_ownB hrow rfl])
      | refine q_call hV ?_ rfl (by show [fz false 6 _ (AV.slc _ _ _ _ _ _ _)] = _; rw [fz_ownB hrow rfl]) | refine q_call hw ?_ | refine q_n ?_ | refine q_nn ?_ | refine q_mv ?_
      | refine q_faddr ?_ | refine q_load ?_ | refine q_loadI ?_ | refine q_loadR ?_ | refine q_cmp ?_ | refine q_cmp2 (fun _ => ?_) (fun _ => ?_) | refine q_add ?_ | refine q_rem ?_
      | refine q_bin ?_ | refine q_pickT ?_ | refine q_pickF ?_ | refine q_len ?_ | refine q_lenS ?_ | refine q_len0 ?_ | refine q_ex ?_ | refine q_store ?_ | refine q_storeR ?_
      | refine q_to64 ?_ | refine q_tou64 ?_ | refine q_cvu ?_ | refine q_cvi ?_ | refine q_at ?_ | refine q_nilrow ?_ | refine q_buildS ?_ | refine q_app fun _ => ?_ | refine q_slice0 ?_
      | refine q_sliceE ?_ | refine q_sliceM ?_)
    exact ⟨Or.inr rfl, _, rfl, rfl⟩
  · skip
    repeat' (first
     | refine q_s ?_ | refine q_z ?_ | refine q_b ?_ | refine wo_freshG (n := 3) hsm rfl rfl rfl rfl ?_ | refine wo_sliceR9 rfl rfl rfl rfl (by decide) (by decide) (by decide) rfl rfl ?_
      | refine wo_atR rfl rfl rfl rfl (by decide) (by decide) (by decide) rfl rfl ?_ | refine q_loadR ?_ | refine q_storeR ?_ | refine wo_xor64 rfl (by omega) rfl rfl ?_ | refine q_n ?_
      | refine q_nn ?_ | refine q_mv ?_ | refine q_faddr ?_ | refine q_load ?_ | refine q_loadI ?_ | refine q_loadR ?_ | refine q_cmp ?_ | refine q_cmp2 (fun _ => ?_) (fun _ => ?_)
      | refine q_add ?_ | refine q_rem ?_ | refine q_bin ?_ | refine q_pickT ?_ | refine q_pickF ?_ | refine q_len ?_ | refine q_lenS ?_ | refine q_len0 ?_ | refine q_ex ?_ | refine q_store ?_
      | refine q_storeR ?_ | refine q_to64 ?_ | refine q_tou64 ?_ | refine q_cvu ?_ | refine q_cvi ?_ | refine q_at ?_ | refine q_nilrow ?_ | refine q_buildS ?_ | refine q_app fun _ => ?_
      | refine q_slice0 ?_ | refine q_sliceE ?_ | refine q_sliceM ?_)
    obtain ⟨ms, hms⟩ : ∃ ms : List (Int × Cmd), ms = [(0, smB (size % 18446744073709551616 % 513)), (1, smB (size % 18446744073709551616 % 513)), (2, smE (size % 18446744073709551616 % 513))] := ⟨_, rfl⟩
    have hchk : ∀ x ∈ ms, (chkP x.2 ∧ 0 ≤ x.1 ∧ x.1 ≤ 4294967295) ∧ x.2.data = [] := by
      intro x hx
      rw [hms] at hx
      simp only [List.mem_cons, List.not_mem_nil, or_false] at hx
      rcases hx with rfl | rfl | rfl
      all_goals
        refine ⟨⟨?_, by simp, by simp⟩, rfl⟩
        first | exact smB_chk hS0 | exact (rsz_chk hS0).1 | exact smE_chk | exact end_chk (by decide) hrd | exact end_chk (by decide) ⟨by omega, by omega⟩
    have hfl := frsB_le (ms := ms) fun x hx => (hchk x hx).1.1
    have hmn : ms.length = 3 := by rw [hms]; rfl
    obtain ⟨L, hP, hV⟩ := fin ms 44 14 (by rw [hms]; exact ord2 hS0) (by omega)
    refine W.mono (Order_loop (fuel := 1000029) (g8 := .int .i64 44) (g9 := .int .i64 14) (xf := xf) (gf := cloneF) 1000023 (by omega) (jl := 0) (gl := 1) (vl := 3) (offl := 0) (n := 3) (js := 2) (gs := 1) (capl := none) (ms := ms) (E := ([smB (size % 18446744073709551616 % 513), smB (size % 18446744073709551616 % 513), smE (size % 18446744073709551616 % 513)]).map (Cmd.av false true 0)) (by omega) hmn (by omega) ?_ ?_ (by omega) ?_ (fun x hx => (hchk x hx).2) ?_ (fun x hx => (hchk x hx).1) (by decide) (by decide) ?_ ?_) ?_
    · rfl
    · rfl
    · intro i c hc
      rw [hms] at hc
      obtain ⟨hi, hc⟩ := List.getElem?_eq_some_iff.1 hc
      simp only [List.length_cons, List.length_nil] at hi
      have : i = 0 ∨ i = 1 ∨ i = 2 := by omega
      rcases this with rfl | rfl | rfl <;> rw [← hc] <;> rfl
    · rw [hms]; rfl
    · rfl
    · exact ⟨rfl, rfl, rfl, rfl, rfl, rfl, trivial⟩
    rintro ex T2 H2 ⟨rfl, hrow, h6, h8, h9⟩
    rw [Has.eq (T := T2) (ps := [(6, _), (8, _), (9, _)]) ⟨h6, h8, h9, trivial⟩]
    simp only [over]
    show W _ _
    repeat' (first
     | refine q_s ?_ | refine q_z ?_ | refine q_b ?_ | refine q_call hP ?_ rfl (by show [fz false 6 _ (AV.slc _ _ _ _ _ _ _)] = _; rw [fz_ownB hrow rfl])
      | refine q_call hV ?_ rfl (by show [fz false 6 _ (AV.slc _ _ _ _ _ _ _)] = _; rw [fz_ownB hrow rfl]) | refine q_call hw ?_ | refine q_n ?_ | refine q_nn ?_ | refine q_mv ?_
      | refine q_faddr ?_ | refine q_load ?_ | refine q_loadI ?_ | refine q_loadR ?_ | refine q_cmp ?_ | refine q_cmp2 (fun _ => ?_) (fun _ => ?_) | refine q_add ?_ | refine q_rem ?_
      | refine q_bin ?_ | refine q_pickT ?_ | refine q_pickF ?_ | refine q_len ?_ | refine q_lenS ?_ | refine q_len0 ?_ | refine q_ex ?_ | refine q_store ?_ | refine q_storeR ?_
      | refine q_to64 ?_ | refine q_tou64 ?_ | refine q_cvu ?_ | refine q_cvi ?_ | refine q_at ?_ | refine q_nilrow ?_ | refine q_buildS ?_ | refine q_app fun _ => ?_ | refine q_slice0 ?_
      | refine q_sliceE ?_ | refine q_sliceM ?_)
    exact ⟨Or.inr rfl, _, rfl, rfl⟩
  · skip
    repeat' (first
     | refine q_s ?_ | refine q_z ?_ | refine q_b ?_ | refine wo_freshG (n := 3) hsm rfl rfl rfl rfl ?_ | refine wo_sliceR9 rfl rfl rfl rfl (by decide) (by decide) (by decide) rfl rfl ?_
      | refine wo_atR rfl rfl rfl rfl (by decide) (by decide) (by decide) rfl rfl ?_ | refine q_loadR ?_ | refine q_storeR ?_ | refine wo_xor64 rfl (by omega) rfl rfl ?_ | refine q_n ?_
      | refine q_nn ?_ | refine q_mv ?_ | refine q_faddr ?_ | refine q_load ?_ | refine q_loadI ?_ | refine q_loadR ?_ | refine q_cmp ?_ | refine q_cmp2 (fun _ => ?_) (fun _ => ?_)
      | refine q_add ?_ | refine q_rem ?_ | refine q_bin ?_ | refine q_pickT ?_ | refine q_pickF ?_ | refine q_len ?_ | refine q_lenS ?_ | refine q_len0 ?_ | refine q_ex ?_ | refine q_store ?_
      | refine q_storeR ?_ | refine q_to64 ?_ | refine q_tou64 ?_ | refine q_cvu ?_ | refine q_cvi ?_ | refine q_at ?_ | refine q_nilrow ?_ | refine q_buildS ?_ | refine q_app fun _ => ?_
      | refine q_slice0 ?_ | refine q_sliceE ?_ | refine q_sliceM ?_)
    obtain ⟨ms, hms⟩ : ∃ ms : List (Int × Cmd), ms = [(0, smB (size % 18446744073709551616 % 513)), (1, rsz (size % 18446744073709551616 % 513)), (2, ⟨6, 0, 0, 0, 0, 2, 0, crcMore 0 (payB (rsz (size % 18446744073709551616 % 513))), []⟩)] := ⟨_, rfl⟩
    have hchk : ∀ x ∈ ms, (chkP x.2 ∧ 0 ≤ x.1 ∧ x.1 ≤ 4294967295) ∧ x.2.data = [] := by
      intro x hx
      rw [hms] at hx
      simp only [List.mem_cons, List.not_mem_nil, or_false] at hx
      rcases hx with rfl | rfl | rfl
      all_goals
        refine ⟨⟨?_, by simp, by simp⟩, rfl⟩
        first | exact smB_chk hS0 | exact (rsz_chk hS0).1 | exact smE_chk | exact end_chk (by decide) hrd | exact end_chk (by decide) ⟨by omega, by omega⟩
    have hfl := frsB_le (ms := ms) fun x hx => (hchk x hx).1.1
    have hmn : ms.length = 3 := by rw [hms]; rfl
    obtain ⟨L, hP, hV⟩ := fin ms 68 14 (by rw [hms]; exact ord3 hS0) (by omega)
    refine W.mono (Order_loop (fuel := 1000029) (g8 := .int .i64 68) (g9 := .int .i64 14) (xf := xf) (gf := cloneF) 1000023 (by omega) (jl := 0) (gl := 1) (vl := 3) (offl := 0) (n := 3) (js := 2) (gs := 1) (capl := none) (ms := ms) (E := ([smB (size % 18446744073709551616 % 513), rsz (size % 18446744073709551616 % 513), ⟨6, 0, 0, 0, 0, 2, 0, crcMore 0 (payB (rsz (size % 18446744073709551616 % 513))), []⟩]).map (Cmd.av false true 0)) (by omega) hmn (by omega) ?_ ?_ (by omega) ?_ (fun x hx => (hchk x hx).2) ?_ (fun x hx => (hchk x hx).1) (by decide) (by decide) ?_ ?_) ?_
    · rfl
    · rfl
    · intro i c hc
      rw [hms] at hc
      obtain ⟨hi, hc⟩ := List.getElem?_eq_some_iff.1 hc
      simp only [List.length_cons, List.length_nil] at hi
      have : i = 0 ∨ i = 1 ∨ i = 2 := by omega
      rcases this with rfl | rfl | rfl <;> rw [← hc] <;> rfl
    · rw [hms]; rfl
    · rfl
    · exact ⟨rfl, rfl, rfl, rfl, rfl, rfl, trivial⟩
    rintro ex T2 H2 ⟨rfl, hrow, h6, h8, h9⟩
    rw [Has.eq (T := T2) (ps := [(6, _), (8, _), (9, _)]) ⟨h6, h8, h9, trivial⟩]
    simp only [over]
    show W _ _
    repeat' (first
     | refine q_s ?_ | refine q_z ?_ | refine q_b ?_ | refine q_call hP ?_ rfl (by show [fz false 6 _ (AV.slc _ _ _ _ _ _ _)] = _; rw [fz_ownB hrow rfl])
      | refine q_call hV ?_ rfl (by show [fz false 6 _ (AV.slc _ _ _ _ _ _ _)] = _; rw [fz_ownB hrow rfl]) | refine q_call hw ?_ | refine q_n ?_ | refine q_nn ?_ | refine q_mv ?_
      | refine q_faddr ?_ | refine q_load ?_ | refine q_loadI ?_ | refine q_loadR ?_ | refine q_cmp ?_ | refine q_cmp2 (fun _ => ?_) (fun _ => ?_) | refine q_add ?_ | refine q_rem ?_
      | refine q_bin ?_ | refine q_pickT ?_ | refine q_pickF ?_ | refine q_len ?_ | refine q_lenS ?_ | refine q_len0 ?_ | refine q_ex ?_ | refine q_store ?_ | refine q_storeR ?_
      | refine q_to64 ?_ | refine q_tou64 ?_ | refine q_cvu ?_ | refine q_cvi ?_ | refine q_at ?_ | refine q_nilrow ?_ | refine q_buildS ?_ | refine q_app fun _ => ?_ | refine q_slice0 ?_
      | refine q_sliceE ?_ | refine q_sliceM ?_)
    exact ⟨Or.inr rfl, _, rfl, rfl⟩
  · have hsm4 : ∃ d : Int, d = crcMore 0 (payB (rsz (size % 18446744073709551616 % 513))) := ⟨_, rfl⟩
    obtain ⟨d, hd⟩ := hsm4
    have hE4 : smL (size % 18446744073709551616 % 513) = [smB (size % 18446744073709551616 % 513), rsz (size % 18446744073709551616 % 513), ⟨6, 0, 0, 0, 0, 1, 0, d, []⟩] := by rw [hd]; rfl
    have ho := ord4 hS0
    rw [hE4] at hsm
    rw [← hd] at ho hx hrd
    repeat' (first
     | refine q_s ?_ | refine q_z ?_ | refine q_b ?_ | refine wo_freshG (n := 3) hsm rfl rfl rfl rfl ?_ | refine wo_sliceR9 rfl rfl rfl rfl (by decide) (by decide) (by decide) rfl rfl ?_
      | refine wo_atR rfl rfl rfl rfl (by decide) (by decide) (by decide) rfl rfl ?_ | refine q_loadR ?_ | refine q_storeR ?_ | refine wo_xor64 (a := d) rfl (by omega) rfl rfl ?_
      | refine q_n ?_ | refine q_nn ?_ | refine q_mv ?_ | refine q_faddr ?_ | refine q_load ?_ | refine q_loadI ?_ | refine q_loadR ?_ | refine q_cmp ?_
      | refine q_cmp2 (fun _ => ?_) (fun _ => ?_) | refine q_add ?_ | refine q_rem ?_ | refine q_bin ?_ | refine q_pickT ?_ | refine q_pickF ?_ | refine q_len ?_ | refine q_lenS ?_
      | refine q_len0 ?_ | refine q_ex ?_ | refine q_store ?_ | refine q_storeR ?_ | refine q_to64 ?_ | refine q_tou64 ?_ | refine q_cvu ?_ | refine q_cvi ?_ | refine q_at ?_
      | refine q_nilrow ?_ | refine q_buildS ?_ | refine q_app fun _ => ?_ | refine q_slice0 ?_ | refine q_sliceE ?_ | refine q_sliceM ?_)
    obtain ⟨ms, hms⟩ : ∃ ms : List (Int × Cmd), ms = [(0, smB (size % 18446744073709551616 % 513)), (1, rsz (size % 18446744073709551616 % 513)), (2, ⟨6, 0, 0, 0, 0, 1, 0, ((d).toNat ^^^ 1 : Nat), []⟩)] := ⟨_, rfl⟩
    have hchk : ∀ x ∈ ms, (chkP x.2 ∧ 0 ≤ x.1 ∧ x.1 ≤ 4294967295) ∧ x.2.data = [] := by
      intro x hx
      rw [hms] at hx
      simp only [List.mem_cons, List.not_mem_nil, or_false] at hx
      rcases hx with rfl | rfl | rfl
      all_goals
        refine ⟨⟨?_, by simp, by simp⟩, rfl⟩
        first | exact smB_chk hS0 | exact (rsz_chk hS0).1 | exact smE_chk | exact end_chk (by decide) hrd | exact end_chk (by decide) ⟨by omega, by omega⟩
    have hfl := frsB_le (ms := ms) fun x hx => (hchk x hx).1.1
    have hmn : ms.length = 3 := by rw [hms]; rfl
    obtain ⟨L, hP, hV⟩ := fin ms 68 15 (by rw [hms]; exact ho) (by omega)
    refine W.mono (Order_loop (fuel := 1000029) (g8 := .int .i64 68) (g9 := .int .i64 15) (xf := xf) (gf := cloneF) 1000023 (by omega) (jl := 0) (gl := 1) (vl := 3) (offl := 0) (n := 3) (js := 2) (gs := 1) (capl := none) (ms := ms) (E := ([smB (size % 18446744073709551616 % 513), rsz (size % 18446744073709551616 % 513), ⟨6, 0, 0, 0, 0, 1, 0, ((d).toNat ^^^ 1 : Nat), []⟩]).map (Cmd.av false true 0)) (by omega) hmn (by omega) ?_ ?_ (by omega) ?_ (fun x hx => (hchk x hx).2) ?_ (fun x hx => (hchk x hx).1) (by decide) (by decide) ?_ ?_) ?_
    · rfl
    · rfl
    · intro i c hc
      rw [hms] at hc
      obtain ⟨hi, hc⟩ := List.getElem?_eq_some_iff.1 hc
      simp only [List.length_cons, List.length_nil] at hi
      have : i = 0 ∨ i = 1 ∨ i = 2 := by omega
      rcases this with rfl | rfl | rfl <;> rw [← hc] <;> rfl
    · rw [hms]; rfl
    · rfl
    · exact ⟨rfl, rfl, rfl, rfl, rfl, rfl, trivial⟩
    rintro ex T2 H2 ⟨rfl, hrow, h6, h8, h9⟩
    rw [Has.eq (T := T2) (ps := [(6, _), (8, _), (9, _)]) ⟨h6, h8, h9, trivial⟩]
    simp only [over]
    show W _ _
    repeat' (first
     | refine q_s ?_ | refine q_z ?_ | refine q_b ?_ | refine q_call hP ?_ rfl (by show [fz false 6 _ (AV.slc _ _ _ _ _ _ _)] = _; rw [fz_ownB hrow rfl])
      | refine q_call hV ?_ rfl (by show [fz false 6 _ (AV.slc _ _ _ _ _ _ _)] = _; rw [fz_ownB hrow rfl]) | refine q_call hw ?_ | refine q_n ?_ | refine q_nn ?_ | refine q_mv ?_
      | refine q_faddr ?_ | refine q_load ?_ | refine q_loadI ?_ | refine q_loadR ?_ | refine q_cmp ?_ | refine q_cmp2 (fun _ => ?_) (fun _ => ?_) | refine q_add ?_ | refine q_rem ?_
      | refine q_bin ?_ | refine q_pickT ?_ | refine q_pickF ?_ | refine q_len ?_ | refine q_lenS ?_ | refine q_len0 ?_ | refine q_ex ?_ | refine q_store ?_ | refine q_storeR ?_
      | refine q_to64 ?_ | refine q_tou64 ?_ | refine q_cvu ?_ | refine q_cvi ?_ | refine q_at ?_ | refine q_nilrow ?_ | refine q_buildS ?_ | refine q_app fun _ => ?_ | refine q_slice0 ?_
      | refine q_sliceE ?_ | refine q_sliceM ?_)
    exact ⟨Or.inr rfl, _, rfl, rfl⟩
  · skip
    repeat' (first
     | refine q_s ?_ | refine q_z ?_ | refine q_b ?_ | refine wo_freshG (n := 3) hsm rfl rfl rfl rfl ?_ | refine wo_sliceR9 rfl rfl rfl rfl (by decide) (by decide) (by decide) rfl rfl ?_
      | refine wo_atR rfl rfl rfl rfl (by decide) (by decide) (by decide) rfl rfl ?_ | refine q_loadR ?_ | refine q_storeR ?_ | refine wo_xor64 rfl (by omega) rfl rfl ?_ | refine q_n ?_
      | refine q_nn ?_ | refine q_mv ?_ | refine q_faddr ?_ | refine q_load ?_ | refine q_loadI ?_ | refine q_loadR ?_ | refine q_cmp ?_ | refine q_cmp2 (fun _ => ?_) (fun _ => ?_)
      | refine q_add ?_ | refine q_rem ?_ | refine q_bin ?_ | refine q_pickT ?_ | refine q_pickF ?_ | refine q_len ?_ | refine q_lenS ?_ | refine q_len0 ?_ | refine q_ex ?_ | refine q_store ?_
      | refine q_storeR ?_ | refine q_to64 ?_ | refine q_tou64 ?_ | refine q_cvu ?_ | refine q_cvi ?_ | refine q_at ?_ | refine q_nilrow ?_ | refine q_buildS ?_ | refine q_app fun _ => ?_
      | refine q_slice0 ?_ | refine q_sliceE ?_ | refine q_sliceM ?_)
    obtain ⟨ms, hms⟩ : ∃ ms : List (Int × Cmd), ms = [(1, smB (size % 18446744073709551616 % 513)), (1, rsz (size % 18446744073709551616 % 513)), (2, smE (size % 18446744073709551616 % 513))] := ⟨_, rfl⟩
    have hchk : ∀ x ∈ ms, (chkP x.2 ∧ 0 ≤ x.1 ∧ x.1 ≤ 4294967295) ∧ x.2.data = [] := by
      intro x hx
      rw [hms] at hx
      simp only [List.mem_cons, List.not_mem_nil, or_false] at hx
      rcases hx with rfl | rfl | rfl
      all_goals
        refine ⟨⟨?_, by simp, by simp⟩, rfl⟩
        first | exact smB_chk hS0 | exact (rsz_chk hS0).1 | exact smE_chk | exact end_chk (by decide) hrd | exact end_chk (by decide) ⟨by omega, by omega⟩
    have hfl := frsB_le (ms := ms) fun x hx => (hchk x hx).1.1
    have hmn : ms.length = 3 := by rw [hms]; rfl
    obtain ⟨L, hP, hV⟩ := fin ms 0 14 (by rw [hms]; exact ord5 hS0) (by omega)
    refine W.mono (Order_loop (fuel := 1000029) (g8 := .int .i64 0) (g9 := .int .i64 14) (xf := xf) (gf := cloneF) 1000023 (by omega) (jl := 0) (gl := 1) (vl := 3) (offl := 0) (n := 3) (js := 2) (gs := 1) (capl := none) (ms := ms) (E := (smL (size % 18446744073709551616 % 513)).map (Cmd.av false true 0)) (by omega) hmn (by omega) ?_ ?_ (by omega) ?_ (fun x hx => (hchk x hx).2) ?_ (fun x hx => (hchk x hx).1) (by decide) (by decide) ?_ ?_) ?_
    · rfl
    · rfl
    · intro i c hc
      rw [hms] at hc
      obtain ⟨hi, hc⟩ := List.getElem?_eq_some_iff.1 hc
      simp only [List.length_cons, List.length_nil] at hi
      have : i = 0 ∨ i = 1 ∨ i = 2 := by omega
      rcases this with rfl | rfl | rfl <;> rw [← hc] <;> rfl
    · rw [hms]; rfl
    · rfl
    · exact ⟨rfl, rfl, rfl, rfl, rfl, rfl, trivial⟩
    rintro ex T2 H2 ⟨rfl, hrow, h6, h8, h9⟩
    rw [Has.eq (T := T2) (ps := [(6, _), (8, _), (9, _)]) ⟨h6, h8, h9, trivial⟩]
    simp only [over]
    show W _ _
    repeat' (first
     | refine q_s ?_ | refine q_z ?_ | refine q_b ?_ | refine q_call hP ?_ rfl (by show [fz false 6 _ (AV.slc _ _ _ _ _ _ _)] = _; rw [fz_ownB hrow rfl])
      | refine q_call hV ?_ rfl (by show [fz false 6 _ (AV.slc _ _ _ _ _ _ _)] = _; rw [fz_ownB hrow rfl]) | refine q_call hw ?_ | refine q_n ?_ | refine q_nn ?_ | refine q_mv ?_
      | refine q_faddr ?_ | refine q_load ?_ | refine q_loadI ?_ | refine q_loadR ?_ | refine q_cmp ?_ | refine q_cmp2 (fun _ => ?_) (fun _ => ?_) | refine q_add ?_ | refine q_rem ?_
      | refine q_bin ?_ | refine q_pickT ?_ | refine q_pickF ?_ | refine q_len ?_ | refine q_lenS ?_ | refine q_len0 ?_ | refine q_ex ?_ | refine q_store ?_ | refine q_storeR ?_
      | refine q_to64 ?_ | refine q_tou64 ?_ | refine q_cvu ?_ | refine q_cvi ?_ | refine q_at ?_ | refine q_nilrow ?_ | refine q_buildS ?_ | refine q_app fun _ => ?_ | refine q_slice0 ?_
      | refine q_sliceE ?_ | refine q_sliceM ?_)
    exact ⟨Or.inr rfl, _, rfl, rfl⟩

end Go.Proofs.YtnakicjkolpacaaDoor
