/- The document's answers: the command that bytes begin with. -/
import Derived.Test.YtoanjhiojpgioaaS23
import Derived.Test.YtoanjhiojpgioaaS14
import Derived.Test.YtoanjhiojpgioaaS19
set_option linter.unusedSimpArgs false
set_option linter.unusedVariables false
set_option maxRecDepth 10000
set_option maxHeartbeats 16000000
namespace Go.Proofs.Ytoanjhiojpgioaa
open Go.AI

section
variable {cf : CallF} {xf : ExtF} {base : Nat} {T : Tmps} {H : Heap} {QO : Tmps → Heap → Prop} {log : List FP} {g : Option (Nat × Bool)} {un : List Nat} {r : List SOper} {d : Nat}
theorem wo_indexS {x y : SArg} {b : ByteArray} {k : IntKind} {n : Int} {c : UInt8} (hx : x.ev T = .str b) (hy : y.ev T = .int k n) (h0 : 0 ≤ n) (hc : b.data.toList[n.toNat]? = some c) (hw : awanted T g = some true) (hl : logOk log .z un = true)
    (h : WO (aops cf xf base r (log ++ [.z]) (T.upd d (.int .u8 c.toNat)) H) QO) : WO (aops cf xf base (⟨some d, .indexS x y, g, un⟩ :: r) log T H) QO :=
  wo_step (v := .int .u8 c.toNat) hw (by simp only [aop, hx, hy, natOf, if_pos h0, Option.bind_eq_bind, Option.bind_some, hc, rv]) hl h
end

attribute [local irreducible] aops aexec acall aiter aop W WO

variable {xf : ExtF} {gf : CallF}

theorem ParseFrame_loop {cf : CallF} {base fuel : Nat} {T : Tmps} {H : Heap} {t f : Bool} {l : List UInt8} {v9 : AV} (hk : 5 < fuel) (hl : l.length < 1000000)
    (h1 : H 1 = ⟨1, false, .row 9 [c0Av]⟩) (h0 : H 0 = ⟨1, false, .row 9 [c0Av]⟩)
    (hT : Has T [(0, .islc t f 1 (BL l)), (2, .ptr 0 1 1 9 0 0), (6, .ptr 1 1 1 9 0 0), (7, .str ⟨#[70, 82, 65, 77]⟩), (8, .int .i64 0)]) :
    W (aexec cf xf base fuel (.loop ref01_ParseFrame_l0) T H) (fun ex T' H' => (ex = .ret ∧ ¬ l.take 4 = ([70, 82, 65, 77] : List UInt8).take l.length ∧ H' 0 = ⟨1, false, .row 9 [c0Av]⟩ ∧ T' 2 = .ptr 0 1 1 9 0 0 ∧ T' 3 = .int .i64 0 ∧ T' 4 = .int .i64 0 ∧ T' 5 = .int .i64 13) ∨
      (ex = .exit 0 ∧ H' = H ∧ l.take 4 = ([70, 82, 65, 77] : List UInt8).take l.length ∧ T' 0 = .islc t f 1 (BL l) ∧ T' 2 = .ptr 0 1 1 9 0 0 ∧ T' 6 = .ptr 1 1 1 9 0 0)) := by
  refine w_loop (fun m T' H' => m ≤ 4 ∧ 4 - m ≤ l.length ∧ H' = H ∧ l.take (4 - m) = ([70, 82, 65, 77] : List UInt8).take (4 - m) ∧ Has T' [(0, .islc t f 1 (BL l)), (2, .ptr 0 1 1 9 0 0), (6, .ptr 1 1 1 9 0 0), (7, .str ⟨#[70, 82, 65, 77]⟩), (8, .int .i64 ((4 - m : Nat) : Int))])
    4 ⟨Nat.le_refl _, by omega, rfl, by simp, ⟨hT.1, hT.2.1, hT.2.2.1, hT.2.2.2.1, by rw [hT.2.2.2.2.1]; rfl, trivial⟩⟩ (by omega) ?_
  rintro m T H1 hm ⟨_, hle, rfl, heq, hT⟩
  obtain ⟨i, hi⟩ : ∃ i, i = 4 - m := ⟨_, rfl⟩
  rw [← hi] at hT heq hle
  have hfin : (i = 4 ∨ i = l.length) → l.take 4 = ([70, 82, 65, 77] : List UInt8).take l.length := by
    rintro (h | h)
    · rw [← h, heq, h, List.take_of_length_le (by simp), List.take_of_length_le (by simp; omega)]
    · rw [h, List.take_length] at heq
      rw [List.take_of_length_le (by omega)]
      exact heq
  by_cases hgo : i < 4 ∧ i < l.length
  · have hc : (⟨#[70, 82, 65, 77]⟩ : ByteArray).data.toList[(i : Int).toNat]? = some (([70, 82, 65, 77] : List UInt8)[i]'(by simp; omega)) := by
      rw [Int.toNat_natCast]
      exact List.getElem?_eq_getElem (by simp; omega)
    have hbi : bAt l (i : Int) = l[i] := by simp [bAt, hgo.2]
    rw [hT.eq]
    simp only [over]
    unfold ref01_ParseFrame_l0
    repeat' (first
     | refine wo_nil ?_
     | refine w_seq ?_
     | refine w_region ?_
     | refine w_ret ?_
     | refine w_skip ?_
     | refine w_exit ?_
     | refine w_block ?_
     | refine w_true rfl ?_
     | refine w_false rfl ?_
     | refine wo_n rfl ?_
     | refine wo_nn rfl ?_
     | refine wo_indexS rfl rfl (by omega) hc rfl rfl ?_
     | refine wo_load c0Av rfl (row_of h1 rfl) rfl (Nat.le_of_ble_eq_true rfl) rfl rfl rfl ?_
     | refine wo_storeR rfl h0 rfl rfl rfl rfl rfl rfl (Nat.le_of_ble_eq_true rfl) rfl rfl ?_
     | refine wo_mv _ (by conv => lhs; whnf) rfl rfl ?_
     | (refine is_load ?_; first | refine wo_load _ rfl rfl rfl (Nat.le_of_ble_eq_true rfl) (by conv => lhs; whnf) rfl rfl ?_ | refine wo_loadI _ rfl (Nat.le_of_ble_eq_true rfl) (by conv => lhs; whnf) rfl rfl ?_)
     | (refine is_bin ?_; first | refine wo_cmpT rfl rfl rfl (by first | (simp only [cmpP]; done) | (simp only [cmpP]; omega)) rfl rfl ?_ | refine wo_cmpF rfl rfl rfl (by first | (simp only [cmpP]; done) | (simp only [cmpP]; omega)) rfl rfl ?_ | refine wo_cmp rfl rfl rfl rfl rfl (fun _ => ?_) (fun _ => ?_) | refine wo_add rfl rfl (by omega) rfl rfl ?_)
     | (refine is_pick ?_; first | refine wo_pickT _ rfl (by conv => lhs; whnf) rfl rfl ?_ | refine wo_pickF _ rfl (by conv => lhs; whnf) rfl rfl ?_)
     | (refine is_len ?_; first | refine wo_len rfl rfl rfl ?_ | refine wo_lenS rfl rfl rfl ?_ | refine wo_len0 rfl rfl rfl ?_)
     | refine wo_store rfl rfl rfl rfl rfl rfl rfl (Nat.le_of_ble_eq_true rfl) rfl rfl ?_
     | refine wo_at rfl rfl (by omega) (by omega) rfl rfl ?_)
    · rename_i h2
      simp only [cmpP] at h2
      refine .inl ⟨rfl, fun hh => h2 ?_, rfl, rfl, rfl, rfl, rfl⟩
      have e : l[i]? = ([70, 82, 65, 77] : List UInt8)[i]? := by
        have e1 : (l.take 4)[i]? = (([70, 82, 65, 77] : List UInt8).take l.length)[i]? := by rw [hh]
        rwa [List.getElem?_take_of_lt hgo.1, List.getElem?_take_of_lt hgo.2] at e1
      rw [List.getElem?_eq_getElem hgo.2, List.getElem?_eq_getElem (by simp; omega)] at e
      rw [hbi]
      have := Option.some.inj e
      rw [this]
    · rename_i h2
      simp only [cmpP] at h2
      have h3 := Classical.not_not.1 h2
      rw [hbi] at h3
      have h4 : l[i] = ([70, 82, 65, 77] : List UInt8)[i]'(by simp; omega) := UInt8.toNat_inj.1 (by omega)
      refine ⟨by omega, by omega, by omega, rfl, ?_, rfl, rfl, rfl, rfl, by show AV.int _ _ = AV.int _ _; congr 1; omega, trivial⟩
      rw [show 4 - (m - 1) = i + 1 by omega, List.take_succ_eq_append_getElem hgo.2, List.take_succ_eq_append_getElem (by simp; omega), heq, h4]
  · by_cases h4 : i < 4
    · rw [hT.eq]
      simp only [over]
      unfold ref01_ParseFrame_l0
      repeat' (first
       | refine wo_nil ?_
       | refine w_seq ?_
       | refine w_region ?_
       | refine w_ret ?_
       | refine w_skip ?_
       | refine w_exit ?_
       | refine w_block ?_
       | refine w_true rfl ?_
       | refine w_false rfl ?_
       | refine wo_n rfl ?_
       | refine wo_nn rfl ?_
       | refine wo_mv _ (by conv => lhs; whnf) rfl rfl ?_
       | (refine is_load ?_; first | refine wo_load _ rfl rfl rfl (Nat.le_of_ble_eq_true rfl) (by conv => lhs; whnf) rfl rfl ?_ | refine wo_loadI _ rfl (Nat.le_of_ble_eq_true rfl) (by conv => lhs; whnf) rfl rfl ?_)
       | (refine is_bin ?_; first | refine wo_cmpT rfl rfl rfl (by first | (simp only [cmpP]; done) | (simp only [cmpP]; omega)) rfl rfl ?_ | refine wo_cmpF rfl rfl rfl (by first | (simp only [cmpP]; done) | (simp only [cmpP]; omega)) rfl rfl ?_ | refine wo_cmp rfl rfl rfl rfl rfl (fun _ => ?_) (fun _ => ?_) | refine wo_add rfl rfl (by omega) rfl rfl ?_)
       | (refine is_pick ?_; first | refine wo_pickT _ rfl (by conv => lhs; whnf) rfl rfl ?_ | refine wo_pickF _ rfl (by conv => lhs; whnf) rfl rfl ?_)
       | (refine is_len ?_; first | refine wo_len rfl rfl rfl ?_ | refine wo_lenS rfl rfl rfl ?_ | refine wo_len0 rfl rfl rfl ?_)
       | refine wo_store rfl rfl rfl rfl rfl rfl rfl (Nat.le_of_ble_eq_true rfl) rfl rfl ?_
       | refine wo_at rfl rfl (by omega) (by omega) rfl rfl ?_)
      exact .inr ⟨rfl, rfl, hfin (.inr (by omega)), rfl, rfl, rfl⟩
    · rw [hT.eq]
      simp only [over]
      unfold ref01_ParseFrame_l0
      repeat' (first
       | refine wo_nil ?_
       | refine w_seq ?_
       | refine w_region ?_
       | refine w_ret ?_
       | refine w_skip ?_
       | refine w_exit ?_
       | refine w_block ?_
       | refine w_true rfl ?_
       | refine w_false rfl ?_
       | refine wo_n rfl ?_
       | refine wo_nn rfl ?_
       | refine wo_mv _ (by conv => lhs; whnf) rfl rfl ?_
       | (refine is_load ?_; first | refine wo_load _ rfl rfl rfl (Nat.le_of_ble_eq_true rfl) (by conv => lhs; whnf) rfl rfl ?_ | refine wo_loadI _ rfl (Nat.le_of_ble_eq_true rfl) (by conv => lhs; whnf) rfl rfl ?_)
       | (refine is_bin ?_; first | refine wo_cmpT rfl rfl rfl (by first | (simp only [cmpP]; done) | (simp only [cmpP]; omega)) rfl rfl ?_ | refine wo_cmpF rfl rfl rfl (by first | (simp only [cmpP]; done) | (simp only [cmpP]; omega)) rfl rfl ?_ | refine wo_cmp rfl rfl rfl rfl rfl (fun _ => ?_) (fun _ => ?_) | refine wo_add rfl rfl (by omega) rfl rfl ?_)
       | (refine is_pick ?_; first | refine wo_pickT _ rfl (by conv => lhs; whnf) rfl rfl ?_ | refine wo_pickF _ rfl (by conv => lhs; whnf) rfl rfl ?_)
       | (refine is_len ?_; first | refine wo_len rfl rfl rfl ?_ | refine wo_lenS rfl rfl rfl ?_ | refine wo_len0 rfl rfl rfl ?_)
       | refine wo_store rfl rfl rfl rfl rfl rfl rfl (Nat.le_of_ble_eq_true rfl) rfl rfl ?_
       | refine wo_at rfl rfl (by omega) (by omega) rfl rfl ?_)
      exact .inr ⟨rfl, rfl, hfin (.inl (by omega)), rfl, rfl, rfl⟩

theorem e_ref_ParseFrame (k : Nat) (hk : 1000000 ≤ k) (t f : Bool) (l : List UInt8) (hl : l.length < 900000) : FnV (acall B xf gf (k + 5)) n_ref01_ParseFrame [.islc t f 1 (BL l)] (parseAv l) := by
  refine fn_of B_ref01_ParseFrame rfl ?_
  unfold ref01_ParseFrame
  repeat' (first
   | refine wo_nil ?_
   | refine w_seq ?_
   | refine w_region ?_
   | refine w_ret ?_
   | refine w_skip ?_
   | refine w_exit ?_
   | refine w_block ?_
   | refine w_true rfl ?_
   | refine w_false rfl ?_
   | refine wo_n rfl ?_
   | refine wo_nn rfl ?_
   | refine wo_mv _ (by conv => lhs; whnf) rfl rfl ?_
   | (refine is_load ?_; first | refine wo_load _ rfl rfl rfl (Nat.le_of_ble_eq_true rfl) (by conv => lhs; whnf) rfl rfl ?_ | refine wo_loadI _ rfl (Nat.le_of_ble_eq_true rfl) (by conv => lhs; whnf) rfl rfl ?_)
   | (refine is_bin ?_; first | refine wo_cmpT rfl rfl rfl (by first | (simp only [cmpP]; done) | (simp only [cmpP]; omega)) rfl rfl ?_ | refine wo_cmpF rfl rfl rfl (by first | (simp only [cmpP]; done) | (simp only [cmpP]; omega)) rfl rfl ?_ | refine wo_cmp rfl rfl rfl rfl rfl (fun _ => ?_) (fun _ => ?_) | refine wo_add rfl rfl (by omega) rfl rfl ?_)
   | (refine is_pick ?_; first | refine wo_pickT _ rfl (by conv => lhs; whnf) rfl rfl ?_ | refine wo_pickF _ rfl (by conv => lhs; whnf) rfl rfl ?_)
   | (refine is_un ?_; first | refine wo_notT rfl rfl rfl ?_ | refine wo_notF rfl rfl rfl ?_)
   | (refine is_len ?_; first | refine wo_len rfl rfl rfl ?_ | refine wo_lenS rfl rfl rfl ?_ | refine wo_len0 rfl rfl rfl ?_)
   | refine wo_extractW rfl rfl (by conv => lhs; whnf) rfl rfl ?_
   | refine wo_store rfl rfl rfl rfl rfl rfl rfl (Nat.le_of_ble_eq_true rfl) rfl rfl ?_
   | refine wo_box _ (by conv => lhs; whnf) (by rfl) rfl rfl ?_
   | refine wo_at rfl rfl (by omega) (by omega) rfl rfl ?_
   | refine wo_build (.agg _) rfl rfl rfl rfl ?_
   | (refine is_slice ?_; first | refine wo_slice0 rfl (by (first | exact Or.inl rfl | exact Or.inr rfl | assumption)) rfl (by omega) (by omega) rfl rfl ?_ | refine wo_sliceE rfl (by (first | exact Or.inl rfl | exact Or.inr rfl | assumption)) rfl (by omega) (by omega) rfl rfl ?_ | refine wo_sliceM rfl (by (first | exact Or.inl rfl | exact Or.inr rfl | assumption)) rfl rfl (by omega) (by omega) (by omega) rfl rfl ?_))
  refine (ParseFrame_loop (l := l) (t := t) (f := f) (v9 := .undef) (by omega) (by omega) rfl rfl ?_).mono ?_
  · exact ⟨rfl, rfl, rfl, rfl, rfl, trivial⟩
  rintro ex T2 H2 (⟨rfl, hne, h0, h2, h3, h4, h5⟩ | ⟨rfl, rfl, hpre, h0, h2, h6⟩)
  · have hP : lenP l = (0, 13) := by unfold lenP; rw [if_pos hne]
    have he : pErr l = 13 := by unfold pErr; rw [hP]; rfl
    unfold parseAv
    rw [he, if_neg (by decide)]
    refine ⟨Or.inr rfl, .tup [c0Av, .int .i64 0, .int .i64 0, .int .i64 13], ?_, rfl⟩
    simp only [aresults, ares, List.mapM_cons, List.mapM_nil, h2, h3, h4, h5, row_of (ver := 1) h0 rfl]
    rfl
  · rw [Has.eq (T := T2) (ps := [(0, _), (2, _), (6, _)]) ⟨h0, h2, h6, trivial⟩]
    simp only [over]
    show W _ _
    by_cases h16 : l.length < 16
    · have hP : lenP l = (0, 16) := by unfold lenP; rw [if_neg (fun h => h hpre), if_pos h16]
      have he : pErr l = 16 := by unfold pErr; rw [hP]; rfl
      unfold parseAv
      rw [he, if_neg (by decide)]
      repeat' (first
       | refine wo_nil ?_
       | refine w_seq ?_
       | refine w_region ?_
       | refine w_ret ?_
       | refine w_skip ?_
       | refine w_exit ?_
       | refine w_block ?_
       | refine w_true rfl ?_
       | refine w_false rfl ?_
       | refine wo_n rfl ?_
       | refine wo_nn rfl ?_
       | refine wo_mv _ (by conv => lhs; whnf) rfl rfl ?_
       | (refine is_load ?_; first | refine wo_load _ rfl rfl rfl (Nat.le_of_ble_eq_true rfl) (by conv => lhs; whnf) rfl rfl ?_ | refine wo_loadI _ rfl (Nat.le_of_ble_eq_true rfl) (by conv => lhs; whnf) rfl rfl ?_)
       | (refine is_bin ?_; first | refine wo_cmpT rfl rfl rfl (by first | (simp only [cmpP]; done) | (simp only [cmpP]; omega)) rfl rfl ?_ | refine wo_cmpF rfl rfl rfl (by first | (simp only [cmpP]; done) | (simp only [cmpP]; omega)) rfl rfl ?_ | refine wo_cmp rfl rfl rfl rfl rfl (fun _ => ?_) (fun _ => ?_) | refine wo_add rfl rfl (by omega) rfl rfl ?_)
       | (refine is_pick ?_; first | refine wo_pickT _ rfl (by conv => lhs; whnf) rfl rfl ?_ | refine wo_pickF _ rfl (by conv => lhs; whnf) rfl rfl ?_)
       | (refine is_un ?_; first | refine wo_notT rfl rfl rfl ?_ | refine wo_notF rfl rfl rfl ?_)
       | (refine is_len ?_; first | refine wo_len rfl rfl rfl ?_ | refine wo_lenS rfl rfl rfl ?_ | refine wo_len0 rfl rfl rfl ?_)
       | refine wo_extractW rfl rfl (by conv => lhs; whnf) rfl rfl ?_
       | refine wo_store rfl rfl rfl rfl rfl rfl rfl (Nat.le_of_ble_eq_true rfl) rfl rfl ?_
       | refine wo_box _ (by conv => lhs; whnf) (by rfl) rfl rfl ?_
       | refine wo_at rfl rfl (by omega) (by omega) rfl rfl ?_
       | refine wo_build (.agg _) rfl rfl rfl rfl ?_
       | (refine is_slice ?_; first | refine wo_slice0 rfl (by (first | exact Or.inl rfl | exact Or.inr rfl | assumption)) rfl (by omega) (by omega) rfl rfl ?_ | refine wo_sliceE rfl (by (first | exact Or.inl rfl | exact Or.inr rfl | assumption)) rfl (by omega) (by omega) rfl rfl ?_ | refine wo_sliceM rfl (by (first | exact Or.inl rfl | exact Or.inr rfl | assumption)) rfl rfl (by omega) (by omega) (by omega) rfl rfl ?_))
      exact ⟨Or.inr rfl, _, rfl, rfl⟩
    have hg12 := e_ref_Get4 (xf := xf) (gf := gf) (k + 2) (by omega) t f l 12 (by omega) (by omega)
    obtain ⟨n, hn⟩ : ∃ n, n = leN ((l.drop 12).take 4) := ⟨_, rfl⟩
    rw [← hn] at hg12
    by_cases h520 : 520 < n
    · have hP : lenP l = (0, 13) := by unfold lenP; rw [if_neg (fun h => h hpre), if_neg h16, ← hn, if_pos h520]
      have he : pErr l = 13 := by unfold pErr; rw [hP]; rfl
      unfold parseAv
      rw [he, if_neg (by decide)]
      repeat' (first
       | refine wo_nil ?_
       | refine w_seq ?_
       | refine w_region ?_
       | refine w_ret ?_
       | refine w_skip ?_
       | refine w_exit ?_
       | refine w_block ?_
       | refine w_true rfl ?_
       | refine w_false rfl ?_
       | refine wo_n rfl ?_
       | refine wo_nn rfl ?_
       | refine wo_call hg12 rfl rfl rfl ?_
       | refine wo_mv _ (by conv => lhs; whnf) rfl rfl ?_
       | (refine is_load ?_; first | refine wo_load _ rfl rfl rfl (Nat.le_of_ble_eq_true rfl) (by conv => lhs; whnf) rfl rfl ?_ | refine wo_loadI _ rfl (Nat.le_of_ble_eq_true rfl) (by conv => lhs; whnf) rfl rfl ?_)
       | (refine is_bin ?_; first | refine wo_cmpT rfl rfl rfl (by first | (simp only [cmpP]; done) | (simp only [cmpP]; omega)) rfl rfl ?_ | refine wo_cmpF rfl rfl rfl (by first | (simp only [cmpP]; done) | (simp only [cmpP]; omega)) rfl rfl ?_ | refine wo_cmp rfl rfl rfl rfl rfl (fun _ => ?_) (fun _ => ?_) | refine wo_add rfl rfl (by omega) rfl rfl ?_)
       | (refine is_pick ?_; first | refine wo_pickT _ rfl (by conv => lhs; whnf) rfl rfl ?_ | refine wo_pickF _ rfl (by conv => lhs; whnf) rfl rfl ?_)
       | (refine is_un ?_; first | refine wo_notT rfl rfl rfl ?_ | refine wo_notF rfl rfl rfl ?_)
       | (refine is_len ?_; first | refine wo_len rfl rfl rfl ?_ | refine wo_lenS rfl rfl rfl ?_ | refine wo_len0 rfl rfl rfl ?_)
       | refine wo_extractW rfl rfl (by conv => lhs; whnf) rfl rfl ?_
       | refine wo_store rfl rfl rfl rfl rfl rfl rfl (Nat.le_of_ble_eq_true rfl) rfl rfl ?_
       | refine wo_box _ (by conv => lhs; whnf) (by rfl) rfl rfl ?_
       | refine wo_at rfl rfl (by omega) (by omega) rfl rfl ?_
       | refine wo_build (.agg _) rfl rfl rfl rfl ?_
       | (refine is_slice ?_; first | refine wo_slice0 rfl (by (first | exact Or.inl rfl | exact Or.inr rfl | assumption)) rfl (by omega) (by omega) rfl rfl ?_ | refine wo_sliceE rfl (by (first | exact Or.inl rfl | exact Or.inr rfl | assumption)) rfl (by omega) (by omega) rfl rfl ?_ | refine wo_sliceM rfl (by (first | exact Or.inl rfl | exact Or.inr rfl | assumption)) rfl rfl (by omega) (by omega) (by omega) rfl rfl ?_))
      exact ⟨Or.inr rfl, _, rfl, rfl⟩
    by_cases hlt : l.length < 20 + n
    · have hP : lenP l = (0, 16) := by unfold lenP; rw [if_neg (fun h => h hpre), if_neg h16, ← hn, if_neg h520, if_pos hlt]
      have he : pErr l = 16 := by unfold pErr; rw [hP]; rfl
      unfold parseAv
      rw [he, if_neg (by decide)]
      repeat' (first
       | refine wo_nil ?_
       | refine w_seq ?_
       | refine w_region ?_
       | refine w_ret ?_
       | refine w_skip ?_
       | refine w_exit ?_
       | refine w_block ?_
       | refine w_true rfl ?_
       | refine w_false rfl ?_
       | refine wo_n rfl ?_
       | refine wo_nn rfl ?_
       | refine wo_call hg12 rfl rfl rfl ?_
       | refine wo_mv _ (by conv => lhs; whnf) rfl rfl ?_
       | (refine is_load ?_; first | refine wo_load _ rfl rfl rfl (Nat.le_of_ble_eq_true rfl) (by conv => lhs; whnf) rfl rfl ?_ | refine wo_loadI _ rfl (Nat.le_of_ble_eq_true rfl) (by conv => lhs; whnf) rfl rfl ?_)
       | (refine is_bin ?_; first | refine wo_cmpT rfl rfl rfl (by first | (simp only [cmpP]; done) | (simp only [cmpP]; omega)) rfl rfl ?_ | refine wo_cmpF rfl rfl rfl (by first | (simp only [cmpP]; done) | (simp only [cmpP]; omega)) rfl rfl ?_ | refine wo_cmp rfl rfl rfl rfl rfl (fun _ => ?_) (fun _ => ?_) | refine wo_add rfl rfl (by omega) rfl rfl ?_)
       | (refine is_pick ?_; first | refine wo_pickT _ rfl (by conv => lhs; whnf) rfl rfl ?_ | refine wo_pickF _ rfl (by conv => lhs; whnf) rfl rfl ?_)
       | (refine is_un ?_; first | refine wo_notT rfl rfl rfl ?_ | refine wo_notF rfl rfl rfl ?_)
       | (refine is_len ?_; first | refine wo_len rfl rfl rfl ?_ | refine wo_lenS rfl rfl rfl ?_ | refine wo_len0 rfl rfl rfl ?_)
       | refine wo_extractW rfl rfl (by conv => lhs; whnf) rfl rfl ?_
       | refine wo_store rfl rfl rfl rfl rfl rfl rfl (Nat.le_of_ble_eq_true rfl) rfl rfl ?_
       | refine wo_box _ (by conv => lhs; whnf) (by rfl) rfl rfl ?_
       | refine wo_at rfl rfl (by omega) (by omega) rfl rfl ?_
       | refine wo_build (.agg _) rfl rfl rfl rfl ?_
       | (refine is_slice ?_; first | refine wo_slice0 rfl (by (first | exact Or.inl rfl | exact Or.inr rfl | assumption)) rfl (by omega) (by omega) rfl rfl ?_ | refine wo_sliceE rfl (by (first | exact Or.inl rfl | exact Or.inr rfl | assumption)) rfl (by omega) (by omega) rfl rfl ?_ | refine wo_sliceM rfl (by (first | exact Or.inl rfl | exact Or.inr rfl | assumption)) rfl rfl (by omega) (by omega) (by omega) rfl rfl ?_))
      exact ⟨Or.inr rfl, _, rfl, rfl⟩
    have hP : lenP l = (((20 + n : Nat) : Int), 0) := by unfold lenP; rw [if_neg (fun h => h hpre), if_neg h16, ← hn, if_neg h520, if_neg hlt]
    have hD : l.take ((20 : Int) + (n : Int)).toNat = pD l := by unfold pD; rw [hP]; congr 1
    have hdl : (pD l).length = 20 + n := by unfold pD; rw [hP]; simp; omega
    have sub : ∀ a, a + 4 ≤ 20 + n → ((pD l).drop a).take 4 = (l.drop a).take 4 := by
      intro a ha
      unfold pD
      rw [hP]
      simp only [Int.toNat_natCast]
      rw [List.drop_take, List.take_take, show min 4 (20 + n - a) = 4 by omega]
    have hg4 := e_ref_Get4 (xf := xf) (gf := gf) (k + 2) (by omega) t f l 4 (by omega) (by omega)
    have hg8 := e_ref_Get4 (xf := xf) (gf := gf) (k + 2) (by omega) t f l 8 (by omega) (by omega)
    rw [← sub 4 (by omega)] at hg4
    rw [← sub 8 (by omega)] at hg8
    change FnV _ _ _ (.int .i64 (pSeq l)) at hg4
    change FnV _ _ _ (.int .i64 (pKind l)) at hg8
    have hgood := fun f => e_ref_Good (xf := xf) (gf := gf) (k + 1) (by omega) t f (pD l) (by omega)
    have hpay : (l.drop (16 : Int).toNat).take (((16 : Int) + (n : Int)).toNat - (16 : Int).toNat) = pPay l := by
      unfold pPay pD
      rw [hP]
      simp only [Int.toNat_natCast]
      rw [List.drop_take, List.take_take]
      rw [show (16 : Int).toNat = 16 from rfl]
      congr 1
      omega
    have hcl : (pPay l).length < 900000 := by unfold pPay; simp; omega
    cases hgd : goodP (pD l) with
    | false =>
      simp only [hgd] at hgood
      have he : pErr l = 5 := by unfold pErr; rw [hP, hgd]; rfl
      unfold parseAv
      rw [he, if_neg (by decide)]
      repeat' (first
       | refine wo_nil ?_
       | refine w_seq ?_
       | refine w_region ?_
       | refine w_ret ?_
       | refine w_skip ?_
       | refine w_exit ?_
       | refine w_block ?_
       | refine w_true rfl ?_
       | refine w_false rfl ?_
       | refine wo_n rfl ?_
       | refine wo_nn rfl ?_
       | refine wo_call hg12 rfl rfl rfl ?_
       | refine wo_call (hgood _) rfl (by rw [← hD]; rfl) rfl ?_
       | refine wo_mv _ (by conv => lhs; whnf) rfl rfl ?_
       | (refine is_load ?_; first | refine wo_load _ rfl rfl rfl (Nat.le_of_ble_eq_true rfl) (by conv => lhs; whnf) rfl rfl ?_ | refine wo_loadI _ rfl (Nat.le_of_ble_eq_true rfl) (by conv => lhs; whnf) rfl rfl ?_)
       | (refine is_bin ?_; first | refine wo_cmpT rfl rfl rfl (by first | (simp only [cmpP]; done) | (simp only [cmpP]; omega)) rfl rfl ?_ | refine wo_cmpF rfl rfl rfl (by first | (simp only [cmpP]; done) | (simp only [cmpP]; omega)) rfl rfl ?_ | refine wo_cmp rfl rfl rfl rfl rfl (fun _ => ?_) (fun _ => ?_) | refine wo_add rfl rfl (by omega) rfl rfl ?_)
       | (refine is_pick ?_; first | refine wo_pickT _ rfl (by conv => lhs; whnf) rfl rfl ?_ | refine wo_pickF _ rfl (by conv => lhs; whnf) rfl rfl ?_)
       | (refine is_un ?_; first | refine wo_notT rfl rfl rfl ?_ | refine wo_notF rfl rfl rfl ?_)
       | (refine is_len ?_; first | refine wo_len rfl rfl rfl ?_ | refine wo_lenS rfl rfl rfl ?_ | refine wo_len0 rfl rfl rfl ?_)
       | refine wo_extractW rfl rfl (by conv => lhs; whnf) rfl rfl ?_
       | refine wo_store rfl rfl rfl rfl rfl rfl rfl (Nat.le_of_ble_eq_true rfl) rfl rfl ?_
       | refine wo_box _ (by conv => lhs; whnf) (by rfl) rfl rfl ?_
       | refine wo_at rfl rfl (by omega) (by omega) rfl rfl ?_
       | refine wo_build (.agg _) rfl rfl rfl rfl ?_
       | (refine is_slice ?_; first | refine wo_slice0 rfl (by (first | exact Or.inl rfl | exact Or.inr rfl | assumption)) rfl (by omega) (by omega) rfl rfl ?_ | refine wo_sliceE rfl (by (first | exact Or.inl rfl | exact Or.inr rfl | assumption)) rfl (by omega) (by omega) rfl rfl ?_ | refine wo_sliceM rfl (by (first | exact Or.inl rfl | exact Or.inr rfl | assumption)) rfl rfl (by omega) (by omega) (by omega) rfl rfl ?_))
      exact ⟨Or.inr rfl, _, rfl, rfl⟩
    | true =>
      simp only [hgd] at hgood
      cases hok : okC (pKind l) (pPay l) with
      | false =>
        have he : pErr l = 13 := by
          unfold pErr
          rw [hP, hgd]
          unfold okC at hok
          rw [hok]
          rfl
        unfold parseAv
        rw [he, if_neg (by decide)]
        obtain ⟨c', f', s', hcm, hcok⟩ := e_ref_command (xf := xf) (gf := gf) k (by omega) t (f && decide (((16 : Int) + (n : Int)).toNat = l.length)) (pKind l) (pPay l) hcl
        rw [hok] at hcm
        unfold Cmd.av at hcm
        repeat' (first
         | refine wo_nil ?_
         | refine w_seq ?_
         | refine w_region ?_
         | refine w_ret ?_
         | refine w_skip ?_
         | refine w_exit ?_
         | refine w_block ?_
         | refine w_true rfl ?_
         | refine w_false rfl ?_
         | refine wo_n rfl ?_
         | refine wo_nn rfl ?_
         | refine wo_call hg12 rfl rfl rfl ?_
         | refine wo_call (hgood _) rfl (by rw [← hD]; rfl) rfl ?_
         | refine wo_call hg8 rfl rfl rfl ?_
         | refine wo_call hg4 rfl rfl rfl ?_
         | refine wo_call hcm rfl (by rw [← hpay]; rfl) rfl ?_
         | refine wo_mv _ (by conv => lhs; whnf) rfl rfl ?_
         | (refine is_load ?_; first | refine wo_load _ rfl rfl rfl (Nat.le_of_ble_eq_true rfl) (by conv => lhs; whnf) rfl rfl ?_ | refine wo_loadI _ rfl (Nat.le_of_ble_eq_true rfl) (by conv => lhs; whnf) rfl rfl ?_)
         | (refine is_bin ?_; first | refine wo_cmpT rfl rfl rfl (by first | (simp only [cmpP]; done) | (simp only [cmpP]; omega)) rfl rfl ?_ | refine wo_cmpF rfl rfl rfl (by first | (simp only [cmpP]; done) | (simp only [cmpP]; omega)) rfl rfl ?_ | refine wo_cmp rfl rfl rfl rfl rfl (fun _ => ?_) (fun _ => ?_) | refine wo_add rfl rfl (by omega) rfl rfl ?_)
         | (refine is_pick ?_; first | refine wo_pickT _ rfl (by conv => lhs; whnf) rfl rfl ?_ | refine wo_pickF _ rfl (by conv => lhs; whnf) rfl rfl ?_)
         | (refine is_un ?_; first | refine wo_notT rfl rfl rfl ?_ | refine wo_notF rfl rfl rfl ?_)
         | (refine is_len ?_; first | refine wo_len rfl rfl rfl ?_ | refine wo_lenS rfl rfl rfl ?_ | refine wo_len0 rfl rfl rfl ?_)
         | refine wo_extractW rfl rfl (by conv => lhs; whnf) rfl rfl ?_
         | refine wo_store rfl rfl rfl rfl rfl rfl rfl (Nat.le_of_ble_eq_true rfl) rfl rfl ?_
         | refine wo_box _ (by conv => lhs; whnf) (by rfl) rfl rfl ?_
         | refine wo_at rfl rfl (by omega) (by omega) rfl rfl ?_
         | refine wo_build (.agg _) rfl rfl rfl rfl ?_
         | (refine is_slice ?_; first | refine wo_slice0 rfl (by (first | exact Or.inl rfl | exact Or.inr rfl | assumption)) rfl (by omega) (by omega) rfl rfl ?_ | refine wo_sliceE rfl (by (first | exact Or.inl rfl | exact Or.inr rfl | assumption)) rfl (by omega) (by omega) rfl rfl ?_ | refine wo_sliceM rfl (by (first | exact Or.inl rfl | exact Or.inr rfl | assumption)) rfl rfl (by omega) (by omega) (by omega) rfl rfl ?_))
        exact ⟨Or.inr rfl, _, rfl, rfl⟩
      | true =>
        have he : pErr l = 0 := by
          unfold pErr
          rw [hP, hgd]
          unfold okC at hok
          rw [hok]
          rfl
        unfold parseAv
        rw [he, if_pos rfl, hP]
        obtain ⟨c', f', s', hcm, hcok⟩ := e_ref_command (xf := xf) (gf := gf) k (by omega) t (f && decide (((16 : Int) + (n : Int)).toNat = l.length)) (pKind l) (pPay l) hcl
        rw [hok, hcok hok] at hcm
        unfold rawAv Cmd.av at hcm ⊢
        repeat' (first
         | refine wo_nil ?_
         | refine w_seq ?_
         | refine w_region ?_
         | refine w_ret ?_
         | refine w_skip ?_
         | refine w_exit ?_
         | refine w_block ?_
         | refine w_true rfl ?_
         | refine w_false rfl ?_
         | refine wo_n rfl ?_
         | refine wo_nn rfl ?_
         | refine wo_call hg12 rfl rfl rfl ?_
         | refine wo_call (hgood _) rfl (by rw [← hD]; rfl) rfl ?_
         | refine wo_call hg8 rfl rfl rfl ?_
         | refine wo_call hg4 rfl rfl rfl ?_
         | refine wo_call hcm rfl (by rw [← hpay]; rfl) rfl ?_
         | refine wo_mv _ (by conv => lhs; whnf) rfl rfl ?_
         | (refine is_load ?_; first | refine wo_load _ rfl rfl rfl (Nat.le_of_ble_eq_true rfl) (by conv => lhs; whnf) rfl rfl ?_ | refine wo_loadI _ rfl (Nat.le_of_ble_eq_true rfl) (by conv => lhs; whnf) rfl rfl ?_)
         | (refine is_bin ?_; first | refine wo_cmpT rfl rfl rfl (by first | (simp only [cmpP]; done) | (simp only [cmpP]; omega)) rfl rfl ?_ | refine wo_cmpF rfl rfl rfl (by first | (simp only [cmpP]; done) | (simp only [cmpP]; omega)) rfl rfl ?_ | refine wo_cmp rfl rfl rfl rfl rfl (fun _ => ?_) (fun _ => ?_) | refine wo_add rfl rfl (by omega) rfl rfl ?_)
         | (refine is_pick ?_; first | refine wo_pickT _ rfl (by conv => lhs; whnf) rfl rfl ?_ | refine wo_pickF _ rfl (by conv => lhs; whnf) rfl rfl ?_)
         | (refine is_un ?_; first | refine wo_notT rfl rfl rfl ?_ | refine wo_notF rfl rfl rfl ?_)
         | (refine is_len ?_; first | refine wo_len rfl rfl rfl ?_ | refine wo_lenS rfl rfl rfl ?_ | refine wo_len0 rfl rfl rfl ?_)
         | refine wo_extractW rfl rfl (by conv => lhs; whnf) rfl rfl ?_
         | refine wo_store rfl rfl rfl rfl rfl rfl rfl (Nat.le_of_ble_eq_true rfl) rfl rfl ?_
         | refine wo_box _ (by conv => lhs; whnf) (by rfl) rfl rfl ?_
         | refine wo_at rfl rfl (by omega) (by omega) rfl rfl ?_
         | refine wo_build (.agg _) rfl rfl rfl rfl ?_
         | (refine is_slice ?_; first | refine wo_slice0 rfl (by (first | exact Or.inl rfl | exact Or.inr rfl | assumption)) rfl (by omega) (by omega) rfl rfl ?_ | refine wo_sliceE rfl (by (first | exact Or.inl rfl | exact Or.inr rfl | assumption)) rfl (by omega) (by omega) rfl rfl ?_ | refine wo_sliceM rfl (by (first | exact Or.inl rfl | exact Or.inr rfl | assumption)) rfl rfl (by omega) (by omega) (by omega) rfl rfl ?_))
        exact ⟨Or.inr rfl, _, rfl, rfl⟩

end Go.Proofs.Ytoanjhiojpgioaa
