/- Lemmas. -/
import Derived.Test.YtkaiiopoilpjeaaMJ4
import Derived.Test.YtkaiiopoilpjeaaMM
import Derived.Test.YtkaiiopoilpjeaaA30
import Derived.Test.YtkaiiopoilpjeaaMS
set_option linter.unusedSimpArgs false
set_option linter.unusedVariables false
set_option maxRecDepth 10000
set_option maxHeartbeats 16000000
namespace Go.Proofs.Ytkaiiopoilpjeaa
open Go.AI
def rightP (n : Nat) (x : IoV) : Prop := x.kind = 1 ∧ x.at0 < n ∧ x.data.length = 64 ∨ x.kind = 2 ∧ x.at0 = 0 ∧ x.data.length = 0
instance (n : Nat) (x : IoV) : Decidable (rightP n x) := by unfold rightP; infer_instance
def stepsE (l : List UInt8) (ios : List IoV) : Nat := if ¬ devB l.length then 2 else if (ios.any fun x => !decide (rightP (nb l) x)) = true then 1 else 0
attribute [local irreducible] aops aexec acall aiter aop W WO
theorem c_right (k : Nat) (hk : 1 ≤ k) (x : IoV) (n : Nat) : FnV (CF k) n_dev_right [x.av, .int .i64 n] (.bool (decide (rightP n x))) := by
 obtain ⟨kd, a, d, t, f, s⟩ := x
 have hl : (BL d).length = d.length := by simp
 refine fnk (by omega) B_dev_right rfl ?_
 unfold dev_right IoV.av rightP
 simp only
 repeat' (first
  | refine q_s ?_ | refine q_z ?_ | refine q_b ?_ | refine wo_lenG (n := d.length) rfl hl rfl rfl ?_ | refine q_n ?_ | refine q_nn ?_ | refine q_mv ?_ | refine q_faddr ?_ | refine q_faddrI ?_
  | refine q_load ?_ | refine q_loadI ?_ | refine q_loadR ?_ | refine q_loadM ?_ | refine q_cmp ?_ | refine q_cmp2 (fun _ => ?_) (fun _ => ?_) | refine q_pickT ?_ | refine q_pickF ?_
  | refine q_len ?_ | refine q_lenS ?_ | refine q_len0 ?_ | refine q_lenM ?_ | refine q_box ?_)
 all_goals
  refine ⟨Or.inr rfl, _, rfl, ?_⟩
  first
   | exact congrArg AV.bool (decide_eq_true (by simp only [cmpP] at *; omega)).symm
   | exact congrArg AV.bool (decide_eq_false (by simp only [cmpP] at *; omega)).symm
   | (exfalso; simp only [cmpP] at *; omega)
theorem c_Steps1 (k : Nat) (hk : 2 ≤ k) (x : IoV) (n : Nat) : FnV (CF k) n_dev_Steps_1 [x.av, .iptr true [.int .i64 n]] (.bool (!decide (rightP n x))) := by
 have hr := c_right (k - 1) (by omega) x n
 obtain ⟨kd, a, d, t, f, s⟩ := x
 unfold IoV.av at hr ⊢
 refine fnk (by omega) B_dev_Steps_1 rfl ?_
 unfold dev_Steps_1
 simp only at hr ⊢
 cases h : decide (rightP n ⟨kd, a, d, t, f, s⟩) with
 | true =>
  rw [h] at hr
  repeat' (first | refine q_s ?_ | refine q_z ?_ | refine q_call hr ?_ | refine q_mv ?_ | refine q_load ?_ | refine q_loadI ?_ | refine q_loadR ?_ | refine q_loadM ?_ | refine q_notT ?_ | refine q_notF ?_ | refine q_box ?_)
  exact ⟨Or.inr rfl, _, rfl, rfl⟩
 | false =>
  rw [h] at hr
  repeat' (first | refine q_s ?_ | refine q_z ?_ | refine q_call hr ?_ | refine q_mv ?_ | refine q_load ?_ | refine q_loadI ?_ | refine q_loadR ?_ | refine q_loadM ?_ | refine q_notT ?_ | refine q_notF ?_ | refine q_box ?_)
  exact ⟨Or.inr rfl, _, rfl, rfl⟩
theorem c_dev_Steps (k : Nat) (hk : 1000030 ≤ k) (t f : Bool) (l : List UInt8) (hl : l.length < 1000000) (t' f' : Bool) (s' : Nat) (ios : List IoV) (hs : s' = 3 ∨ ios = []) (hil : ios.length < 100000) : FnV (CF k) n_dev_Steps [.islc t f 1 (BL l), .islc t' f' s' (ios.map IoV.av)] (.int .i64 (stepsE l ios)) := by
 have hck := c_dev_Check (k - 1) (by omega) t f 1 l hl
 have hml : (ios.map IoV.av).length = ios.length := List.length_map _
 refine fnk (by omega) B_dev_Steps rfl ?_
 unfold dev_Steps stepsE
 by_cases hd : devB l.length
 rotate_left 1
 ·rw [if_neg hd] at hck
  rw [if_pos hd]
  repeat' (first
   | refine q_s ?_ | refine q_z ?_ | refine q_b ?_ | refine q_mv ?_ | refine q_cmp ?_ | refine q_cmp2 (fun _ => ?_) (fun _ => ?_) | refine q_len ?_ | refine q_lenS ?_ | refine q_len0 ?_
   | refine q_lenM ?_ | refine q_ex ?_ | refine q_store ?_ | refine q_storeR ?_ | refine q_storeM ?_ | refine q_box ?_ | refine q_mkfn ?_ | refine q_callB (hck) (fun _ => ?_) (fun _ => ?_)
   | refine q_call (hck) ?_)
  exact ⟨Or.inr rfl, _, rfl, rfl⟩
 rw [if_pos hd] at hck
 rw [if_neg (fun h => h hd)]
 have hck : FnV (CF (k - 1)) n_dev_Check [.islc t f 1 (BL l)] (.tup [.int .i64 (nb l : Nat), .int .i64 0]) := hck
 have hcf : FnV (CF (k - 1)) n_slices_ContainsFunc___api_Io_api_Io_ [.islc t' f' s' (ios.map IoV.av), .fn n_dev_Steps_1 [.iptr true [.int .i64 (nb l : Nat)]]] (.bool (ios.any fun x => !decide (rightP (nb l) x))) := by
  by_cases hn : ios = []
  ·subst hn
   exact c_ContainsFuncOE (k - 1) (by omega) t' f' s' _ _ (fun _ => rfl)
  ·obtain rfl : s' = 3 := hs.resolve_right hn
   exact c_ContainsFuncO (k - 1) (by omega) t' f' ios n_dev_Steps_1 [.iptr true [.int .i64 (nb l : Nat)]] (fun x => !decide (rightP (nb l) x)) (by omega) (fun _ => rfl) (fun _ _ => rfl) (fun i hi => c_Steps1 (k - 3) (by omega) _ _)
 cases ha : ios.any fun x => !decide (rightP (nb l) x) with
 | true =>
  rw [ha] at hcf
  rw [if_pos rfl]
  repeat' (first
   | refine q_s ?_ | refine q_z ?_ | refine q_b ?_ | refine wo_lenG (n := ios.length) rfl hml rfl rfl ?_ | refine q_call hcf ?_ | refine q_mv ?_ | refine q_cmp ?_
   | refine q_cmp2 (fun _ => ?_) (fun _ => ?_) | refine q_len ?_ | refine q_lenS ?_ | refine q_len0 ?_ | refine q_lenM ?_ | refine q_ex ?_ | refine q_store ?_ | refine q_storeR ?_
   | refine q_storeM ?_ | refine q_box ?_ | refine q_mkfn ?_ | refine q_callB (hck) (fun _ => ?_) (fun _ => ?_) | refine q_call (hck) ?_)
  exact ⟨Or.inr rfl, _, rfl, rfl⟩
 | false =>
  rw [ha] at hcf
  rw [if_neg (by decide)]
  repeat' (first
   | refine q_s ?_ | refine q_z ?_ | refine q_b ?_ | refine wo_lenG (n := ios.length) rfl hml rfl rfl ?_ | refine q_call hcf ?_ | refine q_mv ?_ | refine q_cmp ?_
   | refine q_cmp2 (fun _ => ?_) (fun _ => ?_) | refine q_len ?_ | refine q_lenS ?_ | refine q_len0 ?_ | refine q_lenM ?_ | refine q_ex ?_ | refine q_store ?_ | refine q_storeR ?_
   | refine q_storeM ?_ | refine q_box ?_ | refine q_mkfn ?_ | refine q_callB (hck) (fun _ => ?_) (fun _ => ?_) | refine q_call (hck) ?_)
  exact ⟨Or.inr rfl, _, rfl, rfl⟩
end Go.Proofs.Ytkaiiopoilpjeaa
set_option linter.unusedSimpArgs false
set_option linter.unusedVariables false
set_option maxRecDepth 10000
set_option maxHeartbeats 16000000
namespace Go.AI
section
variable {cf : CallF} {xf : ExtF} {base : Nat} {T : Tmps} {H : Heap} {QO : Tmps → Heap → Prop} {log : List FP} {g : Option (Nat × Bool)} {un : List Nat} {r : List SOper} {d : Nat} {t f : Bool}
theorem wo_copyL {j gn v off len s s' : Nat} {cap : Option Nat} {x y : SArg} {m es : List AV} (hx : x.ev T = .slc j gn v s off len cap) (hy : y.ev T = .islc t f s' m) (hs : s' = s ∨ m = []) (hn : norefsL m = true) (hr : H j = ⟨gn, false, .row s es⟩) (hv : es.length = v) (ho : off + len ≤ v) (hm : m.length ≤ len)
  (hw : awanted T g = some true) (hl : logOk log ⟨[j], [j], false⟩ un = true)
  (h : WO (aops cf xf base r (log ++ [⟨[j], [j], false⟩]) (T.upd d (.int .i64 m.length)) (H.upd j ⟨gn, false, .row s (es.take off ++ m ++ es.drop (off + m.length))⟩)) QO) : WO (aops cf xf base (⟨some d, .copy s x y, g, un⟩ :: r) log T H) QO :=
 wo_step (v := .int .i64 m.length) (H' := H.upd j ⟨gn, false, .row s (es.take off ++ m ++ es.drop (off + m.length))⟩) (fp := ⟨[j], [j], false⟩) hw (by
  have hs2 : isNil m = true ∨ s' = s := by
   rcases hs with h | h
   ·exact .inr h
   ·subst h; exact .inl rfl
  simp only [aop, acopy, hy, elemsOf, hs2, if_true, Option.bind_eq_bind, Option.bind_some, hx, hn, Bool.not_true, Bool.false_eq_true, if_false, rowW_of hr hv, true_and]
  rw [if_pos ho, Nat.min_eq_left hm, List.take_length, setRow_of hr]) hl h
end
end Go.AI
namespace Go.Proofs.Ytkaiiopoilpjeaa
open Go.AI
attribute [local irreducible] aops aexec acall aiter aop W WO
theorem c_dev_OfO (k : Nat) (hk : 1 ≤ k) (l : List UInt8) (a j g v base : Nat) (hl : l.length = v) (hl2 : v < 1000000) (ha : 64 * (a + 1) ≤ v) (H : Heap) {ro : Bool} (hr : H j = ⟨g, ro, .row 1 (BL l)⟩) :
  CF k n_dev_Of base [.slc j g v 1 0 v none, .int .i64 a] H = some (.slc j g v 1 (64 * a) 64 none, H) := by
 have h : ∃ u H', CF k n_dev_Of base [.slc j g v 1 0 v none, .int .i64 a] H = some (u, H') ∧ (u = .slc j g v 1 (64 * a) 64 none ∧ H' = H) := by
  refine fni (by omega) B_dev_Of rfl ?_
  unfold dev_Of
  have e1 : ((a : Int) * 64) = ((64 * a : Nat) : Int) := by omega
  have e2 : (((a : Int) + 1) * 64) = ((64 * a + 64 : Nat) : Int) := by omega
  have e3 : 64 * a + 64 - 64 * a = 64 := by omega
  have hbl : (BL l).length = v := by simpa using hl
  repeat' (first
   | refine q_s ?_ | refine q_z ?_ | (rw [e1]) | (rw [e2])
   | refine wo_sliceR (a := 64 * a) (b := 64 * a + 64) rfl (by exact hr) hbl (optNn rfl) (optNn rfl) (by omega) (by show _ ≤ v - 0; omega) (by show 0 + (v - 0) ≤ v; omega) rfl rfl ?_
   | refine q_mv ?_ | refine q_add ?_ | refine q_mul ?_ | refine q_slice0 ?_ | refine q_sliceE ?_ | refine q_sliceM ?_)
  refine ⟨Or.inr rfl, .slc j g v 1 (0 + 64 * a) (64 * a + 64 - 64 * a) none, rfl, ?_, rfl⟩
  rw [Nat.zero_add, e3]
 obtain ⟨u, H', h1, rfl, rfl⟩ := h
 exact h1
def applyAv (l : List UInt8) (ios : List IoV) : AV := if stepsE l ios ≠ 0 then .tup [.islc false true 0 [], .int .i64 (stepsE l ios)] else .tup [.islc false false 1 (BL (applyP l ios)), .int .i64 0]
theorem stepsE_ok {l : List UInt8} {ios : List IoV} (h : stepsE l ios = 0) : devB l.length ∧ ∀ x ∈ ios, rightP (nb l) x := by
 unfold stepsE at h
 split at h
 ·cases h
 ·rename_i hd
  split at h
  ·cases h
  ·rename_i ha
   refine ⟨Classical.not_not.1 hd, fun x hx => ?_⟩
   have := Bool.not_eq_true _ ▸ ha
   rw [List.any_eq_false] at this
   have := this x hx
   simpa using this
theorem rightP_fit {n : Nat} {x : IoV} (h : rightP n x) : ioFit n x := by
 intro hk
 rcases h with h | h
 ·exact ⟨h.2.1, h.2.2⟩
 ·omega
theorem apply_loop {k : Nat} {l : List UInt8} {ios : List IoV} {t' f' : Bool} {s' v : Nat} {T : Tmps} {H : Heap} (hk : 1000000 ≤ k) (hv : l.length = v) (hl : v < 1000000) (hil : ios.length < 100000) (hs : s' = 3 ∨ ios = []) (hok : ∀ x ∈ ios, rightP (nb l) x ∧ (x.s = 1 ∨ x.data = []))
  (h0 : H 0 = ⟨1, false, .row 1 (BL l)⟩)
  (hT : Has T [(7, .slc 0 1 v 1 0 v none), (18, .islc t' f' s' (ios.map IoV.av)), (19, .int .i64 ios.length), (20, .int .i64 0)]) :
  W (aexec (CF k) noX 0 k (.loop dev_Apply_l0) T H) (fun ex T' H' => ex = .exit 0 ∧ H' 0 = ⟨1, false, .row 1 (BL (applyP l ios))⟩ ∧ T' 7 = .slc 0 1 v 1 0 v none) := by
 refine w_for ios.length (fun i T' H' => H' 0 = ⟨1, false, .row 1 (BL (applyP l (ios.take i)))⟩ ∧ Has T' [(7, .slc 0 1 v 1 0 v none), (18, .islc t' f' s' (ios.map IoV.av)), (19, .int .i64 ios.length), (20, .int .i64 (i : Nat))]) ⟨h0, hT⟩ (by omega) ?_
 rintro i T H hi ⟨g0, hT⟩
 have hlen : (applyP l (ios.take i)).length = v := by rw [applyP_len _ _ (fun x hx => rightP_fit (hok x (List.mem_of_mem_take hx)).1)]; exact hv
 rw [hT.eq]
 simp only [over]
 unfold dev_Apply_l0
 by_cases hlt : i < ios.length
 ·obtain rfl : s' = 3 := hs.resolve_right (fun h => by rw [h] at hlt; simp at hlt)
  obtain ⟨⟨kd, a, d, t, f, s⟩, hx⟩ : ∃ x, x = ios[i] := ⟨_, rfl⟩
  have hxo := hok ios[i] (List.getElem_mem hlt)
  rw [← hx] at hxo
  have he2 : (ios.map IoV.av)[(i : Int).toNat]? = some (.agg [.int .i64 kd, .int .i64 a, .islc t f s (BL d)]) := by
   rw [Int.toNat_natCast, List.getElem?_map, List.getElem?_eq_getElem hlt, ← hx]; rfl
  have hst : applyP l (ios.take (i + 1)) = if kd = 1 then wr (applyP l (ios.take i)) a d else applyP l (ios.take i) := by
   rw [List.take_succ_eq_append_getElem hlt, ← hx, applyP_append]; rfl
  rw [hst]
  generalize applyP l (ios.take i) = m at *
  obtain ⟨hr, hsd⟩ := hxo
  simp only at hsd
  by_cases hkd : kd = 1
  ·have hkd' : (kd : Int) = 1 := by omega
   rw [if_pos hkd]
   have hra : a < nb l ∧ d.length = 64 := by
    rcases hr with h | h
    ·exact ⟨h.2.1, h.2.2⟩
    ·have := h.1; simp only at this; omega
   have hle : 64 * (a + 1) ≤ v := by have := hra.1; unfold nb at this; omega
   have hsd1 : s = 1 := hsd.resolve_right (fun h => by have := hra.2; rw [h] at this; simp at this)
   subst hsd1
   have hof : ∀ H : Heap, H 0 = ⟨1, false, .row 1 (BL m)⟩ → CF k n_dev_Of (0 + 2) (.slc 0 1 v 1 0 v none :: [.int .i64 a]) (peekH H 0 1 (BL m)) = some (.slc 0 1 v 1 (64 * a) 64 none, peekH H 0 1 (BL m)) := fun H h => c_dev_OfO k (by omega) m a 0 1 v 2 hlen hl hle _ (by rw [peek_get, h])
   have hrw : ∀ H : Heap, H 0 = ⟨1, false, .row 1 (BL m)⟩ → ((peekH H 0 1 (BL m)).row 0 1 v 1).isSome = true := fun H h => Option.isSome_iff_exists.2 ⟨BL m, row_some.2 ⟨by rw [peek_get, h], by rw [peek_get], by simpa using hlen⟩⟩
   have hbm : (BL m).length = v := by simpa using hlen
   have hbd : (BL d).length = 64 := by simpa using hra.2
   repeat' (first
    | refine q_s ?_ | refine q_z ?_ | refine q_b ?_ | refine wo_atG rfl rfl (by omega) he2 rfl rfl ?_
    | refine wo_peek (j := 0) (s' := 1) (es := BL m) rfl (by exact congrArg Blk.st g0) rfl (BL_norefs m) (hof _ (by exact g0)) (hrw _ (by exact g0)) rfl (by kernel_rfl) ?_
    | refine wo_copyG (m := BL d) (es := BL m) rfl rfl (.inl rfl) (BL_norefs d) (by exact g0) hbm (by omega) hbd rfl (by kernel_rfl) ?_ | refine q_box (hl := by kernel_rfl) ?_
    | refine q_storeR ?_ (hr := by rfl) | refine q_loadR ?_ (hr := by rfl) (hl := by kernel_rfl) | refine q_mv ?_ | refine q_faddr ?_ | refine q_faddrI ?_ | refine q_load ?_
    | refine q_loadI ?_ | refine q_loadR ?_ | refine q_loadM ?_ | refine q_cmp ?_ | refine q_cmp2 (fun _ => ?_) (fun _ => ?_) | refine q_add ?_ | refine q_store ?_ | refine q_storeR ?_
    | refine q_storeM ?_ | refine q_box ?_)
   refine ⟨hlt, ?_, rfl, rfl, rfl, by show AV.int _ _ = AV.int _ _; congr 1, trivial⟩
   show (⟨1, false, .row 1 ((BL m).take (64 * a) ++ BL d ++ (BL m).drop (64 * a + 64))⟩ : Blk) = _
   unfold wr
   rw [show 64 * (a + 1) = 64 * a + 64 by omega]
   simp [BL]
  ·have hkd' : (kd : Int) ≠ 1 := by omega
   rw [if_neg hkd]
   repeat' (first
    | refine q_s ?_ | refine q_z ?_ | refine q_b ?_ | refine wo_atG rfl rfl (by omega) he2 rfl rfl ?_ | refine q_box (hl := by kernel_rfl) ?_ | refine q_storeR ?_ (hr := by rfl)
    | refine q_loadR ?_ (hr := by rfl) (hl := by kernel_rfl) | refine q_mv ?_ | refine q_faddr ?_ | refine q_faddrI ?_ | refine q_load ?_ | refine q_loadI ?_ | refine q_loadR ?_
    | refine q_loadM ?_ | refine q_cmp ?_ | refine q_cmp2 (fun _ => ?_) (fun _ => ?_) | refine q_add ?_ | refine q_store ?_ | refine q_storeR ?_ | refine q_storeM ?_ | refine q_box ?_)
   exact ⟨hlt, g0, rfl, rfl, rfl, by show AV.int _ _ = AV.int _ _; congr 1, trivial⟩
 ·have hin : i = ios.length := by omega
  subst hin
  rw [List.take_length] at g0
  repeat' (first
   | refine q_s ?_ | refine q_z ?_ | refine q_b ?_ | refine q_mv ?_ | refine q_faddr ?_ | refine q_faddrI ?_ | refine q_load ?_ | refine q_loadI ?_ | refine q_loadR ?_ | refine q_loadM ?_
   | refine q_cmp ?_ | refine q_cmp2 (fun _ => ?_) (fun _ => ?_) | refine q_add ?_ | refine q_store ?_ | refine q_storeR ?_ | refine q_storeM ?_ | refine q_box ?_ | refine q_at ?_
   | refine q_atM ?_ | refine q_atG ?_ | refine q_atR ?_)
  exact ⟨rfl, g0, rfl⟩
theorem c_Apply (k : Nat) (hk : 1000050 ≤ k) (t f : Bool) (l : List UInt8) (hl : l.length < 1000000) (t' f' : Bool) (s' : Nat) (ios : List IoV) (hs : s' = 3 ∨ ios = []) (hil : ios.length < 100000) (hio : ∀ x ∈ ios, x.s = 1 ∨ x.data = []) :
  FnV (CF k) n_dev_Apply [.islc t f 1 (BL l), .islc t' f' s' (ios.map IoV.av)] (applyAv l ios) := by
 have hst := c_dev_Steps (k - 1) (by omega) t f l hl t' f' s' ios hs hil
 have hml : (ios.map IoV.av).length = ios.length := List.length_map _
 refine fnk (by omega) B_dev_Apply rfl ?_
 unfold dev_Apply applyAv
 by_cases he : stepsE l ios = 0
 ·rw [if_neg (fun h => h he)]
  obtain ⟨hd, hok⟩ := stepsE_ok he
  rw [he] at hst
  have hne : BL l ≠ [] := by
   intro h
   have : l.length = 0 := by have := congrArg List.length h; simpa using this
   unfold devB at hd; omega
  have hcl := cloneB_F (k - 1) (by omega) t f (BL l) hne (BL_norefs l) (fun H => BL_fz true 5 H l) (by simpa using hl)
  have hbl : (BL l).length = l.length := by simp
  repeat' (first
   | refine q_s ?_ | refine q_z ?_ | refine q_b ?_ | refine wo_freshG hcl hbl rfl rfl rfl ?_ | refine wo_lenG (n := ios.length) rfl hml rfl rfl ?_ | refine q_mv ?_ | refine q_faddr ?_
   | refine q_faddrI ?_ | refine q_load ?_ | refine q_loadI ?_ | refine q_loadR ?_ | refine q_loadM ?_ | refine q_cmp ?_ | refine q_cmp2 (fun _ => ?_) (fun _ => ?_) | refine q_add ?_
   | refine q_len ?_ | refine q_lenS ?_ | refine q_len0 ?_ | refine q_lenM ?_ | refine q_store ?_ | refine q_storeR ?_ | refine q_storeM ?_ | refine q_box ?_ | refine q_at ?_
   | refine q_atM ?_ | refine q_atG ?_ | refine q_atR ?_ | refine q_callB (hst) (fun _ => ?_) (fun _ => ?_) | refine q_call (hst) ?_)
  refine W.mono (apply_loop (k := k - 1) (l := l) (ios := ios) (t' := t') (f' := f') (s' := s') (v := l.length) (by omega) rfl hl hil hs (fun x hx => ⟨hok x hx, hio x hx⟩) rfl ⟨rfl, rfl, rfl, rfl, trivial⟩) ?_
  rintro ex T2 H2 ⟨rfl, g0, h7⟩
  rw [Has.eq (T := T2) (ps := [(7, _)]) ⟨h7, trivial⟩]
  simp only [over]
  show W _ _
  repeat' (first
   | refine q_s ?_ | refine q_z ?_ | refine q_b ?_ | refine q_mv ?_ | refine q_faddr ?_ | refine q_faddrI ?_ | refine q_load ?_ | refine q_loadI ?_ | refine q_loadR ?_ | refine q_loadM ?_
   | refine q_cmp ?_ | refine q_cmp2 (fun _ => ?_) (fun _ => ?_) | refine q_add ?_ | refine q_len ?_ | refine q_lenS ?_ | refine q_len0 ?_ | refine q_lenM ?_ | refine q_store ?_
   | refine q_storeR ?_ | refine q_storeM ?_ | refine q_box ?_ | refine q_at ?_ | refine q_atM ?_ | refine q_atG ?_ | refine q_atR ?_)
  refine ⟨Or.inr rfl, .tup [.slc 0 1 l.length 1 0 l.length none, .int .i64 0], rfl, ?_⟩
  show AV.tup [fz true (3 + 2) H2 (.slc 0 1 l.length 1 0 l.length none), _] = _
  have hal : (applyP l ios).length = l.length := applyP_len _ _ (fun x hx => rightP_fit (hok x hx))
  rw [fz_slcB (row_of g0 (by simpa using hal)) (by omega), List.drop_zero, List.take_of_length_le (by omega)]; rfl
 ·rw [if_pos he]
  have he' : (stepsE l ios : Int) ≠ 0 := by omega
  repeat' (first
   | refine q_s ?_ | refine q_z ?_ | refine q_b ?_ | refine q_mv ?_ | refine q_faddr ?_ | refine q_faddrI ?_ | refine q_load ?_ | refine q_loadI ?_ | refine q_loadR ?_ | refine q_loadM ?_
   | refine q_cmp ?_ | refine q_cmp2 (fun _ => ?_) (fun _ => ?_) | refine q_add ?_ | refine q_len ?_ | refine q_lenS ?_ | refine q_len0 ?_ | refine q_lenM ?_ | refine q_store ?_
   | refine q_storeR ?_ | refine q_storeM ?_ | refine q_box ?_ | refine q_at ?_ | refine q_atM ?_ | refine q_atG ?_ | refine q_atR ?_ | refine q_callB (hst) (fun _ => ?_) (fun _ => ?_)
   | refine q_call (hst) ?_)
  exact ⟨Or.inr rfl, _, rfl, rfl⟩
def newP (n : Nat) : List UInt8 := supB ⟨1, n, 0, 0, 0⟩ ++ List.replicate (64 * n - 64) 0
theorem c_New (k : Nat) (hk : 1000050 ≤ k) (n : Nat) (hn : 4 ≤ n ∧ n ≤ 4096) : FnV (CF k) n_open_New [.int .i64 n] (.tup [.islc false false 1 (BL (newP n)), .int .i64 0]) := by
 have hsb := c_super_Bytes (k - 1) (by omega) ⟨1, n, 0, 0, 0⟩ (by simp only; omega)
 rw [if_pos (show Sup.ok ⟨1, n, 0, 0, 0⟩ from ⟨⟨by simp only; omega, by simp only; omega⟩, ⟨hn.1, hn.2⟩, by simp only; omega, .inl rfl, .inl rfl⟩)] at hsb
 have hbl : (BL (supB ⟨1, n, 0, 0, 0⟩)).length = 64 := by simp; rfl
 unfold Sup.av at hsb
 simp only at hsb
 refine fnk (by omega) B_open_New rfl ?_
 unfold open_New
 have hrl : (List.replicate (64 * n) (AV.int .u8 0)).length = 64 * n := by simp
 have hnr : norefsL (BL (supB ⟨1, n, 0, 0, 0⟩)) = true := BL_norefs _
 repeat' (first
  | refine q_s ?_ | refine q_z ?_ | refine q_b ?_ | refine wo_mksG (64 * n) rfl rfl (by push_cast; omega) (by omega) rfl rfl rfl ?_
  | refine q_build (cs := [.int .i64 1, .int .i64 n, .int .i64 0, .int .i64 0, .int .i64 0]) ?_ (hc := by kernel_rfl)
  | refine wo_copyL (m := BL (supB ⟨1, n, 0, 0, 0⟩)) (es := List.replicate (64 * n) (AV.int .u8 0)) rfl rfl (.inl rfl) hnr rfl hrl (by omega) (by omega) rfl (by kernel_rfl) ?_ | refine q_n ?_
  | refine q_nn ?_ | refine q_mv ?_ | refine q_cmp ?_ | refine q_cmp2 (fun _ => ?_) (fun _ => ?_) | refine q_mul ?_ | refine q_pickT ?_ | refine q_pickF ?_ | refine q_ex ?_
  | refine q_build0 ?_ | refine q_build ?_ | refine q_mks ?_ | refine q_callB (hsb) (fun _ => ?_) (fun _ => ?_) | refine q_call (hsb) ?_)
 refine ⟨Or.inr rfl, .tup [.slc 0 1 (64 * n) 1 0 (64 * n) none, .int .i64 0], rfl, ?_⟩
 have hrow : (List.replicate (64 * n) (AV.int .u8 0)).take 0 ++ BL (supB ⟨1, n, 0, 0, 0⟩) ++ (List.replicate (64 * n) (AV.int .u8 0)).drop (0 + (BL (supB ⟨1, n, 0, 0, 0⟩)).length) = BL (newP n) := by
  rw [List.take_zero, List.nil_append, hbl, List.drop_replicate]
  unfold newP
  rw [show ∀ a b : List UInt8, BL (a ++ b) = BL a ++ BL b from fun _ _ => List.map_append, Nat.zero_add]
  congr 1
  unfold BL
  rw [List.map_replicate]; rfl
 have hlen : (newP n).length = 64 * n := by
  unfold newP
  rw [List.length_append, supB_len, List.length_replicate]; omega
 have hr := congrArg (fun x => (⟨1, false, .row 1 x⟩ : Blk)) hrow
 refine congrArg (fun x => AV.tup [x, .int .i64 0]) (a₁ := fz true (3 + 2) _ (.slc 0 1 (64 * n) 1 0 (64 * n) none)) ?_
 exact fz_out (l := newP n) hr hlen
end Go.Proofs.Ytkaiiopoilpjeaa
set_option linter.unusedSimpArgs false
set_option linter.unusedVariables false
set_option maxRecDepth 10000
set_option maxHeartbeats 16000000
namespace Go.Proofs.Ytkaiiopoilpjeaa
open Go.AI
attribute [local irreducible] aops aexec acall aiter aop W WO
theorem keep_Ints_loop {k : Nat} {H : Heap} {T : Tmps} {t f t' f' : Bool} {a : List Nat} (ha : a.length < 1000000) (hk : 1000000 ≤ k)
  (hT : Has T [(0, .islc t f 1 (NL a)), (1, .islc t' f' 1 (NL a)), (5, .int .i64 0)]) :
  W (aexec (CF k) noX 0 k (.loop keep_Ints_l0) T H) (fun ex T' H' => ex = .exit 0 ∧ H' = H) := by
 refine w_for a.length (fun i T' H' => H' = H ∧ Has T' [(0, .islc t f 1 (NL a)), (1, .islc t' f' 1 (NL a)), (5, .int .i64 (i : Nat))]) ⟨rfl, hT⟩ (by omega) ?_
 rintro i T H2 hi ⟨rfl, hT⟩
 rw [hT.eq]
 simp only [over]
 unfold keep_Ints_l0
 have hml : (NL a).length = a.length := NL_len a
 by_cases hlt : i < a.length
 ·have he2 : (NL a)[(i : Int).toNat]? = some (.int .i64 (a[i] : Nat)) := by
   rw [Int.toNat_natCast]; unfold NL; rw [List.getElem?_map, List.getElem?_eq_getElem hlt]; rfl
  repeat' (first
   | refine q_s ?_ | refine q_z ?_ | refine q_b ?_ | refine wo_lenG (n := a.length) rfl hml rfl rfl ?_ | refine wo_atG rfl rfl (by omega) he2 rfl rfl ?_ | refine q_mv ?_ | refine q_load ?_
   | refine q_loadI ?_ | refine q_loadR ?_ | refine q_loadM ?_ | refine q_cmp ?_ | refine q_cmp2 (fun _ => ?_) (fun _ => ?_) | refine q_add ?_ | refine q_len ?_ | refine q_lenS ?_
   | refine q_len0 ?_ | refine q_lenM ?_)
  exact ⟨hlt, rfl, rfl, rfl, by show AV.int _ _ = AV.int _ _; congr 1, trivial⟩
 ·skip
  repeat' (first
   | refine q_s ?_ | refine q_z ?_ | refine q_b ?_ | refine wo_lenG (n := a.length) rfl hml rfl rfl ?_ | refine q_mv ?_ | refine q_load ?_ | refine q_loadI ?_ | refine q_loadR ?_
   | refine q_loadM ?_ | refine q_cmp ?_ | refine q_cmp2 (fun _ => ?_) (fun _ => ?_) | refine q_add ?_ | refine q_len ?_ | refine q_lenS ?_ | refine q_len0 ?_ | refine q_lenM ?_)
  exact ⟨rfl, rfl⟩
theorem c_Ints (k : Nat) (hk : 1000001 ≤ k) (t f t' f' : Bool) (a : List Nat) (ha : a.length < 1000000) : FnV (CF k) n_keep_Ints [.islc t f 1 (NL a), .islc t' f' 1 (NL a)] (.bool true) := by
 refine fnk (by omega) B_keep_Ints rfl ?_
 unfold keep_Ints
 have hml : (NL a).length = a.length := NL_len a
 repeat' (first
  | refine q_s ?_ | refine q_z ?_ | refine q_b ?_ | refine wo_lenG (n := a.length) rfl hml rfl rfl ?_ | refine q_mv ?_ | refine q_load ?_ | refine q_loadI ?_ | refine q_loadR ?_
  | refine q_loadM ?_ | refine q_cmp ?_ | refine q_cmp2 (fun _ => ?_) (fun _ => ?_) | refine q_add ?_ | refine q_len ?_ | refine q_lenS ?_ | refine q_len0 ?_ | refine q_lenM ?_
  | refine q_at ?_ | refine q_atM ?_ | refine q_atG ?_ | refine q_atR ?_)
 refine W.mono (keep_Ints_loop (k := k - 1) (a := a) (t := t) (f := f) (t' := t') (f' := f') ha (by omega) ⟨rfl, rfl, rfl, trivial⟩) ?_
 rintro ex T2 H2 ⟨rfl, rfl⟩
 show W _ _
 repeat' (first
  | refine q_s ?_ | refine q_z ?_ | refine q_b ?_ | refine q_mv ?_ | refine q_load ?_ | refine q_loadI ?_ | refine q_loadR ?_ | refine q_loadM ?_ | refine q_cmp ?_
  | refine q_cmp2 (fun _ => ?_) (fun _ => ?_) | refine q_add ?_ | refine q_len ?_ | refine q_lenS ?_ | refine q_len0 ?_ | refine q_lenM ?_ | refine q_at ?_ | refine q_atM ?_ | refine q_atG ?_
  | refine q_atR ?_)
 exact ⟨Or.inr rfl, _, rfl, rfl⟩
end Go.Proofs.Ytkaiiopoilpjeaa
