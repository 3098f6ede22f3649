/- Twins of commands. -/
import Derived.Test.YtnakicjkolpacaaDoorS16
import Derived.Test.YtnakicjkolpacaaDoorS15
set_option linter.unusedSimpArgs false
set_option linter.unusedVariables false
set_option maxRecDepth 10000
set_option maxHeartbeats 16000000
namespace Go.Proofs.YtnakicjkolpacaaDoor
open Go.AI

section
variable {cf : CallF} {xf : ExtF} {base : Nat} {T : Tmps} {H : Heap} {QO : Tmps → Heap → Prop} {log : List FP} {g : Option (Nat × Bool)} {un : List Nat} {r : List SOper} {d : Nat}

/-- One element put behind a row; what it names is not written any more. -/
theorem wo_appA {site s gn j v j2 g2 : Nat} {ro : Bool} {x y : SArg} {es : List AV} {e e' : AV} {cap2 : Option Nat} {H1 : Heap} {K : List Nat} (hx : x.ev T = .slc j gn v s 0 v .none) (hy : y.ev T = .slc j2 g2 1 s 0 1 cap2) (h2 : H j2 = ⟨g2, ro, .row s [e]⟩) (hab : absorb H [e] = some ([e'], H1, K)) (hr : H1 j = ⟨gn, false, .row s es⟩) (hv : es.length = v) (hm : v + 1 ≤ 68719476736)
    (hw : awanted T g = some true) (hl : un = [])
    (h : ∀ fp, WO (aops cf xf base r (log ++ [fp]) (T.upd d (.slc j gn (v + 1) s 0 (v + 1) .none)) (H1.upd j ⟨gn, false, .row s (es ++ [e'])⟩)) QO) :
    WO (aops cf xf base (⟨some d, .app site s x y, g, un⟩ :: r) log T H) QO := by
  subst hl
  refine wo_step (v := .slc j gn (v + 1) s 0 (v + 1) .none) (H' := H1.upd j ⟨gn, false, .row s (es ++ [e'])⟩) (fp := ⟨[j2] ++ K ++ [j], K ++ [j], false⟩) hw ?_ rfl (h _)
  have e1 : elemsOf H s (.slc j2 g2 1 s 0 1 cap2) = some ([e], [j2]) := by
    simp [elemsOf, row_of (ver := 1) h2 rfl]
  simp only [aop, hx, hy, aappend, e1, hab, Option.bind_eq_bind, Option.bind_some]
  simp only [appendTo, isNil, Bool.false_eq_true, if_false, rowW_of hr hv]
  rw [if_pos ⟨trivial, by omega, by simpa [roomy] using hm⟩]
  rw [if_neg (by simp)]
  simp only [Option.bind_some, List.length_cons, List.length_nil, Nat.zero_add]
  rw [if_pos ⟨trivial, trivial⟩, setRow_of hr]
  rfl

theorem fz_cmd (n : Nat) (H : Heap) (c : Cmd) : fz true (n + 2) H (c.av false false 1) = c.av false false 1 := rfl
end

theorem vis_slc {n : Nat} {H : Heap} {j g ver s off len : Nat} {cap : Option Nat} {es : List AV} (hr : H.row j g ver s = some es) : vis (n + 1) H (.slc j g ver s off len cap) = j :: ((es.drop off).take len).flatMap (vis n H) := by
  simp only [vis, hr]
theorem vis_BL (m : Nat) (H : Heap) (l : List UInt8) : (BL l).flatMap (vis (m + 1) H) = [] := by
  induction l with
  | nil => rfl
  | cons c l ih => rw [BL_cons, List.flatMap_cons, ih]; rfl

theorem absorb_cmd {H : Heap} {j g v : Nat} {ro : Bool} {a1 a2 a3 a4 a5 a6 a7 a8 : Int} {l : List UInt8} (hr : H j = ⟨g, ro, .row 1 (BL l)⟩) (hv : l.length = v) :
    absorb H [.agg [.int .i64 a1, .int .i64 a2, .int .i64 a3, .int .i64 a4, .int .i64 a5, .int .i64 a6, .int .i64 a7, .int .i64 a8, .slc j g v 1 0 v none]] = some ([(Cmd.mk a1 a2 a3 a4 a5 a6 a7 a8 l).av false false 1], H.upd j ⟨g, true, .row 1 (BL l)⟩, [j]) := by
  have hrow : H.row j g v 1 = some (BL l) := row_of hr (by simpa using hv)
  have hz : fz true 5 H (.slc j g v 1 0 v none) = .islc false false 1 (BL l) := fz_out (n := 3) hr hv
  have hvis : vis 5 H (.slc j g v 1 0 v none) = [j] := by
    rw [vis_slc (n := 4) hrow, List.drop_zero, show (BL l).take v = BL l from List.take_of_length_le (by simp; omega), vis_BL 3]
  have hf : [AV.agg [.int .i64 a1, .int .i64 a2, .int .i64 a3, .int .i64 a4, .int .i64 a5, .int .i64 a6, .int .i64 a7, .int .i64 a8, .slc j g v 1 0 v none]].map (fz true deep H) = [(Cmd.mk a1 a2 a3 a4 a5 a6 a7 a8 l).av false false 1] := by
    show [AV.agg [_, _, _, _, _, _, _, _, fz true 5 H _]] = _
    rw [hz]; rfl
  have hk : [AV.agg [.int .i64 a1, .int .i64 a2, .int .i64 a3, .int .i64 a4, .int .i64 a5, .int .i64 a6, .int .i64 a7, .int .i64 a8, .slc j g v 1 0 v none]].flatMap (vis deep H) = [j] := by
    show ([] ++ ([] ++ ([] ++ ([] ++ ([] ++ ([] ++ ([] ++ ([] ++ (vis 5 H _ ++ []))))))))) ++ [] = _
    rw [hvis]; rfl
  unfold absorb
  rw [if_neg (by simp [norefsL, AV.norefs]), hf, hk]
  show some (_, H.upd j ⟨(H j).gen, true, (H j).st⟩, _) = _
  rw [hr]

attribute [local irreducible] aops aexec acall aiter aop W WO

variable {xf : ExtF} {gf : CallF}

theorem TwinCommands_loop (k : Nat) {T : Tmps} {H : Heap} {t f : Bool} {l : List Cmd} (hl : l.length < 1000000) (hd : ∀ c ∈ l, c.data.length < 1000000) (hk : 1000000 ≤ k) (hH : H 1 = ⟨1, false, .row 9 []⟩)
    (hT : Has T [(0, .islc t f 9 (l.map (Cmd.av false false 1))), (3, .slc 1 1 0 9 0 0 none), (4, .int .i64 0)]) :
    W (aexec (acall B xf gf (k + 1)) xf 0 (k + 1) (.loop keep_TwinCommands_l0) T H) (fun ex T' H' => ex = .exit 0 ∧ H' 1 = ⟨1, false, .row 9 (l.map (Cmd.av false false 1))⟩ ∧ T' 3 = .slc 1 1 l.length 9 0 l.length none) := by
  refine w_loop (fun m T' H' => m ≤ l.length ∧ H' 1 = ⟨1, false, .row 9 ((l.take (l.length - m)).map (Cmd.av false false 1))⟩ ∧ Has T' [(0, .islc t f 9 (l.map (Cmd.av false false 1))), (3, .slc 1 1 (l.length - m) 9 0 (l.length - m) none), (4, .int .i64 ((l.length - m : Nat) : Int))])
    l.length ⟨Nat.le_refl _, by rw [hH]; simp, ?_⟩ (by omega) ?_
  · obtain ⟨h0, h1, h2, _⟩ := hT
    exact ⟨h0, by rw [h1]; simp, by rw [h2]; simp, trivial⟩
  rintro m T H hm ⟨_, hH, hT⟩
  obtain ⟨i, hi⟩ : ∃ i, i = l.length - m := ⟨_, rfl⟩
  rw [← hi] at hT hH
  by_cases hm0 : m = 0
  · have hil : i = l.length := by omega
    rw [hT.eq]
    simp only [over]
    unfold keep_TwinCommands_l0
    repeat' (first
     | refine q_s ?_ | refine q_z ?_ | refine q_b ?_ | refine wo_lenG (n := l.length) rfl (by simp) rfl rfl ?_ | refine q_mv ?_ | refine q_faddr ?_ | refine q_load ?_ | refine q_loadI ?_
      | refine q_loadR ?_ | refine q_cmp ?_ | refine q_cmp2 (fun _ => ?_) (fun _ => ?_) | refine q_add ?_ | refine q_len ?_ | refine q_lenS ?_ | refine q_len0 ?_ | refine q_store ?_
      | refine q_storeR ?_ | refine q_box ?_ | refine q_at ?_ | refine q_buildS ?_ | refine q_app fun _ => ?_)
    exact ⟨rfl, by rw [hH, hil, List.take_length], by rw [hil]; rfl⟩
  have hil : i < l.length := by omega
  obtain ⟨c, hc⟩ : ∃ c, c = l[i] := ⟨_, rfl⟩
  have hcd : c.data.length < 1000000 := hd c (by rw [hc]; exact List.getElem_mem hil)
  have hE : (l.map (Cmd.av false false 1))[(i : Int).toNat]? = some (c.av false false 1) := by simp [hil, hc]
  have htw := e_keep_Twin (xf := xf) (gf := gf) k false false c.data hcd
  have hlt : (l.take i).length = i := by simp; omega
  rw [hT.eq]
  simp only [over]
  unfold keep_TwinCommands_l0
  repeat' (first
   | refine q_s ?_ | refine q_z ?_ | refine q_b ?_ | refine wo_lenG (n := l.length) rfl (by simp) rfl rfl ?_ | refine wo_atG rfl rfl (by omega) hE rfl rfl ?_
    | refine wo_fresh htw rfl rfl rfl ?_ | (refine wo_appA rfl rfl rfl (absorb_cmd rfl rfl) hH (by simpa using hlt) (by omega) rfl rfl (fun _ => ?_)) | refine q_mv ?_ | refine q_faddr ?_
    | refine q_load ?_ | refine q_loadI ?_ | refine q_loadR ?_ | refine q_cmp ?_ | refine q_cmp2 (fun _ => ?_) (fun _ => ?_) | refine q_add ?_ | refine q_len ?_ | refine q_lenS ?_
    | refine q_len0 ?_ | refine q_store ?_ | refine q_storeR ?_ | refine q_box ?_ | refine q_at ?_ | refine q_buildS ?_ | refine q_app fun _ => ?_)
  have e1 : l.length - (m - 1) = i + 1 := by omega
  refine ⟨by omega, by omega, ?_, rfl, by rw [e1]; rfl, by show AV.int _ _ = AV.int _ _; congr 1; omega, trivial⟩
  rw [e1, List.take_succ_eq_append_getElem hil, List.map_append, List.map_cons, List.map_nil, ← hc]
  rfl

theorem e_keep_TwinCommands (k : Nat) (hk : 1000000 ≤ k) (t f : Bool) (l : List Cmd) (hl : l.length < 1000000) (hd : ∀ c ∈ l, c.data.length < 1000000) :
    FnV (acall B xf gf (k + 2)) n_keep_TwinCommands [.islc t f 9 (l.map (Cmd.av false false 1))] (.islc false false 9 (l.map (Cmd.av false false 1))) := by
  refine fn_of B_keep_TwinCommands rfl ?_
  unfold keep_TwinCommands
  repeat' (first
   | refine q_s ?_ | refine q_z ?_ | refine q_b ?_ | refine q_mv ?_ | refine q_faddr ?_ | refine q_load ?_ | refine q_loadI ?_ | refine q_loadR ?_ | refine q_cmp ?_
    | refine q_cmp2 (fun _ => ?_) (fun _ => ?_) | refine q_add ?_ | refine q_len ?_ | refine q_lenS ?_ | refine q_len0 ?_ | refine q_store ?_ | refine q_storeR ?_ | refine q_box ?_
    | refine q_at ?_ | refine q_nilrow ?_ | refine q_buildS ?_ | refine q_app fun _ => ?_)
  refine (TwinCommands_loop (xf := xf) (gf := gf) k (t := t) (f := f) (l := l) hl hd hk rfl ?_).mono ?_
  · exact ⟨rfl, rfl, rfl, trivial⟩
  rintro ex T2 H2 ⟨rfl, hH, h3⟩
  rw [Has.eq (T := T2) (ps := [(3, _)]) ⟨h3, trivial⟩]
  simp only [over]
  show W _ _
  repeat' (first
   | refine q_s ?_ | refine q_z ?_ | refine q_b ?_ | refine q_mv ?_ | refine q_faddr ?_ | refine q_load ?_ | refine q_loadI ?_ | refine q_loadR ?_ | refine q_cmp ?_
    | refine q_cmp2 (fun _ => ?_) (fun _ => ?_) | refine q_add ?_ | refine q_len ?_ | refine q_lenS ?_ | refine q_len0 ?_ | refine q_store ?_ | refine q_storeR ?_ | refine q_box ?_
    | refine q_at ?_ | refine q_nilrow ?_ | refine q_buildS ?_ | refine q_app fun _ => ?_)
  refine ⟨Or.inr rfl, _, rfl, ?_⟩
  show fz true (5 + 1) H2 (AV.slc _ _ _ _ _ _ _) = _
  rw [fz_slc (row_of hH (by simp)) (by omega), List.drop_zero, List.take_of_length_le (by simp)]
  simp only [Bool.not_true]
  congr 1
  rw [List.map_map]
  exact List.map_congr_left fun c _ => fz_cmd 3 H2 c

end Go.Proofs.YtnakicjkolpacaaDoor
