/- What the functions do: numbers written into bytes of one's own. -/
import Derived.Test.YtnakicjkolpacaaDoorS1
import Derived.Test.YtnakicjkolpacaaDoorMC
set_option linter.unusedSimpArgs false
set_option linter.unusedVariables false
set_option maxRecDepth 10000
set_option maxHeartbeats 16000000
namespace Go.Proofs.YtnakicjkolpacaaDoor
open Go.AI
attribute [local irreducible] aops aexec acall aiter aop W WO

variable {xf : ExtF} {gf : CallF}

/-- A number's byte. -/
def leAt (n : Int) (i : Nat) : UInt8 := UInt8.ofNat ((n / 2 ^ (8 * i)) % 256).toNat
/-- A number in so many bytes. -/
def leB (s : Nat) (n : Int) : List UInt8 := (List.range s).map (leAt n)
@[simp] theorem leB_length (s : Nat) (n : Int) : (leB s n).length = s := by simp [leB]
def putB (s : Nat) (l : List Int) : List UInt8 := l.flatMap (leB s)
@[simp] theorem putB_length (s : Nat) : ∀ l : List Int, (putB s l).length = l.length * s
  | [] => by simp [putB]
  | n :: l => by
    have := putB_length s l
    simp [putB] at this ⊢
    rw [this, Nat.add_mul]; omega

theorem leAt_toNat (n : Int) (i : Nat) : ((leAt n i).toNat : Int) = (n / 2 ^ (8 * i)) % 256 := by
  have h0 : 0 ≤ (n / 2 ^ (8 * i)) % 256 := Int.emod_nonneg _ (by decide)
  have h1 : (n / 2 ^ (8 * i)) % 256 < 256 := Int.emod_lt_of_pos _ (by decide)
  simp only [leAt, UInt8.toNat_ofNat']
  omega

/-- The row with the first bytes written. -/
theorem le_Set_loop {cf : CallF} {base fuel : Nat} {H : Heap} {T : Tmps} {j gn : Nat} {a z : List UInt8} {n : Int} {s : Nat} (hs : s ≤ 8) (hz : s ≤ z.length) (ha : a.length < 1000000) (hlz : z.length < 1000000) (hk : 8 < fuel)
    (hT : Has T [(0, .slc j gn (a.length + z.length) 1 0 (a.length + z.length) .none), (1, .int .i64 a.length), (2, .int .i64 s), (3, .int .i64 n), (9, .int .i64 s), (10, .int .i64 0)]) :
    W (aexec cf xf base fuel (.loop le_Set_l0) T (H.upd j ⟨gn, false, .row 1 (BL (a ++ z))⟩)) (fun ex T' H' => ex = .exit 0 ∧ H' = H.upd j ⟨gn, false, .row 1 (BL (a ++ leB s n ++ z.drop s))⟩) := by
  refine w_loop (fun m T' H' => m ≤ s ∧ H' = H.upd j ⟨gn, false, .row 1 (BL (a ++ leB (s - m) n ++ z.drop (s - m)))⟩ ∧ Has T' [(0, .slc j gn (a.length + z.length) 1 0 (a.length + z.length) .none), (1, .int .i64 a.length), (3, .int .i64 n), (9, .int .i64 s), (10, .int .i64 (s - m : Int))])
    s ⟨by omega, by simp [leB], ?_⟩ (by omega) ?_
  · obtain ⟨h0, h1, h2, h3, h4, h5, _⟩ := hT
    exact ⟨h0, h1, h3, h4, by rw [h5]; congr 1; omega, trivial⟩
  rintro m T H1 hm ⟨_, rfl, hT⟩
  rw [hT.eq]
  simp only [over]
  unfold le_Set_l0
  repeat' (first
   | refine q_s ?_ | refine q_z ?_ | refine q_b ?_ | refine wo_shr rfl rfl (by omega) (by simp only [IntKind.bits]; omega) rfl rfl ?_ | refine wo_cvu8 rfl rfl rfl ?_
    | refine wo_atR rfl rfl (Heap.upd_same _ _ _) (by simp; omega) (by omega) (by simp; omega) (by omega) rfl rfl ?_
    | refine wo_storeB (c := leAt n (s - m)) rfl rfl ?_ (Heap.upd_same _ _ _) (by simp; omega) (by omega) rfl rfl ?_ | refine q_mv ?_ | refine q_cmp ?_
    | refine q_cmp2 (fun _ => ?_) (fun _ => ?_) | refine q_add ?_ | refine q_mul ?_ | refine q_bin ?_ | refine q_store ?_ | refine q_storeR ?_ | refine q_cvi ?_ | refine q_at ?_)
  · rw [leAt_toNat]
    have : (8 * ((s : Int) - m)).toNat = 8 * (s - m) := by omega
    rw [this]
  · refine ⟨by omega, by omega, ?_, rfl, rfl, rfl, rfl, by show AV.int _ _ = _; congr 1; omega, trivial⟩
    rw [Heap.upd_upd]
    congr 4
    have e : 0 + ((a.length : Int) + (s - m)).toNat = a.length + (s - m) := by omega
    have e1 : s - (m - 1) = s - m + 1 := by omega
    have hd : z.drop (s - m) = z[s - m]'(by omega) :: z.drop (s - m + 1) := List.drop_eq_getElem_cons (by omega)
    rw [e, e1, hd, List.append_assoc, List.set_append_right _ _ (by omega), Nat.add_sub_cancel_left, List.set_append_right _ _ (by simp), leB_length, Nat.sub_self, List.set_cons_zero]
    simp only [leB, List.range_succ, List.map_append, List.map_cons, List.map_nil, List.append_assoc, List.cons_append, List.nil_append]
  · obtain rfl : m = 0 := by omega
    exact ⟨rfl, rfl⟩

theorem e_le_Set (k : Nat) (hk : 8 < k) (base : Nat) (H : Heap) (j gn v : Nat) (a z : List UInt8) (n at0 : Int) (s : Nat) (hs : s ≤ 8) (hz : s ≤ z.length) (ha : a.length < 1000000) (hlz : z.length < 1000000) (hat : at0 = a.length) (hv : a.length + z.length = v) (hr : H j = ⟨gn, false, .row 1 (BL (a ++ z))⟩) :
    acall B xf gf (k + 1) n_le_Set base [.slc j gn v 1 0 v .none, .int .i64 at0, .int .i64 s, .int .i64 n] H = some (.tup [], H.upd j ⟨gn, false, .row 1 (BL (a ++ leB s n ++ z.drop s))⟩) := by
  subst hat hv
  have hw : W (aexec (acall B xf gf k) xf base k le_Set.code (tmps0 [.slc j gn (a.length + z.length) 1 0 (a.length + z.length) .none, .int .i64 a.length, .int .i64 s, .int .i64 n]) H) (fun ex T' H' => ex = .normal ∧ H' = H.upd j ⟨gn, false, .row 1 (BL (a ++ leB s n ++ z.drop s))⟩) := by
    unfold le_Set
    repeat' (first
     | refine q_s ?_ | refine q_z ?_ | refine q_b ?_ | refine q_mv ?_ | refine q_cmp ?_ | refine q_cmp2 (fun _ => ?_) (fun _ => ?_) | refine q_add ?_ | refine q_mul ?_ | refine q_bin ?_
      | refine q_store ?_ | refine q_storeR ?_ | refine q_cvi ?_ | refine q_at ?_)
    rw [← Heap.upd_self hr]
    refine (le_Set_loop hs hz ha hlz hk ⟨rfl, rfl, rfl, rfl, rfl, rfl, trivial⟩).mono ?_
    rintro ex T2 H2 ⟨rfl, rfl⟩
    exact ⟨rfl, by rw [Heap.upd_self hr]⟩
  obtain ⟨ex, T', H', h1, rfl, rfl⟩ := hw.out
  rw [acall_of B_le_Set rfl h1 (.inl rfl)]
  rfl

/-- Numbers. -/
abbrev IL (ns : List Int) : List AV := ns.map (AV.int .i64)
theorem IL_get {ns : List Int} {i : Nat} (h : i < ns.length) : (IL ns)[i]? = some (.int .i64 (ns.getD i 0)) := by simp [h]

/-- Numbers that came in, or that are the call's own. -/
def Nums (H : Heap) (L : AV) (ns : List Int) : Prop :=
  (∃ t f, L = .islc t f 1 (IL ns)) ∨ (∃ jl gl rol cap, L = .slc jl gl ns.length 1 0 ns.length cap ∧ H jl = ⟨gl, rol, .row 1 (IL ns)⟩)

theorem frame_put_loop (k : Nat) (hk : 1000000 ≤ k) {base : Nat} {H0 H00 : Heap} {T : Tmps} {L : AV} {j gn : Nat} {l : List UInt8} {ns : List Int} {s : Nat} (nil : Bool) (hs : 0 < s ∧ s ≤ 8) (hlen : l.length + ns.length * s < 1000000)
    (hnil : nil = true → j = base + 1 ∧ gn = (H0 (base + 1)).gen + 1 ∧ l = []) (hL : Nums H0 L ns) (hLj : ∀ jl gl v a b c d, L = .slc jl gl v a b c d → jl ≠ j)
    (hT : Has T [(0, if nil = true then .islc false true 0 [] else .slc j gn l.length 1 0 l.length .none), (1, .int .i64 s), (10, L), (11, .int .i64 ns.length), (12, .int .i64 0)])
    (hH : H00 = if nil = true then H0 else H0.upd j ⟨gn, false, .row 1 (BL l)⟩) (hne : nil = true → ns ≠ []) :
    W (aexec (acall B xf gf (k + 1)) xf base (k + 1) (.loop frame_put_l0) T H00) (fun ex T' H' => ex = .exit 0 ∧ H' = H0.upd j ⟨gn, false, .row 1 (BL (l ++ putB s ns))⟩ ∧ T' 0 = .slc j gn (l.length + ns.length * s) 1 0 (l.length + ns.length * s) .none) := by
  have hns : ns.length ≤ ns.length * s := Nat.le_mul_of_pos_right _ hs.1
  refine w_loop (fun m T' H' => m ≤ ns.length ∧ H' = (if nil = true ∧ m = ns.length then H0 else H0.upd j ⟨gn, false, .row 1 (BL (l ++ putB s (ns.take (ns.length - m))))⟩) ∧
      Has T' [(0, if nil = true ∧ m = ns.length then .islc false true 0 [] else .slc j gn (l.length + (ns.length - m) * s) 1 0 (l.length + (ns.length - m) * s) .none), (1, .int .i64 s), (10, L), (11, .int .i64 ns.length), (12, .int .i64 (ns.length - m : Int))])
    ns.length ⟨Nat.le_refl _, ?_, ?_⟩ (by omega) ?_
  · rw [hH]
    cases nil <;> simp [putB]
  · obtain ⟨h0, h1, h2, h3, h4, _⟩ := hT
    refine ⟨?_, h1, h2, h3, by rw [h4]; congr 1; omega, trivial⟩
    rw [h0]
    cases nil <;> simp
  rintro m T H1 hm ⟨_, rfl, hT⟩
  by_cases hm0 : m = 0
  · subst hm0
    have hc : ¬ (nil = true ∧ 0 = ns.length) := fun h => hne h.1 (List.eq_nil_of_length_eq_zero h.2.symm)
    rw [if_neg hc] at hT ⊢
    rw [hT.eq]
    simp only [over]
    unfold frame_put_l0
    repeat' (first
     | refine q_s ?_ | refine q_z ?_ | refine q_b ?_ | refine q_mv ?_ | refine q_load ?_ | refine q_loadI ?_ | refine q_loadR ?_ | refine q_cmp ?_ | refine q_cmp2 (fun _ => ?_) (fun _ => ?_)
      | refine q_add ?_ | refine q_len ?_ | refine q_lenS ?_ | refine q_len0 ?_ | refine q_at ?_ | refine q_appZ ?_ | refine q_appZ0 ?_)
    exact ⟨rfl, by simp, rfl⟩
  have hlt : ns.length - m < ns.length := by omega
  obtain ⟨i, hi⟩ : ∃ i, i = ns.length - m := ⟨_, rfl⟩
  have him : (ns.length : Int) - m = i := by omega
  rw [← hi] at hT ⊢
  rw [him] at hT
  have hil : i < ns.length := by omega
  have his : i * s + s ≤ ns.length * s := by
    rw [← Nat.succ_mul]; exact Nat.mul_le_mul_right s hil
  have e1 : ns.length - (m - 1) = i + 1 := by omega
  have hput : putB s (ns.take (i + 1)) = putB s (ns.take i) ++ leB s (ns.getD i 0) := by
    have hg : ns.getD i 0 = ns[i] := by simp [List.getD, hil]
    rw [List.take_succ_eq_append_getElem hil, hg]
    simp only [putB, List.flatMap_append, List.flatMap_cons, List.flatMap_nil, List.append_nil]
  have hpl : (putB s (ns.take i)).length = i * s := by rw [putB_length, List.length_take]; congr 1; omega
  have e2 : (i + 1) * s = i * s + s := Nat.succ_mul i s
  -- behind the number
  by_cases hc : nil = true ∧ m = ns.length
  · obtain ⟨hn, hmn⟩ := hc
    obtain ⟨rfl, rfl, rfl⟩ := hnil hn
    obtain rfl : i = 0 := by omega
    rw [if_pos ⟨hn, hmn⟩] at hT ⊢
    rw [hT.eq]
    simp only [over]
    have hS := e_le_Set (xf := xf) (gf := gf) k (by omega) (base + 2) (H0.newRow (base + 1) 1 (BL (List.replicate s 0))) (base + 1) ((H0 (base + 1)).gen + 1) s [] (List.replicate s 0) (ns.getD 0 0) 0 s hs.2 (by simp) (by simp) (by simp; omega) rfl (by simp) (Heap.upd_same _ _ _)
    unfold frame_put_l0
    rcases hL with ⟨tt, ff, rfl⟩ | ⟨jl, gl, rol, cap, rfl, hjl⟩
    · skip
      repeat' (first
       | refine q_s ?_ | refine q_z ?_ | refine q_b ?_ | refine wo_atG rfl rfl (by omega) (IL_get hil) rfl rfl ?_ | refine wo_loadI (.int _ _) rfl (Nat.le_of_ble_eq_true rfl) rfl rfl rfl ?_
        | refine wo_inl hS rfl rfl rfl ?_ | refine q_mv ?_ | refine q_load ?_ | refine q_loadI ?_ | refine q_loadR ?_ | refine q_cmp ?_ | refine q_cmp2 (fun _ => ?_) (fun _ => ?_)
        | refine q_add ?_ | refine q_len ?_ | refine q_lenS ?_ | refine q_len0 ?_ | refine q_at ?_ | refine q_appZ ?_ | refine q_appZ0 ?_)
      refine ⟨by omega, by omega, ?_, ?_, rfl, rfl, rfl, by show AV.int _ _ = _; congr 1; omega, trivial⟩
      · rw [if_neg (by omega), e1, hput]
        simp [putB, Heap.newRow, Heap.upd_upd]
      · rw [if_neg (by omega), e1, e2]
        show AV.slc _ _ _ _ _ _ _ = AV.slc _ _ _ _ _ _ _; congr 1 <;> simp
    · skip
      repeat' (first
       | refine q_s ?_ | refine q_z ?_ | refine q_b ?_ | refine wo_atR rfl rfl hjl (by simp) (by omega) (by omega) (by omega) rfl rfl ?_
        | refine wo_loadE rfl hjl (by simp) (e := .int .i64 (ns.getD 0 0)) (by simpa using IL_get hil) rfl rfl rfl ?_ | refine wo_inl hS rfl rfl rfl ?_ | refine q_mv ?_ | refine q_load ?_
        | refine q_loadI ?_ | refine q_loadR ?_ | refine q_cmp ?_ | refine q_cmp2 (fun _ => ?_) (fun _ => ?_) | refine q_add ?_ | refine q_len ?_ | refine q_lenS ?_ | refine q_len0 ?_
        | refine q_at ?_ | refine q_appZ ?_ | refine q_appZ0 ?_)
      refine ⟨by omega, by omega, ?_, ?_, rfl, rfl, rfl, by show AV.int _ _ = _; congr 1; omega, trivial⟩
      · rw [if_neg (by omega), e1, hput]
        simp [putB, Heap.newRow, Heap.upd_upd]
      · rw [if_neg (by omega), e1, e2]
        show AV.slc _ _ _ _ _ _ _ = AV.slc _ _ _ _ _ _ _; congr 1 <;> simp
  · rw [if_neg hc] at hT ⊢
    rw [hT.eq]
    simp only [over]
    have hcap : l.length + i * s + s ≤ 1000000 := by omega
    have hS := e_le_Set (xf := xf) (gf := gf) k (by omega) (base + 2) (H0.upd j ⟨gn, false, .row 1 (BL (l ++ putB s (ns.take i) ++ List.replicate s 0))⟩) j gn (l.length + i * s + s) (l ++ putB s (ns.take i)) (List.replicate s 0) (ns.getD i 0) (l.length + i * s : Nat) s hs.2 (by first | (simp; done) | (simp; omega) | (simp [hpl]; done) | (simp [hpl]; omega)) (by first | (simp; done) | (simp; omega) | (simp [hpl]; done) | (simp [hpl]; omega)) (by first | (simp; done) | (simp; omega) | (simp [hpl]; done) | (simp [hpl]; omega)) (by first | (simp; done) | (simp; omega) | (simp [hpl]; done) | (simp [hpl]; omega)) (by first | (simp; done) | (simp; omega) | (simp [hpl]; done) | (simp [hpl]; omega)) (Heap.upd_same _ _ _)
    rw [Heap.upd_upd] at hS
    have hz : List.replicate ((s : Int).toNat) (0 : UInt8) = List.replicate s 0 := rfl
    unfold frame_put_l0
    rcases hL with ⟨tt, ff, rfl⟩ | ⟨jl, gl, rol, cap, rfl, hjl⟩
    · skip
      repeat' (first
       | refine q_s ?_ | refine q_z ?_ | refine q_b ?_ | refine wo_atG rfl rfl (by omega) (IL_get hil) rfl rfl ?_ | refine wo_loadI (.int _ _) rfl (Nat.le_of_ble_eq_true rfl) rfl rfl rfl ?_
        | refine wo_appZ (l := l ++ putB s (ns.take i)) rfl rfl (Heap.upd_same _ _ _) (by simp [hpl]) (by omega) (by omega) rfl rfl ?_ | (rw [Heap.upd_upd]; refine wo_inl hS rfl rfl rfl ?_)
        | refine q_mv ?_ | refine q_load ?_ | refine q_loadI ?_ | refine q_loadR ?_ | refine q_cmp ?_ | refine q_cmp2 (fun _ => ?_) (fun _ => ?_) | refine q_add ?_ | refine q_len ?_
        | refine q_lenS ?_ | refine q_len0 ?_ | refine q_at ?_ | refine q_appZ ?_ | refine q_appZ0 ?_)
      refine ⟨by omega, by omega, ?_, ?_, rfl, rfl, rfl, by show AV.int _ _ = _; congr 1; omega, trivial⟩
      · rw [if_neg (by omega), e1, hput]
        simp [Heap.upd_upd]
      · rw [if_neg (by omega), e1, e2]
        show AV.slc _ _ _ _ _ _ _ = _; congr 1 <;> omega
    · have hjl : (H0.upd j ⟨gn, false, .row 1 (BL (l ++ putB s (ns.take i)))⟩) jl = ⟨gl, rol, .row 1 (IL ns)⟩ := by
        rw [Heap.upd_other (hLj _ _ _ _ _ _ _ rfl)]; exact hjl
      repeat' (first
       | refine q_s ?_ | refine q_z ?_ | refine q_b ?_ | refine wo_atR rfl rfl hjl (by simp) (by omega) (by omega) (by omega) rfl rfl ?_
        | refine wo_loadE rfl hjl (by simp) (e := .int .i64 (ns.getD i 0)) (by simpa using IL_get hil) rfl rfl rfl ?_
        | refine wo_appZ (l := l ++ putB s (ns.take i)) rfl rfl (Heap.upd_same _ _ _) (by simp [hpl]) (by omega) (by omega) rfl rfl ?_ | (rw [Heap.upd_upd]; refine wo_inl hS rfl rfl rfl ?_)
        | refine q_mv ?_ | refine q_load ?_ | refine q_loadI ?_ | refine q_loadR ?_ | refine q_cmp ?_ | refine q_cmp2 (fun _ => ?_) (fun _ => ?_) | refine q_add ?_ | refine q_len ?_
        | refine q_lenS ?_ | refine q_len0 ?_ | refine q_at ?_ | refine q_appZ ?_ | refine q_appZ0 ?_)
      refine ⟨by omega, by omega, ?_, ?_, rfl, rfl, rfl, by show AV.int _ _ = _; congr 1; omega, trivial⟩
      · rw [if_neg (by omega), e1, hput]
        simp [Heap.upd_upd]
      · rw [if_neg (by omega), e1, e2]
        show AV.slc _ _ _ _ _ _ _ = _; congr 1 <;> omega

theorem e_frame_put (k : Nat) (hk : 1000000 ≤ k) (base : Nat) (H : Heap) (j gn v : Nat) (l : List UInt8) (ns : List Int) (s : Nat) (L : AV) (hs : 0 < s ∧ s ≤ 8) (hlen : l.length + ns.length * s < 1000000) (hv : l.length = v) (hr : H j = ⟨gn, false, .row 1 (BL l)⟩)
    (hj : j ≠ base) (hL : (∃ t f, L = .islc t f 1 (IL ns)) ∨ (∃ jl gl rol cap, L = .slc jl gl ns.length 1 0 ns.length cap ∧ H jl = ⟨gl, rol, .row 1 (IL ns)⟩ ∧ jl ≠ base ∧ jl ≠ j)) :
    acall B xf gf (k + 2) n_frame_put base [.slc j gn v 1 0 v .none, .int .i64 s, L] H = some (.slc j gn (l.length + ns.length * s) 1 0 (l.length + ns.length * s) .none, (H.newRow base 1 []).upd j ⟨gn, false, .row 1 (BL (l ++ putB s ns))⟩) := by
  subst hv
  have hr2 : (H.newRow base 1 []) j = ⟨gn, false, .row 1 (BL l)⟩ := by rw [Heap.newRow_other hj]; exact hr
  have hw : W (aexec (acall B xf gf (k + 1)) xf base (k + 1) frame_put.code (tmps0 [.slc j gn l.length 1 0 l.length .none, .int .i64 s, L]) H) (fun ex T' H' => ex = .ret ∧ H' = (H.newRow base 1 []).upd j ⟨gn, false, .row 1 (BL (l ++ putB s ns))⟩ ∧ T' 6 = .slc j gn (l.length + ns.length * s) 1 0 (l.length + ns.length * s) .none) := by
    unfold frame_put
    have hN : Nums (H.newRow base 1 []) L ns := by
      rcases hL with h | ⟨jl, gl, rol, cap, h1, h2, h3, h4⟩
      · exact .inl h
      · exact .inr ⟨jl, gl, rol, cap, h1, by rw [Heap.newRow_other h3]; exact h2⟩
    have hj2 : ∀ jl gl v a b c d, L = .slc jl gl v a b c d → jl ≠ j := by
      intro jl gl v a b c d h
      rcases hL with ⟨t, f, h1⟩ | ⟨jl', gl', rol, cap, h1, h2, h3, h4⟩
      · rw [h1] at h; cases h
      · rw [h1] at h; cases h; exact h4
    have go : ∀ T : Tmps, Has T [(0, .slc j gn l.length 1 0 l.length .none), (1, .int .i64 s), (10, L), (11, .int .i64 ns.length), (12, .int .i64 0)] → W (aexec (acall B xf gf (k + 1)) xf base (k + 1) (.loop frame_put_l0) T (H.newRow base 1 [])) _ := fun T hT =>
      frame_put_loop (xf := xf) (gf := gf) k hk (H0 := H.newRow base 1 []) (l := l) (ns := ns) (s := s) false hs hlen (fun h => by cases h) hN hj2 hT (by simp [Heap.upd_self hr2]) (fun h => by cases h)
    rcases hL with ⟨t, f, rfl⟩ | ⟨jl, gl, rol, cap, rfl, h2, h3, h4⟩
    · skip
      repeat' (first
       | refine q_s ?_ | refine q_z ?_ | refine q_b ?_ | refine wo_lenG (n := ns.length) rfl (by simp) rfl rfl ?_ | refine q_mv ?_ | refine q_load ?_ | refine q_loadI ?_ | refine q_loadR ?_
        | refine q_cmp ?_ | refine q_cmp2 (fun _ => ?_) (fun _ => ?_) | refine q_add ?_ | refine q_len ?_ | refine q_lenS ?_ | refine q_len0 ?_ | refine q_at ?_ | refine q_nilrow ?_
        | refine q_appZ ?_ | refine q_appZ0 ?_)
      refine (go _ ?_).mono ?_
      · exact ⟨rfl, rfl, rfl, rfl, rfl, trivial⟩
      rintro ex T2 H2 ⟨rfl, rfl, h0⟩
      rw [Has.eq (T := T2) (ps := [(0, _)]) ⟨h0, trivial⟩]
      simp only [over]
      show W _ _
      repeat' (first
       | refine q_s ?_ | refine q_z ?_ | refine q_b ?_ | refine q_mv ?_ | refine q_load ?_ | refine q_loadI ?_ | refine q_loadR ?_ | refine q_cmp ?_ | refine q_cmp2 (fun _ => ?_) (fun _ => ?_)
        | refine q_add ?_ | refine q_len ?_ | refine q_lenS ?_ | refine q_len0 ?_ | refine q_at ?_ | refine q_nilrow ?_ | refine q_appZ ?_ | refine q_appZ0 ?_)
      exact ⟨rfl, rfl, rfl⟩
    · skip
      repeat' (first
       | refine q_s ?_ | refine q_z ?_ | refine q_b ?_ | refine q_mv ?_ | refine q_load ?_ | refine q_loadI ?_ | refine q_loadR ?_ | refine q_cmp ?_ | refine q_cmp2 (fun _ => ?_) (fun _ => ?_)
        | refine q_add ?_ | refine q_len ?_ | refine q_lenS ?_ | refine q_len0 ?_ | refine q_at ?_ | refine q_nilrow ?_ | refine q_appZ ?_ | refine q_appZ0 ?_)
      refine (go _ ?_).mono ?_
      · exact ⟨rfl, rfl, rfl, rfl, rfl, trivial⟩
      rintro ex T2 H2 ⟨rfl, rfl, h0⟩
      rw [Has.eq (T := T2) (ps := [(0, _)]) ⟨h0, trivial⟩]
      simp only [over]
      show W _ _
      repeat' (first
       | refine q_s ?_ | refine q_z ?_ | refine q_b ?_ | refine q_mv ?_ | refine q_load ?_ | refine q_loadI ?_ | refine q_loadR ?_ | refine q_cmp ?_ | refine q_cmp2 (fun _ => ?_) (fun _ => ?_)
        | refine q_add ?_ | refine q_len ?_ | refine q_lenS ?_ | refine q_len0 ?_ | refine q_at ?_ | refine q_nilrow ?_ | refine q_appZ ?_ | refine q_appZ0 ?_)
      exact ⟨rfl, rfl, rfl⟩
  obtain ⟨ex, T', H', h1, rfl, rfl, h6⟩ := hw.out
  rw [acall_of B_frame_put rfl h1 (.inr rfl)]
  show Option.map _ (some (T' 6)) = _
  rw [h6]
  rfl

/-- Numbers in bytes of their own. -/
theorem e_frame_putNil (k : Nat) (hk : 1000000 ≤ k) (ns : List Int) (s : Nat) (t f : Bool) (hs : 0 < s ∧ s ≤ 8) (hne : ns ≠ []) (hlen : ns.length * s < 1000000) :
    FnF (acall B xf gf (k + 2)) n_frame_put [.islc false true 0 [], .int .i64 s, .islc t f 1 (IL ns)] (putB s ns) := by
  have hw : W (aexec (acall B xf gf (k + 1)) xf 0 (k + 1) frame_put.code (tmps0 [.islc false true 0 [], .int .i64 s, .islc t f 1 (IL ns)]) Heap.none) (fun ex T' H' => ex = .ret ∧ H' = (Heap.none.newRow 0 1 []).upd 1 ⟨1, false, .row 1 (BL (putB s ns))⟩ ∧ T' 6 = .slc 1 1 (ns.length * s) 1 0 (ns.length * s) .none) := by
    unfold frame_put
    repeat' (first
     | refine q_s ?_ | refine q_z ?_ | refine q_b ?_ | refine wo_lenG (n := ns.length) rfl (by simp) rfl rfl ?_ | refine q_mv ?_ | refine q_load ?_ | refine q_loadI ?_ | refine q_loadR ?_
      | refine q_cmp ?_ | refine q_cmp2 (fun _ => ?_) (fun _ => ?_) | refine q_add ?_ | refine q_len ?_ | refine q_lenS ?_ | refine q_len0 ?_ | refine q_at ?_ | refine q_nilrow ?_
      | refine q_appZ ?_ | refine q_appZ0 ?_)
    refine (frame_put_loop (xf := xf) (gf := gf) k hk (H0 := Heap.none.newRow 0 1 []) (L := .islc t f 1 (IL ns)) (j := 1) (gn := 1) (l := []) (ns := ns) (s := s) true hs (by simpa using hlen) (fun _ => ⟨rfl, rfl, rfl⟩) (.inl ⟨t, f, rfl⟩) (fun _ _ _ _ _ _ _ h => by cases h) ?_ rfl (fun _ => hne)).mono ?_
    · exact ⟨rfl, rfl, rfl, rfl, rfl, trivial⟩
    rintro ex T2 H2 ⟨rfl, rfl, h0⟩
    rw [Has.eq (T := T2) (ps := [(0, _)]) ⟨h0, trivial⟩]
    simp only [over]
    show W _ _
    repeat' (first
     | refine q_s ?_ | refine q_z ?_ | refine q_b ?_ | refine q_mv ?_ | refine q_load ?_ | refine q_loadI ?_ | refine q_loadR ?_ | refine q_cmp ?_ | refine q_cmp2 (fun _ => ?_) (fun _ => ?_)
      | refine q_add ?_ | refine q_len ?_ | refine q_lenS ?_ | refine q_len0 ?_ | refine q_at ?_ | refine q_nilrow ?_ | refine q_appZ ?_ | refine q_appZ0 ?_)
    exact ⟨rfl, by simp, by simp [Tmps.upd]⟩
  obtain ⟨ex, T', H', h1, rfl, rfl, h6⟩ := hw.out
  refine ⟨1, 1, (Heap.none.newRow 0 1 []).upd 1 ⟨1, false, .row 1 (BL (putB s ns))⟩, ?_, rfl⟩
  rw [acall_of B_frame_put rfl h1 (.inr rfl)]
  show Option.map _ (some (T' 6)) = _
  rw [h6]
  simp

end Go.Proofs.YtnakicjkolpacaaDoor
