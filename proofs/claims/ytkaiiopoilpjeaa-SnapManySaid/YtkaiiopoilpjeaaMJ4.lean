/- Lemmas. -/
import Derived.Test.YtkaiiopoilpjeaaJ19
set_option linter.unusedSimpArgs false
set_option linter.unusedVariables false
set_option maxRecDepth 10000
set_option maxHeartbeats 16000000
namespace Go.Proofs.Ytkaiiopoilpjeaa
open Go.AI
def lookQ (l : List UInt8) : Except (Nat × Nat) Img := if devB l.length then lookP l else .error (0, 2)
theorem lookQ_err {l : List UInt8} {a e : Nat} (h : lookQ l = .error (a, e)) : e = 2 ∨ e = 6 ∨ e = 7 ∨ e = 8 := by
 unfold lookQ at h
 split at h
 ·exact .inr (lookP_err h)
 ·cases h; exact .inl rfl
theorem lookQ_ok {l : List UInt8} {x : Img} (hl : l.length < 1000000) (h : lookQ l = .ok x) : Dev l ∧ x.fit l := by
 unfold lookQ at h
 split at h
 ·rename_i hd; exact ⟨⟨hl, hd⟩, lookP_fit ⟨hl, hd⟩ h⟩
 ·cases h
def idOk (id : Int) : Prop := 1 ≤ id ∧ id ≤ 4611686018427387903
instance (id : Int) : Decidable (idOk id) := by unfold idOk; infer_instance
def createE (recs : List Rec) (id : Int) : Nat :=
 if ¬ idOk id then 1 else if (pendP recs).isSome = true then 18 else if (recs.any fun r => decide ((r.id : Int) = id)) = true then 10 else if 60 ≤ recs.length then 2 else 0
def parentP : List Rec → Nat
 | r :: _ => r.id
 | [] => 0
def newRec (x : Img) (id : Int) : Rec := ⟨0, id.toNat, parentP x.recs, x.sup.root, x.sup.size, 0, 0, 0⟩
def createP (l : List UInt8) (id : Int) : Except Nat (List IoV) := match lookQ l with
 | .error (_, e) => .error e
 | .ok x => if createE x.recs id ≠ 0 then .error (createE x.recs id) else makesP l x 0 (newRec x id) true
def deleteP (l : List UInt8) (id : Int) : Except Nat (List IoV) := match lookQ l with
 | .error (_, e) => .error e
 | .ok x => if ¬ idOk id then .error 1 else if findP x.recs id < 0 then .error 11
  else if (match pendP x.recs with | some r => decide ((r.parent : Int) = id) | none => false) = true then .error 18
  else makesP l x ((findP x.recs id).toNat + 1) rec0 false
def rollP (l : List UInt8) (id : Int) : Except Nat (List IoV × Nat) := match lookQ l with
 | .error (_, e) => .error e
 | .ok x => if ¬ idOk id then .error 1 else if findP x.recs id < 0 then .error 11
  else .ok (if x.sup.gen < 1099511627776 then (stepsL x.sup x.slot [] (x.recs.getD (findP x.recs id).toNat default).root (x.recs.getD (findP x.recs id).toNat default).size x.sup.first, 0) else ([], 8))
def rollAv : Except Nat (List IoV × Nat) → AV
 | .ok (ios, e) => .tup [.islc false false 3 (ios.map IoV.av), .int .i64 e]
 | .error e => .tup [.islc false true 0 [], .int .i64 e]
theorem newRec_ok {l : List UInt8} {x : Img} {id : Int} (hd : Dev l) (hx : x.fit l) (h : createE x.recs id = 0) : ({ newRec x id with next := 0 } : Rec).ok := by
 unfold createE at h
 by_cases h1 : idOk id
 ·rw [if_neg (fun hh => hh h1)] at h
  split at h
  ·omega
  split at h
  ·omega
  rename_i h3
  obtain ⟨hi1, hi2⟩ := h1
  have hs := hx.sup
  have hb := hx.blocks
  have hnb := hd.nb
  refine ⟨.inl rfl, ?_, ⟨⟨by show 1 ≤ id.toNat; omega, by show id.toNat ≤ _; omega⟩, ?_, ?_⟩, hs.2.2.1, .inl ⟨rfl, rfl, rfl⟩⟩
  ·show x.sup.root = 0 ∨ 2 ≤ x.sup.root ∧ x.sup.root < 4096
   have := hs.2.2.2.1; omega
  ·show parentP x.recs ≠ id.toNat
   intro he
   cases hr : x.recs with
   | nil => rw [hr] at he; simp only [parentP] at he; omega
   | cons r rs =>
    rw [hr] at he h3
    simp only [parentP] at he
    exact h3 (List.any_eq_true.2 ⟨r, List.mem_cons_self .., decide_eq_true (by omega)⟩)
  ·show parentP x.recs ≤ 4611686018427387903
   cases hr : x.recs with
   | nil => simp [parentP]
   | cons r rs =>
    have := (hx.recs r (by rw [hr]; exact List.mem_cons_self ..)).2.2.1
    simp only [parentP]
    unfold idsOk at this
    omega
 ·rw [if_pos h1] at h; omega
attribute [local irreducible] aops aexec acall aiter aop W WO
theorem c_LookQ (k : Nat) (hk : 1000070 ≤ k) (f : Bool) (l : List UInt8) (hl : l.length < 1000000) : FnV (CF k) n_open_Look [.islc false f 1 (BL l)] (lookAv f l (lookQ l)) := by
 unfold lookQ
 by_cases hd : devB l.length
 ·rw [if_pos hd]; exact c_Look k hk f l ⟨hl, hd⟩
 ·rw [if_neg hd]; exact c_Look_no k hk false f 1 l hl hd
theorem c_ids (k : Nat) (hk : 1 ≤ k) (a : Int) : FnV (CF k) n_ids_Check [.int .i64 a] (.int .i64 (if idOk a then 0 else 1)) := by
 obtain ⟨j, rfl⟩ : ∃ j, k = j + 1 := ⟨k - 1, by omega⟩
 exact e_ids_Check j a
theorem c_create_1 (k : Nat) (hk : 1 ≤ k) (x : Rec) (id : Int) : FnV (CF k) n_snap_create_1 [x.av, .iptr true [.int .i64 id]] (.bool (decide ((x.id : Int) = id))) := by
 obtain ⟨a1, a2, a3, a4, a5, a6, a7, a8⟩ := x
 refine fnk (by omega) B_snap_create_1 rfl ?_
 unfold snap_create_1 Rec.av
 simp only
 repeat' (first
  | refine q_s ?_ | refine q_z ?_ | refine q_mv ?_ | refine q_faddr ?_ | refine q_faddrI ?_ | refine q_load ?_ | refine q_loadI ?_ | refine q_loadR ?_ | refine q_loadM ?_ | refine q_cmp ?_
  | refine q_cmp2 (fun _ => ?_) (fun _ => ?_) | refine q_box ?_)
 all_goals
  refine ⟨Or.inr rfl, _, rfl, ?_⟩
  simp only [cmpP] at *
  show AV.bool _ = AV.bool _
  congr 1
  first
   | exact (decide_eq_true (by omega)).symm
   | exact (decide_eq_false (by omega)).symm
theorem c_create (k : Nat) (hk : 1000030 ≤ k) (f : Bool) (s : Nat) (recs : List Rec) (g b r z fi slot : Nat) (id : Int) (hs : s = 8 ∨ recs = []) (hl : recs.length < 1000000) : FnV (CF k) n_snap_create [.agg [.int .i64 g, .int .i64 b, .int .i64 r, .int .i64 z, .int .i64 fi, .int .i64 slot, .islc false f s (recs.map Rec.av)], .int .i64 id] (.int .i64 (createE recs id)) := by
 have hp := c_pending (k - 1) (by omega) false f s recs (.int .i64 g) (.int .i64 b) (.int .i64 r) (.int .i64 z) (.int .i64 fi) (.int .i64 slot) hs
 have hi := c_ids (k - 1) (by omega) id
 have hlr : (recs.map Rec.av).length = recs.length := List.length_map _
 have hcf : FnV (CF (k - 1)) n_slices_ContainsFunc___api_Record_api_Record_ [.islc false f s (recs.map Rec.av), .fn n_snap_create_1 [.iptr true [.int .i64 id]]] (.bool (recs.any fun r => decide ((r.id : Int) = id))) := by
  by_cases hn : recs = []
  ·subst hn
   exact c_ContainsFuncRE (k - 1) (by omega) false f s _ _ (fun _ => rfl)
  ·obtain rfl : s = 8 := hs.resolve_right hn
   exact c_ContainsFuncR (k - 1) (by omega) false f recs n_snap_create_1 [.iptr true [.int .i64 id]] (fun r => decide ((r.id : Int) = id)) hl (fun _ => rfl) (fun _ _ => rfl) (fun i hi => c_create_1 (k - 3) (by omega) _ id)
 obtain ⟨pr, pb, hpv, hpb⟩ : ∃ (pr : Rec) (pb : Bool), pendAv (pendP recs) = .tup [pr.av, .bool pb] ∧ (pendP recs).isSome = pb := by
  cases pendP recs with
  | none => exact ⟨rec0, false, rfl, rfl⟩
  | some r => exact ⟨r, true, rfl, rfl⟩
 rw [hpv] at hp
 obtain ⟨b1, b2, b3, b4, b5, b6, b7, b8⟩ := pr
 unfold Rec.av at hp
 simp only at hp
 obtain ⟨an, han⟩ : ∃ b, b = (recs.any fun r => decide ((r.id : Int) = id)) := ⟨_, rfl⟩
 rw [← han] at hcf
 unfold createE
 rw [hpb, ← han]
 refine fnk (by omega) B_snap_create rfl ?_
 unfold snap_create
 by_cases h1 : idOk id
 ·rw [if_pos h1] at hi
  rw [if_neg (fun hh => hh h1)]
  cases pb with
  | true =>
   repeat' (first
    | refine q_s ?_ | refine q_z ?_ | refine q_b ?_ | refine q_mv ?_ | refine q_faddr ?_ | refine q_faddrI ?_ | refine q_load ?_ | refine q_loadI ?_ | refine q_loadR ?_ | refine q_loadM ?_
    | refine q_cmp ?_ | refine q_cmp2 (fun _ => ?_) (fun _ => ?_) | refine q_len ?_ | refine q_lenS ?_ | refine q_len0 ?_ | refine q_lenM ?_ | refine q_ex ?_ | refine q_store ?_
    | refine q_storeR ?_ | refine q_storeM ?_ | refine q_box ?_ | refine q_mkfn ?_ | refine q_callB (hp) (fun _ => ?_) (fun _ => ?_) | refine q_call (hp) ?_
    | refine q_callB (hi) (fun _ => ?_) (fun _ => ?_) | refine q_call (hi) ?_)
   exact ⟨Or.inr rfl, _, rfl, rfl⟩
  | false =>
   rw [if_neg (by decide)]
   cases an with
   | true =>
    repeat' (first
     | refine q_s ?_ | refine q_z ?_ | refine q_b ?_ | refine q_call hcf ?_ | refine q_mv ?_ | refine q_faddr ?_ | refine q_faddrI ?_ | refine q_load ?_ | refine q_loadI ?_
     | refine q_loadR ?_ | refine q_loadM ?_ | refine q_cmp ?_ | refine q_cmp2 (fun _ => ?_) (fun _ => ?_) | refine q_len ?_ | refine q_lenS ?_ | refine q_len0 ?_ | refine q_lenM ?_
     | refine q_ex ?_ | refine q_store ?_ | refine q_storeR ?_ | refine q_storeM ?_ | refine q_box ?_ | refine q_mkfn ?_ | refine q_callB (hp) (fun _ => ?_) (fun _ => ?_)
     | refine q_call (hp) ?_ | refine q_callB (hi) (fun _ => ?_) (fun _ => ?_) | refine q_call (hi) ?_)
    exact ⟨Or.inr rfl, _, rfl, rfl⟩
   | false =>
    rw [if_neg (by decide)]
    by_cases h60 : 60 ≤ recs.length
    ·rw [if_pos h60]
     repeat' (first
      | refine q_s ?_ | refine q_z ?_ | refine q_b ?_ | refine q_call hcf ?_ | refine wo_lenG (n := recs.length) rfl hlr rfl rfl ?_ | refine q_mv ?_ | refine q_faddr ?_
      | refine q_faddrI ?_ | refine q_load ?_ | refine q_loadI ?_ | refine q_loadR ?_ | refine q_loadM ?_ | refine q_cmp ?_ | refine q_cmp2 (fun _ => ?_) (fun _ => ?_) | refine q_len ?_
      | refine q_lenS ?_ | refine q_len0 ?_ | refine q_lenM ?_ | refine q_ex ?_ | refine q_store ?_ | refine q_storeR ?_ | refine q_storeM ?_ | refine q_box ?_ | refine q_mkfn ?_
      | refine q_callB (hp) (fun _ => ?_) (fun _ => ?_) | refine q_call (hp) ?_ | refine q_callB (hi) (fun _ => ?_) (fun _ => ?_) | refine q_call (hi) ?_)
     exact ⟨Or.inr rfl, _, rfl, rfl⟩
    ·rw [if_neg h60]
     repeat' (first
      | refine q_s ?_ | refine q_z ?_ | refine q_b ?_ | refine q_call hcf ?_ | refine wo_lenG (n := recs.length) rfl hlr rfl rfl ?_ | refine q_mv ?_ | refine q_faddr ?_
      | refine q_faddrI ?_ | refine q_load ?_ | refine q_loadI ?_ | refine q_loadR ?_ | refine q_loadM ?_ | refine q_cmp ?_ | refine q_cmp2 (fun _ => ?_) (fun _ => ?_) | refine q_len ?_
      | refine q_lenS ?_ | refine q_len0 ?_ | refine q_lenM ?_ | refine q_ex ?_ | refine q_store ?_ | refine q_storeR ?_ | refine q_storeM ?_ | refine q_box ?_ | refine q_mkfn ?_
      | refine q_callB (hp) (fun _ => ?_) (fun _ => ?_) | refine q_call (hp) ?_ | refine q_callB (hi) (fun _ => ?_) (fun _ => ?_) | refine q_call (hi) ?_)
     exact ⟨Or.inr rfl, _, rfl, rfl⟩
 ·rw [if_neg h1] at hi
  rw [if_pos h1]
  repeat' (first
   | refine q_s ?_ | refine q_z ?_ | refine q_b ?_ | refine q_mv ?_ | refine q_faddr ?_ | refine q_faddrI ?_ | refine q_load ?_ | refine q_loadI ?_ | refine q_loadR ?_ | refine q_loadM ?_
   | refine q_cmp ?_ | refine q_cmp2 (fun _ => ?_) (fun _ => ?_) | refine q_len ?_ | refine q_lenS ?_ | refine q_len0 ?_ | refine q_lenM ?_ | refine q_ex ?_ | refine q_store ?_
   | refine q_storeR ?_ | refine q_storeM ?_ | refine q_box ?_ | refine q_mkfn ?_ | refine q_callB (hp) (fun _ => ?_) (fun _ => ?_) | refine q_call (hp) ?_
   | refine q_callB (hi) (fun _ => ?_) (fun _ => ?_) | refine q_call (hi) ?_)
  exact ⟨Or.inr rfl, _, rfl, rfl⟩
theorem createE_id {recs : List Rec} {id : Int} (h : createE recs id = 0) : idOk id := by
 unfold createE at h
 by_cases h1 : idOk id
 ·exact h1
 ·rw [if_pos h1] at h; omega
theorem iosAv_tup (y : Except Nat (List IoV)) : ∃ (uf : Bool) (us : Nat) (ues : List AV) (e : Nat), iosAv y = .tup [.islc false uf us ues, .int .i64 e] := by
 cases y with
 | error e => exact ⟨true, 0, [], e, rfl⟩
 | ok ios => exact ⟨false, 3, ios.map IoV.av, 0, rfl⟩
theorem c_Create (k : Nat) (hk : 1000200 ≤ k) (f : Bool) (l : List UInt8) (hl : l.length < 1000000) (id : Int) : FnV (CF k) n_snap_Create [.islc false f 1 (BL l), .int .i64 id] (iosAv (createP l id)) := by
 have hlk := c_LookQ (k - 1) (by omega) f l hl
 refine fnk (by omega) B_snap_Create rfl ?_
 unfold snap_Create createP
 cases h : lookQ l with
 | error p =>
  obtain ⟨a, e⟩ := p
  have he := lookQ_err h
  rw [h] at hlk
  unfold lookAv at hlk
  simp only at hlk ⊢
  have he0 : (e : Int) ≠ 0 := by omega
  repeat' (first
   | refine q_s ?_ | refine q_z ?_ | refine q_b ?_ | refine q_mv ?_ | refine q_faddr ?_ | refine q_faddrI ?_ | refine q_nilc ?_ | refine q_nilcI ?_ | refine q_load ?_ | refine q_loadI ?_
   | refine q_loadR ?_ | refine q_loadM ?_ | refine q_cmp ?_ | refine q_cmp2 (fun _ => ?_) (fun _ => ?_) | refine q_len ?_ | refine q_lenS ?_ | refine q_len0 ?_ | refine q_lenM ?_
   | refine q_ex ?_ | refine q_store ?_ | refine q_storeR ?_ | refine q_storeM ?_ | refine q_box ?_ | refine q_at ?_ | refine q_atM ?_ | refine q_atG ?_ | refine q_atR ?_
   | refine q_build0 ?_ | refine q_build ?_ | refine q_callB (hlk) (fun _ => ?_) (fun _ => ?_) | refine q_call (hlk) ?_)
  exact ⟨Or.inr rfl, _, rfl, rfl⟩
 | ok x =>
  rw [h] at hlk
  obtain ⟨hd, hx⟩ := lookQ_ok hl h
  have hfew := hx.few
  obtain ⟨f1, s1, hr, hs1⟩ := rIvF x.recs
  obtain ⟨f2, s2, hb, hs2⟩ := nodesIvF x.blocks
  unfold lookAv at hlk
  simp only at hlk ⊢
  have hcr := c_create (k - 1) (by omega) f1 s1 x.recs x.sup.gen x.sup.blocks x.sup.root x.sup.size x.sup.first x.slot id hs1 (by omega)
  have hlr : (x.recs.map Rec.av).length = x.recs.length := List.length_map _
  by_cases hc : createE x.recs id = 0
  ·rw [if_neg (by omega)]
   rw [hc] at hcr
   have hmk := c_Makes (k - 1) (by omega) f l hd x hx 0 (newRec x id) true (Nat.zero_le _) (fun _ => newRec_ok hd hx hc)
   have hid := createE_id hc
   obtain ⟨uf, us, ues, ue, hut⟩ := iosAv_tup (makesP l x 0 (newRec x id) true)
   rw [hut] at hmk ⊢
   obtain ⟨i, hi⟩ : ∃ i : Nat, i = id.toNat := ⟨_, rfl⟩
   have hii : id = i := by have := hid.1; omega
   unfold newRec Rec.av at hmk
   simp only at hmk
   rw [← hi] at hmk
   subst hii
   unfold Img.cs at hlk hmk
   rw [hr, hb] at hlk hmk
   obtain ⟨⟨g, b, r, z, fi⟩, slot, recs, blocks, trees⟩ := x
   simp only at hlk hcr hmk hs1 hlr
   cases recs with
   | nil =>
    simp only [parentP] at hmk
    repeat' (first
     | refine q_s ?_ | refine q_z ?_ | refine q_b ?_ | refine q_nilcI ?_ | refine wo_lenG (n := 0) rfl rfl rfl rfl ?_ | refine q_box ?_ (hl := by kernel_rfl) | refine q_mv ?_
     | refine q_faddr ?_ | refine q_faddrI ?_ | refine q_nilc ?_ | refine q_nilcI ?_ | refine q_load ?_ | refine q_loadI ?_ | refine q_loadR ?_ | refine q_loadM ?_ | refine q_cmp ?_
     | refine q_cmp2 (fun _ => ?_) (fun _ => ?_) | refine q_len ?_ | refine q_lenS ?_ | refine q_len0 ?_ | refine q_lenM ?_ | refine q_ex ?_ | refine q_store ?_ | refine q_storeR ?_
     | refine q_storeM ?_ | refine q_box ?_ | refine q_at ?_ | refine q_atM ?_ | refine q_atG ?_ | refine q_atR ?_ | refine q_build0 ?_ | refine q_build ?_
     | refine q_callB (hlk) (fun _ => ?_) (fun _ => ?_) | refine q_call (hlk) ?_ | refine q_callB (hcr) (fun _ => ?_) (fun _ => ?_) | refine q_call (hcr) ?_
     | refine q_callB (hmk) (fun _ => ?_) (fun _ => ?_) | refine q_call (hmk) ?_)
    exact ⟨Or.inr rfl, _, rfl, rfl⟩
   | cons r0 rs =>
    obtain ⟨c1, c2, c3, c4, c5, c6, c7, c8⟩ := r0
    obtain rfl : s1 = 8 := hs1.resolve_right (by simp)
    simp only [parentP] at hmk
    have hln : ((⟨c1, c2, c3, c4, c5, c6, c7, c8⟩ :: rs : List Rec).map Rec.av).length = rs.length + 1 := by simp
    have hea : ((⟨c1, c2, c3, c4, c5, c6, c7, c8⟩ :: rs : List Rec).map Rec.av)[(0 : Int).toNat]? = some (.agg [.int .i64 c1, .int .i64 c2, .int .i64 c3, .int .i64 c4, .int .i64 c5, .int .i64 c6, .int .i64 c7, .int .i64 c8]) := rfl
    repeat' (first
     | refine q_s ?_ | refine q_z ?_ | refine q_b ?_ | refine q_nilcI ?_ | refine wo_lenG (n := rs.length + 1) rfl hln rfl rfl ?_ | refine wo_atG rfl rfl (by omega) hea rfl rfl ?_
     | refine q_faddrI ?_ | refine q_box ?_ (hl := by kernel_rfl) | refine q_mv ?_ | refine q_faddr ?_ | refine q_faddrI ?_ | refine q_nilc ?_ | refine q_nilcI ?_ | refine q_load ?_
     | refine q_loadI ?_ | refine q_loadR ?_ | refine q_loadM ?_ | refine q_cmp ?_ | refine q_cmp2 (fun _ => ?_) (fun _ => ?_) | refine q_len ?_ | refine q_lenS ?_ | refine q_len0 ?_
     | refine q_lenM ?_ | refine q_ex ?_ | refine q_store ?_ | refine q_storeR ?_ | refine q_storeM ?_ | refine q_box ?_ | refine q_at ?_ | refine q_atM ?_ | refine q_atG ?_
     | refine q_atR ?_ | refine q_build0 ?_ | refine q_build ?_ | refine q_callB (hlk) (fun _ => ?_) (fun _ => ?_) | refine q_call (hlk) ?_
     | refine q_callB (hcr) (fun _ => ?_) (fun _ => ?_) | refine q_call (hcr) ?_ | refine q_callB (hmk) (fun _ => ?_) (fun _ => ?_) | refine q_call (hmk) ?_)
    exact ⟨Or.inr rfl, _, rfl, rfl⟩
  ·rw [if_pos hc]
   unfold Img.cs at hlk
   rw [hr, hb] at hlk
   obtain ⟨⟨g, b, r, z, fi⟩, slot, recs, blocks, trees⟩ := x
   simp only at hlk hcr hc ⊢
   obtain ⟨ce, hce⟩ : ∃ e, e = createE recs id := ⟨_, rfl⟩
   rw [← hce] at hcr hc ⊢
   have hc' : (ce : Int) ≠ 0 := by omega
   repeat' (first
    | refine q_s ?_ | refine q_z ?_ | refine q_b ?_ | refine q_nilcI ?_ | refine q_mv ?_ | refine q_faddr ?_ | refine q_faddrI ?_ | refine q_nilc ?_ | refine q_nilcI ?_ | refine q_load ?_
    | refine q_loadI ?_ | refine q_loadR ?_ | refine q_loadM ?_ | refine q_cmp ?_ | refine q_cmp2 (fun _ => ?_) (fun _ => ?_) | refine q_len ?_ | refine q_lenS ?_ | refine q_len0 ?_
    | refine q_lenM ?_ | refine q_ex ?_ | refine q_store ?_ | refine q_storeR ?_ | refine q_storeM ?_ | refine q_box ?_ | refine q_at ?_ | refine q_atM ?_ | refine q_atG ?_
    | refine q_atR ?_ | refine q_build0 ?_ | refine q_build ?_ | refine q_callB (hlk) (fun _ => ?_) (fun _ => ?_) | refine q_call (hlk) ?_ | refine q_callB (hcr) (fun _ => ?_) (fun _ => ?_)
    | refine q_call (hcr) ?_)
   exact ⟨Or.inr rfl, _, rfl, rfl⟩
end Go.Proofs.Ytkaiiopoilpjeaa
set_option linter.unusedSimpArgs false
set_option linter.unusedVariables false
set_option maxRecDepth 10000
set_option maxHeartbeats 16000000
namespace Go.Proofs.Ytkaiiopoilpjeaa
open Go.AI
theorem findP_range (recs : List Rec) (id : Int) : -1 ≤ findP recs id ∧ findP recs id < recs.length ∨ recs = [] := by
 by_cases h : recs = []
 ·exact .inr h
 ·left
  have h1 := idxL_range (fun r : Rec => decide ((r.id : Int) = id ∧ r.kind = 0)) recs 0
  have h2 := idxL_some (fun r : Rec => decide ((r.id : Int) = id ∧ r.kind = 0)) recs 0
  have hl : 0 < recs.length := List.length_pos_iff.2 h
  refine ⟨h1.1, ?_⟩
  by_cases h3 : findP recs id ≥ 0
  ·obtain ⟨j, hj1, hj2⟩ := h2 h3
   unfold findP
   rw [hj2]; omega
  ·omega
theorem findP_lt {recs : List Rec} {id : Int} (h : ¬ findP recs id < 0) : 0 ≤ findP recs id ∧ findP recs id < recs.length := by
 rcases findP_range recs id with h1 | h1
 ·omega
 ·subst h1
  exact absurd (by show idxL _ [] 0 < 0; rw [idxL_nil]; decide) h
attribute [local irreducible] aops aexec acall aiter aop W WO
def findAv (recs : List Rec) (id : Int) : AV := if ¬ idOk id then .tup [.int .i64 0, .int .i64 1] else if findP recs id < 0 then .tup [.int .i64 0, .int .i64 11] else .tup [.int .i64 (findP recs id), .int .i64 0]
theorem c_find (k : Nat) (hk : 1000030 ≤ k) (f : Bool) (s : Nat) (recs : List Rec) (g b r z fi slot : Nat) (id : Int) (hs : s = 8 ∨ recs = []) (hl : recs.length < 1000000) : FnV (CF k) n_snap_find [.agg [.int .i64 g, .int .i64 b, .int .i64 r, .int .i64 z, .int .i64 fi, .int .i64 slot, .islc false f s (recs.map Rec.av)], .int .i64 id] (findAv recs id) := by
 have hi := c_ids (k - 1) (by omega) id
 have hf := c_Find (k - 1) (by omega) false f s recs (.int .i64 g) (.int .i64 b) (.int .i64 r) (.int .i64 z) (.int .i64 fi) (.int .i64 slot) id hs hl rfl
 refine fnk (by omega) B_snap_find rfl ?_
 unfold snap_find findAv
 by_cases h1 : idOk id
 ·rw [if_pos h1] at hi
  rw [if_neg (fun hh => hh h1)]
  by_cases h2 : findP recs id < 0
  ·rw [if_pos h2] at hf ⊢
   repeat' (first
    | refine q_s ?_ | refine q_z ?_ | refine q_b ?_ | refine q_mv ?_ | refine q_load ?_ | refine q_loadI ?_ | refine q_loadR ?_ | refine q_loadM ?_ | refine q_cmp ?_
    | refine q_cmp2 (fun _ => ?_) (fun _ => ?_) | refine q_notT ?_ | refine q_notF ?_ | refine q_ex ?_ | refine q_box ?_ | refine q_callB (hi) (fun _ => ?_) (fun _ => ?_)
    | refine q_call (hi) ?_ | refine q_callB (hf) (fun _ => ?_) (fun _ => ?_) | refine q_call (hf) ?_)
   exact ⟨Or.inr rfl, _, rfl, rfl⟩
  ·rw [if_neg h2] at hf ⊢
   repeat' (first
    | refine q_s ?_ | refine q_z ?_ | refine q_b ?_ | refine q_mv ?_ | refine q_load ?_ | refine q_loadI ?_ | refine q_loadR ?_ | refine q_loadM ?_ | refine q_cmp ?_
    | refine q_cmp2 (fun _ => ?_) (fun _ => ?_) | refine q_notT ?_ | refine q_notF ?_ | refine q_ex ?_ | refine q_box ?_ | refine q_callB (hi) (fun _ => ?_) (fun _ => ?_)
    | refine q_call (hi) ?_ | refine q_callB (hf) (fun _ => ?_) (fun _ => ?_) | refine q_call (hf) ?_)
   exact ⟨Or.inr rfl, _, rfl, rfl⟩
 ·rw [if_neg h1] at hi
  rw [if_pos h1]
  repeat' (first
   | refine q_s ?_ | refine q_z ?_ | refine q_b ?_ | refine q_mv ?_ | refine q_load ?_ | refine q_loadI ?_ | refine q_loadR ?_ | refine q_loadM ?_ | refine q_cmp ?_
   | refine q_cmp2 (fun _ => ?_) (fun _ => ?_) | refine q_notT ?_ | refine q_notF ?_ | refine q_ex ?_ | refine q_box ?_ | refine q_callB (hi) (fun _ => ?_) (fun _ => ?_)
   | refine q_call (hi) ?_)
  exact ⟨Or.inr rfl, _, rfl, rfl⟩
theorem c_Delete (k : Nat) (hk : 1000200 ≤ k) (f : Bool) (l : List UInt8) (hl : l.length < 1000000) (id : Int) : FnV (CF k) n_snap_Delete [.islc false f 1 (BL l), .int .i64 id] (iosAv (deleteP l id)) := by
 have hlk := c_LookQ (k - 1) (by omega) f l hl
 refine fnk (by omega) B_snap_Delete rfl ?_
 unfold snap_Delete deleteP
 cases h : lookQ l with
 | error p =>
  obtain ⟨a, e⟩ := p
  have he := lookQ_err h
  rw [h] at hlk
  unfold lookAv at hlk
  simp only at hlk ⊢
  have he0 : (e : Int) ≠ 0 := by omega
  repeat' (first
   | refine q_s ?_ | refine q_z ?_ | refine q_b ?_ | refine q_n ?_ | refine q_nn ?_ | refine q_mv ?_ | refine q_faddr ?_ | refine q_faddrI ?_ | refine q_nilc ?_ | refine q_nilcI ?_
   | refine q_load ?_ | refine q_loadI ?_ | refine q_loadR ?_ | refine q_loadM ?_ | refine q_cmp ?_ | refine q_cmp2 (fun _ => ?_) (fun _ => ?_) | refine q_add ?_ | refine q_pickT ?_
   | refine q_pickF ?_ | refine q_ex ?_ | refine q_store ?_ | refine q_storeR ?_ | refine q_storeM ?_ | refine q_box ?_ | refine q_build0 ?_ | refine q_build ?_
   | refine q_callB (hlk) (fun _ => ?_) (fun _ => ?_) | refine q_call (hlk) ?_)
  exact ⟨Or.inr rfl, _, rfl, rfl⟩
 | ok x =>
  rw [h] at hlk
  obtain ⟨hd, hx⟩ := lookQ_ok hl h
  have hfew := hx.few
  obtain ⟨f1, s1, hr, hs1⟩ := rIvF x.recs
  obtain ⟨f2, s2, hb, hs2⟩ := nodesIvF x.blocks
  unfold lookAv at hlk
  simp only at hlk ⊢
  have hfd := c_find (k - 1) (by omega) f1 s1 x.recs x.sup.gen x.sup.blocks x.sup.root x.sup.size x.sup.first x.slot id hs1 (by omega)
  have hpd := c_pending (k - 1) (by omega) false f1 s1 x.recs (.int .i64 x.sup.gen) (.int .i64 x.sup.blocks) (.int .i64 x.sup.root) (.int .i64 x.sup.size) (.int .i64 x.sup.first) (.int .i64 x.slot) hs1
  unfold findAv at hfd
  by_cases h1 : idOk id
  rotate_left 1
  ·rw [if_pos h1] at hfd ⊢
   unfold Img.cs at hlk
   rw [hr, hb] at hlk
   obtain ⟨⟨g, b, r, z, fi⟩, slot, recs, blocks, trees⟩ := x
   simp only at hlk hfd
   repeat' (first
    | refine q_s ?_ | refine q_z ?_ | refine q_b ?_ | refine q_nilcI ?_ | refine q_n ?_ | refine q_nn ?_ | refine q_mv ?_ | refine q_faddr ?_ | refine q_faddrI ?_ | refine q_nilc ?_
    | refine q_nilcI ?_ | refine q_load ?_ | refine q_loadI ?_ | refine q_loadR ?_ | refine q_loadM ?_ | refine q_cmp ?_ | refine q_cmp2 (fun _ => ?_) (fun _ => ?_) | refine q_add ?_
    | refine q_pickT ?_ | refine q_pickF ?_ | refine q_ex ?_ | refine q_store ?_ | refine q_storeR ?_ | refine q_storeM ?_ | refine q_box ?_ | refine q_build0 ?_ | refine q_build ?_
    | refine q_callB (hlk) (fun _ => ?_) (fun _ => ?_) | refine q_call (hlk) ?_ | refine q_callB (hfd) (fun _ => ?_) (fun _ => ?_) | refine q_call (hfd) ?_)
   exact ⟨Or.inr rfl, _, rfl, rfl⟩
  rw [if_neg (fun hh => hh h1)] at hfd ⊢
  by_cases h2 : findP x.recs id < 0
  ·rw [if_pos h2] at hfd ⊢
   unfold Img.cs at hlk
   rw [hr, hb] at hlk
   obtain ⟨⟨g, b, r, z, fi⟩, slot, recs, blocks, trees⟩ := x
   simp only at hlk hfd
   repeat' (first
    | refine q_s ?_ | refine q_z ?_ | refine q_b ?_ | refine q_nilcI ?_ | refine q_n ?_ | refine q_nn ?_ | refine q_mv ?_ | refine q_faddr ?_ | refine q_faddrI ?_ | refine q_nilc ?_
    | refine q_nilcI ?_ | refine q_load ?_ | refine q_loadI ?_ | refine q_loadR ?_ | refine q_loadM ?_ | refine q_cmp ?_ | refine q_cmp2 (fun _ => ?_) (fun _ => ?_) | refine q_add ?_
    | refine q_pickT ?_ | refine q_pickF ?_ | refine q_ex ?_ | refine q_store ?_ | refine q_storeR ?_ | refine q_storeM ?_ | refine q_box ?_ | refine q_build0 ?_ | refine q_build ?_
    | refine q_callB (hlk) (fun _ => ?_) (fun _ => ?_) | refine q_call (hlk) ?_ | refine q_callB (hfd) (fun _ => ?_) (fun _ => ?_) | refine q_call (hfd) ?_)
   exact ⟨Or.inr rfl, _, rfl, rfl⟩
  rw [if_neg h2] at hfd ⊢
  have hfl := findP_lt h2
  obtain ⟨q, hq⟩ : ∃ q : Nat, q = (findP x.recs id).toNat := ⟨_, rfl⟩
  have hqi : findP x.recs id = q := by omega
  rw [hqi] at hfd
  rw [← hq]
  have hmk := c_Makes (k - 1) (by omega) f l hd x hx (q + 1) rec0 false (by omega) (fun h => by cases h)
  obtain ⟨uf, us, ues, ue, hut⟩ := iosAv_tup (makesP l x (q + 1) rec0 false)
  have hmk' : FnV (CF (k - 1)) n_snap_Makes [.islc false f 1 (BL l), .iptr false (x.cs false f l), .int .i64 ((q : Int) + 1), .agg [.int .i64 0, .int .i64 0, .int .i64 0, .int .i64 0, .int .i64 0, .int .i64 0, .int .i64 0, .int .i64 0], .bool false] (.tup [.islc false uf us ues, .int .i64 ue]) := by rw [← hut]; exact hmk
  unfold Img.cs at hlk hmk'
  rw [hr, hb] at hlk hmk'
  cases hpp : pendP x.recs with
  | none =>
   rw [hpp] at hpd
   have hpd' : FnV (CF (k - 1)) n_snap_pending _ (.tup [.agg [.int .i64 0, .int .i64 0, .int .i64 0, .int .i64 0, .int .i64 0, .int .i64 0, .int .i64 0, .int .i64 0], .bool false]) := hpd
   rw [if_neg (by show ¬ (false = true); decide), hut]
   obtain ⟨⟨g, b, r, z, fi⟩, slot, recs, blocks, trees⟩ := x
   simp only at hlk hfd hpd' hmk'
   repeat' (first
    | refine q_s ?_ | refine q_z ?_ | refine q_b ?_ | refine q_nilcI ?_ | refine q_n ?_ | refine q_nn ?_ | refine q_mv ?_ | refine q_faddr ?_ | refine q_faddrI ?_ | refine q_nilc ?_
    | refine q_nilcI ?_ | refine q_load ?_ | refine q_loadI ?_ | refine q_loadR ?_ | refine q_loadM ?_ | refine q_cmp ?_ | refine q_cmp2 (fun _ => ?_) (fun _ => ?_) | refine q_add ?_
    | refine q_pickT ?_ | refine q_pickF ?_ | refine q_ex ?_ | refine q_store ?_ | refine q_storeR ?_ | refine q_storeM ?_ | refine q_box ?_ | refine q_build0 ?_ | refine q_build ?_
    | refine q_callB (hlk) (fun _ => ?_) (fun _ => ?_) | refine q_call (hlk) ?_ | refine q_callB (hfd) (fun _ => ?_) (fun _ => ?_) | refine q_call (hfd) ?_
    | refine q_callB (hpd') (fun _ => ?_) (fun _ => ?_) | refine q_call (hpd') ?_ | refine q_callB (hmk') (fun _ => ?_) (fun _ => ?_) | refine q_call (hmk') ?_)
   exact ⟨Or.inr rfl, _, rfl, rfl⟩
  | some pr =>
   rw [hpp] at hpd
   obtain ⟨c1, c2, c3, c4, c5, c6, c7, c8⟩ := pr
   have hpd' : FnV (CF (k - 1)) n_snap_pending _ (.tup [.agg [.int .i64 c1, .int .i64 c2, .int .i64 c3, .int .i64 c4, .int .i64 c5, .int .i64 c6, .int .i64 c7, .int .i64 c8], .bool true]) := hpd
   simp only
   by_cases h3 : (c3 : Int) = id
   ·rw [if_pos (decide_eq_true h3)]
    obtain ⟨⟨g, b, r, z, fi⟩, slot, recs, blocks, trees⟩ := x
    simp only at hlk hfd hpd'
    repeat' (first
     | refine q_s ?_ | refine q_z ?_ | refine q_b ?_ | refine q_nilcI ?_ | refine q_n ?_ | refine q_nn ?_ | refine q_mv ?_ | refine q_faddr ?_ | refine q_faddrI ?_ | refine q_nilc ?_
     | refine q_nilcI ?_ | refine q_load ?_ | refine q_loadI ?_ | refine q_loadR ?_ | refine q_loadM ?_ | refine q_cmp ?_ | refine q_cmp2 (fun _ => ?_) (fun _ => ?_) | refine q_add ?_
     | refine q_pickT ?_ | refine q_pickF ?_ | refine q_ex ?_ | refine q_store ?_ | refine q_storeR ?_ | refine q_storeM ?_ | refine q_box ?_ | refine q_build0 ?_ | refine q_build ?_
     | refine q_callB (hlk) (fun _ => ?_) (fun _ => ?_) | refine q_call (hlk) ?_ | refine q_callB (hfd) (fun _ => ?_) (fun _ => ?_) | refine q_call (hfd) ?_
     | refine q_callB (hpd') (fun _ => ?_) (fun _ => ?_) | refine q_call (hpd') ?_)
    exact ⟨Or.inr rfl, _, rfl, rfl⟩
   ·rw [if_neg (by rw [decide_eq_false h3]; decide), hut]
    obtain ⟨⟨g, b, r, z, fi⟩, slot, recs, blocks, trees⟩ := x
    simp only at hlk hfd hpd' hmk'
    repeat' (first
     | refine q_s ?_ | refine q_z ?_ | refine q_b ?_ | refine q_nilcI ?_ | refine q_n ?_ | refine q_nn ?_ | refine q_mv ?_ | refine q_faddr ?_ | refine q_faddrI ?_ | refine q_nilc ?_
     | refine q_nilcI ?_ | refine q_load ?_ | refine q_loadI ?_ | refine q_loadR ?_ | refine q_loadM ?_ | refine q_cmp ?_ | refine q_cmp2 (fun _ => ?_) (fun _ => ?_) | refine q_add ?_
     | refine q_pickT ?_ | refine q_pickF ?_ | refine q_ex ?_ | refine q_store ?_ | refine q_storeR ?_ | refine q_storeM ?_ | refine q_box ?_ | refine q_build0 ?_ | refine q_build ?_
     | refine q_callB (hlk) (fun _ => ?_) (fun _ => ?_) | refine q_call (hlk) ?_ | refine q_callB (hfd) (fun _ => ?_) (fun _ => ?_) | refine q_call (hfd) ?_
     | refine q_callB (hpd') (fun _ => ?_) (fun _ => ?_) | refine q_call (hpd') ?_ | refine q_callB (hmk') (fun _ => ?_) (fun _ => ?_) | refine q_call (hmk') ?_)
    exact ⟨Or.inr rfl, _, rfl, rfl⟩
theorem c_Rollback (k : Nat) (hk : 1000200 ≤ k) (f : Bool) (l : List UInt8) (hl : l.length < 1000000) (id : Int) : FnV (CF k) n_snap_Rollback [.islc false f 1 (BL l), .int .i64 id] (rollAv (rollP l id)) := by
 have hlk := c_LookQ (k - 1) (by omega) f l hl
 refine fnk (by omega) B_snap_Rollback rfl ?_
 unfold snap_Rollback rollP
 cases h : lookQ l with
 | error p =>
  obtain ⟨a, e⟩ := p
  have he := lookQ_err h
  rw [h] at hlk
  unfold lookAv at hlk
  simp only at hlk ⊢
  have he0 : (e : Int) ≠ 0 := by omega
  repeat' (first
   | refine q_s ?_ | refine q_z ?_ | refine q_b ?_ | refine q_mv ?_ | refine q_faddr ?_ | refine q_faddrI ?_ | refine q_nilc ?_ | refine q_nilcI ?_ | refine q_load ?_ | refine q_loadI ?_
   | refine q_loadR ?_ | refine q_loadM ?_ | refine q_cmp ?_ | refine q_cmp2 (fun _ => ?_) (fun _ => ?_) | refine q_ex ?_ | refine q_store ?_ | refine q_storeR ?_ | refine q_storeM ?_
   | refine q_box ?_ | refine q_at ?_ | refine q_atM ?_ | refine q_atG ?_ | refine q_atR ?_ | refine q_callB (hlk) (fun _ => ?_) (fun _ => ?_) | refine q_call (hlk) ?_)
  exact ⟨Or.inr rfl, _, rfl, rfl⟩
 | ok x =>
  rw [h] at hlk
  obtain ⟨hd, hx⟩ := lookQ_ok hl h
  have hfew := hx.few
  obtain ⟨f1, s1, hr, hs1⟩ := rIvF x.recs
  obtain ⟨f2, s2, hb, hs2⟩ := nodesIvF x.blocks
  unfold lookAv at hlk
  simp only at hlk ⊢
  have hfd := c_find (k - 1) (by omega) f1 s1 x.recs x.sup.gen x.sup.blocks x.sup.root x.sup.size x.sup.first x.slot id hs1 (by omega)
  unfold findAv at hfd
  by_cases h1 : idOk id
  rotate_left 1
  ·rw [if_pos h1] at hfd ⊢
   unfold Img.cs at hlk
   rw [hr, hb] at hlk
   obtain ⟨⟨g, b, r, z, fi⟩, slot, recs, blocks, trees⟩ := x
   simp only at hlk hfd
   repeat' (first
    | refine q_s ?_ | refine q_z ?_ | refine q_b ?_ | refine q_nilcI ?_ | refine q_mv ?_ | refine q_faddr ?_ | refine q_faddrI ?_ | refine q_nilc ?_ | refine q_nilcI ?_ | refine q_load ?_
    | refine q_loadI ?_ | refine q_loadR ?_ | refine q_loadM ?_ | refine q_cmp ?_ | refine q_cmp2 (fun _ => ?_) (fun _ => ?_) | refine q_ex ?_ | refine q_store ?_ | refine q_storeR ?_
    | refine q_storeM ?_ | refine q_box ?_ | refine q_at ?_ | refine q_atM ?_ | refine q_atG ?_ | refine q_atR ?_ | refine q_callB (hlk) (fun _ => ?_) (fun _ => ?_) | refine q_call (hlk) ?_
    | refine q_callB (hfd) (fun _ => ?_) (fun _ => ?_) | refine q_call (hfd) ?_)
   exact ⟨Or.inr rfl, _, rfl, rfl⟩
  rw [if_neg (fun hh => hh h1)] at hfd ⊢
  by_cases h2 : findP x.recs id < 0
  ·rw [if_pos h2] at hfd ⊢
   unfold Img.cs at hlk
   rw [hr, hb] at hlk
   obtain ⟨⟨g, b, r, z, fi⟩, slot, recs, blocks, trees⟩ := x
   simp only at hlk hfd
   repeat' (first
    | refine q_s ?_ | refine q_z ?_ | refine q_b ?_ | refine q_nilcI ?_ | refine q_mv ?_ | refine q_faddr ?_ | refine q_faddrI ?_ | refine q_nilc ?_ | refine q_nilcI ?_ | refine q_load ?_
    | refine q_loadI ?_ | refine q_loadR ?_ | refine q_loadM ?_ | refine q_cmp ?_ | refine q_cmp2 (fun _ => ?_) (fun _ => ?_) | refine q_ex ?_ | refine q_store ?_ | refine q_storeR ?_
    | refine q_storeM ?_ | refine q_box ?_ | refine q_at ?_ | refine q_atM ?_ | refine q_atG ?_ | refine q_atR ?_ | refine q_callB (hlk) (fun _ => ?_) (fun _ => ?_) | refine q_call (hlk) ?_
    | refine q_callB (hfd) (fun _ => ?_) (fun _ => ?_) | refine q_call (hfd) ?_)
   exact ⟨Or.inr rfl, _, rfl, rfl⟩
  rw [if_neg h2] at hfd ⊢
  have hfl := findP_lt h2
  obtain ⟨q, hq⟩ : ∃ q : Nat, q = (findP x.recs id).toNat := ⟨_, rfl⟩
  have hqi : findP x.recs id = q := by omega
  rw [hqi] at hfd
  rw [← hq]
  have hql : q < x.recs.length := by omega
  have hs8 : s1 = 8 := hs1.resolve_right (fun h => by rw [h] at hql; simp at hql)
  subst hs8
  obtain ⟨⟨c1, c2, c3, c4, c5, c6, c7, c8⟩, hcr⟩ : ∃ r, r = x.recs.getD q default := ⟨_, rfl⟩
  have hri : x.recs[q] = ⟨c1, c2, c3, c4, c5, c6, c7, c8⟩ := by rw [hcr]; simp [hql]
  have hmem : (⟨c1, c2, c3, c4, c5, c6, c7, c8⟩ : Rec) ∈ x.recs := by rw [← hri]; exact List.getElem_mem hql
  have hea : (x.recs.map Rec.av)[(q : Int).toNat]? = some (.agg [.int .i64 c1, .int .i64 c2, .int .i64 c3, .int .i64 c4, .int .i64 c5, .int .i64 c6, .int .i64 c7, .int .i64 c8]) := by
   rw [Int.toNat_natCast, List.getElem?_map, List.getElem?_eq_getElem hql, hri]; rfl
  have hrok := hx.recs _ hmem
  have hrlt := hx.roots c4 (List.mem_cons_of_mem _ (List.mem_map.2 ⟨_, hmem, rfl⟩))
  have hsok := hx.sup
  have hblk := hx.blocks
  have hst := c_commit_Steps (k - 1) (by omega) x.sup x.slot f1 8 (x.recs.map Rec.av) [] false true 0 c4 c5 x.sup.first hx.sup hx.slot (.inr rfl) (by decide) (fun _ h => by cases h) (fun hg => by
   refine ⟨⟨by show 1 ≤ x.sup.gen + 1; omega, by show x.sup.gen + 1 ≤ _; omega⟩, hsok.2.1, hrok.2.2.2.1, ?_, hsok.2.2.2.2⟩
   show c4 = 0 ∨ 2 ≤ c4 ∧ c4 < x.sup.blocks
   rw [hblk]
   rcases hrok.2.1 with h | h
   ·exact .inl h
   ·exact .inr ⟨h.1, hrlt⟩)
  have hlm : (x.recs.map Rec.av).length = x.recs.length := List.length_map _
  rw [← hcr]
  unfold rollAv
  simp only
  unfold Img.cs at hlk
  rw [hr, hb] at hlk
  obtain ⟨⟨g, b, r, z, fi⟩, slot, recs, blocks, trees⟩ := x
  simp only at hlk hfd hst hea ⊢
  by_cases hg : g < 1099511627776
  ·rw [if_pos hg] at hst ⊢
   repeat' (first
    | refine q_s ?_ | refine q_z ?_ | refine q_b ?_ | refine q_nilcI ?_ | refine wo_atG rfl rfl (by omega) hea rfl rfl ?_ | refine q_mv ?_ | refine q_faddr ?_ | refine q_faddrI ?_
    | refine q_nilc ?_ | refine q_nilcI ?_ | refine q_load ?_ | refine q_loadI ?_ | refine q_loadR ?_ | refine q_loadM ?_ | refine q_cmp ?_ | refine q_cmp2 (fun _ => ?_) (fun _ => ?_)
    | refine q_ex ?_ | refine q_store ?_ | refine q_storeR ?_ | refine q_storeM ?_ | refine q_box ?_ | refine q_at ?_ | refine q_atM ?_ | refine q_atG ?_ | refine q_atR ?_
    | refine q_callB (hlk) (fun _ => ?_) (fun _ => ?_) | refine q_call (hlk) ?_ | refine q_callB (hfd) (fun _ => ?_) (fun _ => ?_) | refine q_call (hfd) ?_
    | refine q_callB (hst) (fun _ => ?_) (fun _ => ?_) | refine q_call (hst) ?_)
   exact ⟨Or.inr rfl, _, rfl, rfl⟩
  ·rw [if_neg hg] at hst ⊢
   repeat' (first
    | refine q_s ?_ | refine q_z ?_ | refine q_b ?_ | refine q_nilcI ?_ | refine wo_atG rfl rfl (by omega) hea rfl rfl ?_ | refine q_mv ?_ | refine q_faddr ?_ | refine q_faddrI ?_
    | refine q_nilc ?_ | refine q_nilcI ?_ | refine q_load ?_ | refine q_loadI ?_ | refine q_loadR ?_ | refine q_loadM ?_ | refine q_cmp ?_ | refine q_cmp2 (fun _ => ?_) (fun _ => ?_)
    | refine q_ex ?_ | refine q_store ?_ | refine q_storeR ?_ | refine q_storeM ?_ | refine q_box ?_ | refine q_at ?_ | refine q_atM ?_ | refine q_atG ?_ | refine q_atR ?_
    | refine q_callB (hlk) (fun _ => ?_) (fun _ => ?_) | refine q_call (hlk) ?_ | refine q_callB (hfd) (fun _ => ?_) (fun _ => ?_) | refine q_call (hfd) ?_
    | refine q_callB (hst) (fun _ => ?_) (fun _ => ?_) | refine q_call (hst) ?_)
   exact ⟨Or.inr rfl, _, rfl, rfl⟩
end Go.Proofs.Ytkaiiopoilpjeaa
set_option linter.unusedSimpArgs false
set_option linter.unusedVariables false
set_option maxRecDepth 10000
set_option maxHeartbeats 16000000
namespace Go.Proofs.Ytkaiiopoilpjeaa
open Go.AI
def wholeR (r : Rec) : Bool := decide (r.kind = 0)
def idsP (recs : List Rec) : List Nat := (recs.filter wholeR).map Rec.id
def listAv : Except (Nat × Nat) Img → AV
 | .ok x => .tup [.islc false false 1 (NL (idsP x.recs)), .int .i64 0]
 | .error (_, e) => .tup [.islc false false 1 [], .int .i64 e]
theorem idsP_len (recs : List Rec) : (idsP recs).length ≤ recs.length := by
 unfold idsP
 rw [List.length_map]
 exact List.length_filter_le _ _
attribute [local irreducible] aops aexec acall aiter aop W WO
theorem list_loop {k : Nat} {recs : List Rec} {f' : Bool} {s' : Nat} {T : Tmps} {H : Heap} (hk : 1000000 ≤ k) (hs : s' = 8 ∨ recs = []) (hl : recs.length < 1000) (h2 : H 2 = ⟨1, false, .row 1 []⟩)
  (hT : Has T [(7, .slc 2 1 0 1 0 0 none), (23, .islc false f' s' (recs.map Rec.av)), (24, .int .i64 recs.length), (25, .int .i64 0)]) :
  W (aexec (CF k) noX 0 k (.loop snap_List_l0) T H) (fun ex T' H' => ex = .exit 0 ∧ H' 2 = ⟨1, false, .row 1 (NL (idsP recs))⟩ ∧ T' 7 = .slc 2 1 (idsP recs).length 1 0 (idsP recs).length none) := by
 refine w_for recs.length (fun i T' H' => H' 2 = ⟨1, false, .row 1 (NL (idsP (recs.take i)))⟩ ∧ Has T' [(7, .slc 2 1 (idsP (recs.take i)).length 1 0 (idsP (recs.take i)).length none), (23, .islc false f' s' (recs.map Rec.av)), (24, .int .i64 recs.length), (25, .int .i64 (i : Nat))]) ⟨h2, hT⟩ (by omega) ?_
 rintro i T H hi ⟨g2, hT⟩
 rw [hT.eq]
 simp only [over]
 unfold snap_List_l0
 by_cases hil : i < recs.length
 ·obtain rfl : s' = 8 := hs.resolve_right (fun h => by rw [h] at hil; simp at hil)
  obtain ⟨⟨b1, b2, b3, b4, b5, b6, b7, b8⟩, hr⟩ : ∃ r, r = recs[i] := ⟨_, rfl⟩
  have he2 : (recs.map Rec.av)[(i : Int).toNat]? = some (.agg [.int .i64 b1, .int .i64 b2, .int .i64 b3, .int .i64 b4, .int .i64 b5, .int .i64 b6, .int .i64 b7, .int .i64 b8]) := by
   rw [Int.toNat_natCast, List.getElem?_map, List.getElem?_eq_getElem hil, ← hr]; rfl
  have hql := idsP_len (recs.take i)
  rw [List.length_take] at hql
  have hst : idsP (recs.take (i + 1)) = idsP (recs.take i) ++ (if b6 = 0 then [b2] else []) := by
   unfold idsP
   rw [List.take_succ_eq_append_getElem hil, ← hr, List.filter_append, List.map_append]
   congr 1
   simp only [List.filter_cons, List.filter_nil, wholeR, decide_eq_true_eq]
   by_cases h : b6 = 0
   ·rw [if_pos h, if_pos h]; rfl
   ·rw [if_neg h, if_neg h]; rfl
  obtain ⟨q, hq⟩ : ∃ q, q = idsP (recs.take i) := ⟨_, rfl⟩
  rw [← hq] at g2 hql hst ⊢
  by_cases h0 : b6 = 0
  ·rw [if_pos h0] at hst
   have h0' : (b6 : Int) = 0 := by omega
   repeat' (first
    | refine q_s ?_ | refine q_z ?_ | refine q_b ?_ | refine wo_atG rfl rfl (by omega) he2 rfl rfl ?_
    | refine wo_app1 rfl rfl rfl (by exact g2) (NL_len q) rfl (by omega) rfl rfl (fun _ => ?_) | refine q_mv ?_ | refine q_faddr ?_ | refine q_faddrI ?_ | refine q_load ?_
    | refine q_loadI ?_ | refine q_loadR ?_ | refine q_loadM ?_ | refine q_cmp ?_ | refine q_cmp2 (fun _ => ?_) (fun _ => ?_) | refine q_add ?_ | refine q_store ?_ | refine q_storeR ?_
    | refine q_storeM ?_ | refine q_box ?_ | refine q_at ?_ | refine q_atM ?_ | refine q_atG ?_ | refine q_atR ?_ | refine q_buildS ?_ | refine q_app fun _ => ?_)
   refine ⟨hil, ?_, ?_, rfl, rfl, by show AV.int _ _ = AV.int _ _; congr 1, trivial⟩
   ·rw [hst, NL_snoc]; rfl
   ·rw [hst, List.length_append]; rfl
  ·rw [if_neg h0, List.append_nil] at hst
   have h0' : (b6 : Int) ≠ 0 := by omega
   repeat' (first
    | refine q_s ?_ | refine q_z ?_ | refine q_b ?_ | refine wo_atG rfl rfl (by omega) he2 rfl rfl ?_ | refine q_mv ?_ | refine q_faddr ?_ | refine q_faddrI ?_ | refine q_load ?_
    | refine q_loadI ?_ | refine q_loadR ?_ | refine q_loadM ?_ | refine q_cmp ?_ | refine q_cmp2 (fun _ => ?_) (fun _ => ?_) | refine q_add ?_ | refine q_store ?_ | refine q_storeR ?_
    | refine q_storeM ?_ | refine q_box ?_ | refine q_at ?_ | refine q_atM ?_ | refine q_atG ?_ | refine q_atR ?_ | refine q_buildS ?_ | refine q_app fun _ => ?_)
   exact ⟨hil, by rw [hst]; exact g2, by rw [hst]; rfl, rfl, rfl, by show AV.int _ _ = AV.int _ _; congr 1, trivial⟩
 ·have hin : i = recs.length := by omega
  subst hin
  rw [List.take_length] at g2 ⊢
  repeat' (first
   | refine q_s ?_ | refine q_z ?_ | refine q_b ?_ | refine q_mv ?_ | refine q_faddr ?_ | refine q_faddrI ?_ | refine q_load ?_ | refine q_loadI ?_ | refine q_loadR ?_ | refine q_loadM ?_
   | refine q_cmp ?_ | refine q_cmp2 (fun _ => ?_) (fun _ => ?_) | refine q_add ?_ | refine q_store ?_ | refine q_storeR ?_ | refine q_storeM ?_ | refine q_box ?_ | refine q_at ?_
   | refine q_atM ?_ | refine q_atG ?_ | refine q_atR ?_ | refine q_buildS ?_ | refine q_app fun _ => ?_)
  exact ⟨rfl, g2, rfl⟩
theorem c_List (k : Nat) (hk : 1000200 ≤ k) (f : Bool) (l : List UInt8) (hl : l.length < 1000000) : FnV (CF k) n_snap_List [.islc false f 1 (BL l)] (listAv (lookQ l)) := by
 have hlk := c_LookQ (k - 1) (by omega) f l hl
 refine fnk (by omega) B_snap_List rfl ?_
 unfold snap_List
 cases h : lookQ l with
 | error p =>
  obtain ⟨a, e⟩ := p
  have he := lookQ_err h
  rw [h] at hlk
  unfold lookAv at hlk
  unfold listAv
  simp only at hlk ⊢
  have he0 : (e : Int) ≠ 0 := by omega
  repeat' (first
   | refine q_s ?_ | refine q_z ?_ | refine q_b ?_ | refine q_mv ?_ | refine q_faddr ?_ | refine q_faddrI ?_ | refine q_nilc ?_ | refine q_nilcI ?_ | refine q_load ?_ | refine q_loadI ?_
   | refine q_loadR ?_ | refine q_loadM ?_ | refine q_cmp ?_ | refine q_cmp2 (fun _ => ?_) (fun _ => ?_) | refine q_add ?_ | refine q_len ?_ | refine q_lenS ?_ | refine q_len0 ?_
   | refine q_lenM ?_ | refine q_ex ?_ | refine q_store ?_ | refine q_storeR ?_ | refine q_storeM ?_ | refine q_box ?_ | refine q_at ?_ | refine q_atM ?_ | refine q_atG ?_ | refine q_atR ?_
   | refine q_nilrow ?_ | refine q_buildS ?_ | refine q_app fun _ => ?_ | refine q_callB (hlk) (fun _ => ?_) (fun _ => ?_) | refine q_call (hlk) ?_)
  exact ⟨Or.inr rfl, .tup [.slc 1 1 0 1 0 0 none, .int .i64 e], rfl, rfl⟩
 | ok x =>
  rw [h] at hlk
  obtain ⟨hd, hx⟩ := lookQ_ok hl h
  have hfew := hx.few
  obtain ⟨f1, s1, hr, hs1⟩ := rIvF x.recs
  obtain ⟨f2, s2, hb, hs2⟩ := nodesIvF x.blocks
  unfold lookAv at hlk
  unfold listAv
  simp only at hlk ⊢
  have hlr : (x.recs.map Rec.av).length = x.recs.length := List.length_map _
  unfold Img.cs at hlk
  rw [hr, hb] at hlk
  repeat' (first
   | refine q_s ?_ | refine q_z ?_ | refine q_b ?_ | refine q_nilcI ?_ | refine wo_lenG (n := x.recs.length) rfl hlr rfl rfl ?_ | refine q_mv ?_ | refine q_faddr ?_ | refine q_faddrI ?_
   | refine q_nilc ?_ | refine q_nilcI ?_ | refine q_load ?_ | refine q_loadI ?_ | refine q_loadR ?_ | refine q_loadM ?_ | refine q_cmp ?_ | refine q_cmp2 (fun _ => ?_) (fun _ => ?_)
   | refine q_add ?_ | refine q_len ?_ | refine q_lenS ?_ | refine q_len0 ?_ | refine q_lenM ?_ | refine q_ex ?_ | refine q_store ?_ | refine q_storeR ?_ | refine q_storeM ?_
   | refine q_box ?_ | refine q_at ?_ | refine q_atM ?_ | refine q_atG ?_ | refine q_atR ?_ | refine q_nilrow ?_ | refine q_buildS ?_ | refine q_app fun _ => ?_
   | refine q_callB (hlk) (fun _ => ?_) (fun _ => ?_) | refine q_call (hlk) ?_)
  refine W.mono (list_loop (k := k - 1) (recs := x.recs) (f' := f1) (s' := s1) (by omega) hs1 (by omega) ?_ ?_) ?_
  ·rfl
  ·exact ⟨rfl, rfl, rfl, rfl, trivial⟩
  rintro ex T2 H2 ⟨rfl, g2, h7⟩
  rw [Has.eq (T := T2) (ps := [(7, _)]) ⟨h7, trivial⟩]
  simp only [over]
  show W _ _
  repeat' (first
   | refine q_s ?_ | refine q_z ?_ | refine q_b ?_ | refine q_mv ?_ | refine q_faddr ?_ | refine q_faddrI ?_ | refine q_nilc ?_ | refine q_nilcI ?_ | refine q_load ?_ | refine q_loadI ?_
   | refine q_loadR ?_ | refine q_loadM ?_ | refine q_cmp ?_ | refine q_cmp2 (fun _ => ?_) (fun _ => ?_) | refine q_add ?_ | refine q_len ?_ | refine q_lenS ?_ | refine q_len0 ?_
   | refine q_lenM ?_ | refine q_ex ?_ | refine q_store ?_ | refine q_storeR ?_ | refine q_storeM ?_ | refine q_box ?_ | refine q_at ?_ | refine q_atM ?_ | refine q_atG ?_ | refine q_atR ?_
   | refine q_nilrow ?_ | refine q_buildS ?_ | refine q_app fun _ => ?_)
  exact ⟨Or.inr rfl, .tup [.slc 2 1 (idsP x.recs).length 1 0 (idsP x.recs).length none, .int .i64 0], rfl, congrArg (fun z => AV.tup [z, .int .i64 0]) (fz_ownN (out := true) g2 rfl 3)⟩
end Go.Proofs.Ytkaiiopoilpjeaa
