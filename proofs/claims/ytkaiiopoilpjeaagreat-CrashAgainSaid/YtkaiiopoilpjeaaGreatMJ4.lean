/- Lemmas. -/
import Derived.Test.YtkaiiopoilpjeaaGreatJ19
set_option linter.unusedSimpArgs false
set_option linter.unusedVariables false
set_option maxRecDepth 10000
set_option maxHeartbeats 16000000
namespace Go.Proofs.YtkaiiopoilpjeaaGreat
open Go.AI
def Ff (l : List UInt8) : Except (Nat × Nat) Img := if devB l.length then bM l else .error (0, 2)
theorem Gr {l : List UInt8} {a e : Nat} (h : Ff l = .error (a, e)) : e = 2 ∨ e = 6 ∨ e = 7 ∨ e = 8 := by
 unfold Ff at h
 split at h
 ·exact .inr (Atl h)
 ·cases h; exact .inl rfl
theorem Qx {l : List UInt8} {x : Img} (hl : l.length < 1000000) (h : Ff l = .ok x) : Dev l ∧ x.fit l := by
 unfold Ff at h
 split at h
 ·rename_i hd; exact ⟨⟨hl, hd⟩, fJ ⟨hl, hd⟩ h⟩
 ·cases h
def Ls (r : Rec) : Bool := decide (r.kind = 0)
def idsP (recs : List Rec) : List Nat := (recs.filter Ls).map Rec.id
def idOk (id : Int) : Prop := 1 ≤ id ∧ id ≤ 4611686018427387903
instance (id : Int) : Decidable (idOk id) := by unfold idOk; infer_instance
def Nj (recs : List Rec) (id : Int) : Nat :=
 if ¬ idOk id then 1 else if (sE recs).isSome = true then 18 else if (recs.any fun r => decide ((r.id : Int) = id)) = true then 10 else if 60 ≤ recs.length then 2 else 0
def Ng : List Rec → Nat
 | r :: _ => r.id
 | [] => 0
def Qp (x : Img) (id : Int) : Rec := ⟨0, id.toNat, Ng x.recs, x.sup.root, x.sup.size, 0, 0, 0⟩
def Gx (l : List UInt8) (id : Int) : Except Nat (List IoV) := match Ff l with
 | .error (_, e) => .error e
 | .ok x => if Nj x.recs id ≠ 0 then .error (Nj x.recs id) else Mz l x 0 (Qp x id) true
def fR (l : List UInt8) (id : Int) : Except Nat (List IoV) := match Ff l with
 | .error (_, e) => .error e
 | .ok x => if ¬ idOk id then .error 1 else if Kx x.recs id < 0 then .error 11
  else if (match sE x.recs with | some r => decide ((r.parent : Int) = id) | none => false) = true then .error 18
  else Mz l x ((Kx x.recs id).toNat + 1) rec0 false
def Ti (l : List UInt8) (id : Int) : Except Nat (List IoV × Nat) := match Ff l with
 | .error (_, e) => .error e
 | .ok x => if ¬ idOk id then .error 1 else if Kx x.recs id < 0 then .error 11
  else .ok (if x.sup.gen < 1099511627776 then (Em x.sup x.slot [] (x.recs.getD (Kx x.recs id).toNat default).root (x.recs.getD (Kx x.recs id).toNat default).size x.sup.first, 0) else ([], 8))
def Afe : Except Nat (List IoV × Nat) → AV
 | .ok (ios, e) => .tup [.islc false false 3 (ios.map IoV.av), .int .i64 e]
 | .error e => .tup [.islc false true 0 [], .int .i64 e]
theorem Acs {l : List UInt8} {x : Img} {id : Int} (hd : Dev l) (hx : x.fit l) (h : Nj x.recs id = 0) : ({ Qp x id with next := 0 } : Rec).ok := by
 unfold Nj at h
 by_cases h1 : idOk id
 ·rw [if_neg (fun hh => hh h1)] at h
  split at h
  ·omega
  split at h
  ·omega
  rename_i h3
  obtain ⟨hi1, hi2⟩ := h1
  have hs := hx.sup
  have hb := hx.blocks
  have hnb := hd.nb
  refine ⟨.inl rfl, ?_, ⟨⟨by show 1 ≤ id.toNat; omega, by show id.toNat ≤ _; omega⟩, ?_, ?_⟩, hs.2.2.1, .inl ⟨rfl, rfl, rfl⟩⟩
  ·show x.sup.root = 0 ∨ 2 ≤ x.sup.root ∧ x.sup.root < 4096
   have := hs.2.2.2.1; omega
  ·show Ng x.recs ≠ id.toNat
   intro he
   cases hr : x.recs with
   | nil => rw [hr] at he; simp only [Ng] at he; omega
   | cons r rs =>
    rw [hr] at he h3
    simp only [Ng] at he
    exact h3 (Fe.2 ⟨r, Dd .., Aq (by omega)⟩)
  ·show Ng x.recs ≤ 4611686018427387903
   cases hr : x.recs with
   | nil => simp [Ng]
   | cons r rs =>
    have := (hx.recs r (by rw [hr]; exact Dd ..)).2.2.1
    simp only [Ng]
    unfold qX at this
    omega
 ·rw [if_pos h1] at h; omega
attribute [local irreducible] aops Bo Cn Dh aop W WO
theorem Uj (k : Nat) (hk : 1000070 ≤ k) (f : Bool) (l : List UInt8) (hl : l.length < 1000000) : FnV (CF k) Wm [.islc false f 1 (BL l)] (Nb f l (Ff l)) := by
 unfold Ff
 by_cases hd : devB l.length
 ·rw [if_pos hd]; exact Bcl k hk f l ⟨hl, hd⟩
 ·rw [if_neg hd]; exact Ati k hk false f 1 l hl hd
theorem Bas (k : Nat) (hk : 1 ≤ k) (a : Int) : FnV (CF k) dE [.int .i64 a] (.int .i64 (if idOk a then 0 else 1)) := by
 obtain ⟨j, rfl⟩ : ∃ j, k = j + 1 := ⟨k - 1, by omega⟩
 exact Th j a
theorem Amz (k : Nat) (hk : 1 ≤ k) (x : Rec) (id : Int) : FnV (CF k) Ph [x.av, .iptr true [.int .i64 id]] (.bool (decide ((x.id : Int) = id))) := by
 obtain ⟨a1, a2, a3, a4, a5, a6, a7, a8⟩ := x
 refine fnk (by omega) sQ rfl ?_
 unfold Xo Rec.av
 simp only
 repeat' (first | refine qQb ?_ | refine Ac (fun _ => ?_) (fun _ => ?_))
 all_goals
  refine ⟨Or.inr rfl, _, rfl, ?_⟩
  simp only [cmpP] at *
  show AV.bool _ = AV.bool _
  congr 1
  first
   | exact (Aq (by omega)).symm
   | exact (Ay (by omega)).symm
theorem Awr (k : Nat) (hk : 1000030 ≤ k) (f : Bool) (s : Nat) (recs : List Rec) (g b r z fi slot : Nat) (id : Int) (hs : s = 8 ∨ recs = []) (hl : recs.length < 1000000) : FnV (CF k) gI [.agg [.int .i64 g, .int .i64 b, .int .i64 r, .int .i64 z, .int .i64 fi, .int .i64 slot, .islc false f s (recs.map Rec.av)], .int .i64 id] (.int .i64 (Nj recs id)) := by
 have hp := Abu (k - 1) (by omega) false f s recs (.int .i64 g) (.int .i64 b) (.int .i64 r) (.int .i64 z) (.int .i64 fi) (.int .i64 slot) hs
 have hi := Bas (k - 1) (by omega) id
 have hlr : (recs.map Rec.av).length = recs.length := Ag _
 have hcf : FnV (CF (k - 1)) Cq [.islc false f s (recs.map Rec.av), .fn Ph [.iptr true [.int .i64 id]]] (.bool (recs.any fun r => decide ((r.id : Int) = id))) := by
  by_cases hn : recs = []
  ·subst hn
   exact Sm (k - 1) (by omega) false f s _ _ (fun _ => rfl)
  ·obtain rfl : s = 8 := hs.resolve_right hn
   exact Tw (k - 1) (by omega) false f recs Ph [.iptr true [.int .i64 id]] (fun r => decide ((r.id : Int) = id)) hl (fun _ => rfl) (fun _ _ => rfl) (fun i hi => Amz (k - 3) (by omega) _ id)
 obtain ⟨pr, pb, hpv, hpb⟩ : ∃ (pr : Rec) (pb : Bool), Awi (sE recs) = .tup [pr.av, .bool pb] ∧ (sE recs).isSome = pb := by
  cases sE recs with
  | none => exact ⟨rec0, false, rfl, rfl⟩
  | some r => exact ⟨r, true, rfl, rfl⟩
 rw [hpv] at hp
 obtain ⟨b1, b2, b3, b4, b5, b6, b7, b8⟩ := pr
 unfold Rec.av at hp
 simp only at hp
 obtain ⟨an, han⟩ : ∃ b, b = (recs.any fun r => decide ((r.id : Int) = id)) := ⟨_, rfl⟩
 rw [← han] at hcf
 unfold Nj
 rw [hpb, ← han]
 refine fnk (by omega) Aah rfl ?_
 unfold dU
 by_cases h1 : idOk id
 ·rw [if_pos h1] at hi
  rw [if_neg (fun hh => hh h1)]
  cases pb with
  | true =>
   repeat' (first | refine Am (hp) (fun _ => ?_) (fun _ => ?_) | refine Aa (hp) ?_ | refine Am (hi) (fun _ => ?_) (fun _ => ?_) | refine Aa (hi) ?_ | refine qQb ?_ | refine Ac (fun _ => ?_) (fun _ => ?_))
   exact ⟨Or.inr rfl, _, rfl, rfl⟩
  | false =>
   rw [if_neg (by decide)]
   cases an with
   | true =>
    repeat' (first
     | refine qS ?_ | refine Aa hcf ?_ | refine Am (hp) (fun _ => ?_) (fun _ => ?_) | refine Aa (hp) ?_ | refine Am (hi) (fun _ => ?_) (fun _ => ?_)
     | refine Aa (hi) ?_ | refine qQb ?_ | refine Ac (fun _ => ?_) (fun _ => ?_))
    exact ⟨Or.inr rfl, _, rfl, rfl⟩
   | false =>
    rw [if_neg (by decide)]
    by_cases h60 : 60 ≤ recs.length
    ·rw [if_pos h60]
     repeat' (first
      | refine qS ?_ | refine Aa hcf ?_ | refine Ak (n := recs.length) rfl hlr rfl rfl ?_ | refine Am (hp) (fun _ => ?_) (fun _ => ?_) | refine Aa (hp) ?_
      | refine Am (hi) (fun _ => ?_) (fun _ => ?_) | refine Aa (hi) ?_ | refine qQb ?_ | refine Ac (fun _ => ?_) (fun _ => ?_))
     exact ⟨Or.inr rfl, _, rfl, rfl⟩
    ·rw [if_neg h60]
     repeat' (first
      | refine qS ?_ | refine Aa hcf ?_ | refine Ak (n := recs.length) rfl hlr rfl rfl ?_ | refine Am (hp) (fun _ => ?_) (fun _ => ?_) | refine Aa (hp) ?_
      | refine Am (hi) (fun _ => ?_) (fun _ => ?_) | refine Aa (hi) ?_ | refine qQb ?_ | refine Ac (fun _ => ?_) (fun _ => ?_))
     exact ⟨Or.inr rfl, _, rfl, rfl⟩
 ·rw [if_neg h1] at hi
  rw [if_pos h1]
  repeat' (first | refine Am (hp) (fun _ => ?_) (fun _ => ?_) | refine Aa (hp) ?_ | refine Am (hi) (fun _ => ?_) (fun _ => ?_) | refine Aa (hi) ?_ | refine qQb ?_ | refine Ac (fun _ => ?_) (fun _ => ?_))
  exact ⟨Or.inr rfl, _, rfl, rfl⟩
theorem Alo {recs : List Rec} {id : Int} (h : Nj recs id = 0) : idOk id := by
 unfold Nj at h
 by_cases h1 : idOk id
 ·exact h1
 ·rw [if_pos h1] at h; omega
theorem Mu (y : Except Nat (List IoV)) : ∃ (uf : Bool) (us : Nat) (ues : List AV) (e : Nat), Ma y = .tup [.islc false uf us ues, .int .i64 e] := by
 cases y with
 | error e => exact ⟨true, 0, [], e, rfl⟩
 | ok ios => exact ⟨false, 3, ios.map IoV.av, 0, rfl⟩
theorem Ym (k : Nat) (hk : 1000200 ≤ k) (f : Bool) (l : List UInt8) (hl : l.length < 1000000) (id : Int) : FnV (CF k) Pb [.islc false f 1 (BL l), .int .i64 id] (Ma (Gx l id)) := by
 have hlk := Uj (k - 1) (by omega) f l hl
 refine fnk (by omega) Aaq rfl ?_
 unfold dG Gx
 cases h : Ff l with
 | error p =>
  obtain ⟨a, e⟩ := p
  have he := Gr h
  rw [h] at hlk
  unfold Nb at hlk
  simp only at hlk ⊢
  have he0 : (e : Int) ≠ 0 := by omega
  repeat' (first | refine Am (hlk) (fun _ => ?_) (fun _ => ?_) | refine Aa (hlk) ?_ | refine qQb ?_ | refine Ac (fun _ => ?_) (fun _ => ?_))
  exact ⟨Or.inr rfl, _, rfl, rfl⟩
 | ok x =>
  rw [h] at hlk
  obtain ⟨hd, hx⟩ := Qx hl h
  have hfew := hx.few
  obtain ⟨f1, s1, hr, hs1⟩ := rIvF x.recs
  obtain ⟨f2, s2, hb, hs2⟩ := Iq x.blocks
  unfold Nb at hlk
  simp only at hlk ⊢
  have hcr := Awr (k - 1) (by omega) f1 s1 x.recs x.sup.gen x.sup.blocks x.sup.root x.sup.size x.sup.first x.slot id hs1 (by omega)
  have hlr : (x.recs.map Rec.av).length = x.recs.length := Ag _
  by_cases hc : Nj x.recs id = 0
  ·rw [if_neg (by omega)]
   rw [hc] at hcr
   have hmk := Aog (k - 1) (by omega) f l hd x hx 0 (Qp x id) true (Eo _) (fun _ => Acs hd hx hc)
   have hid := Alo hc
   obtain ⟨uf, us, ues, ue, hut⟩ := Mu (Mz l x 0 (Qp x id) true)
   rw [hut] at hmk ⊢
   obtain ⟨i, hi⟩ : ∃ i : Nat, i = id.toNat := ⟨_, rfl⟩
   have hii : id = i := by have := hid.1; omega
   unfold Qp Rec.av at hmk
   simp only at hmk
   rw [← hi] at hmk
   subst hii
   unfold Img.cs at hlk hmk
   rw [hr, hb] at hlk hmk
   obtain ⟨⟨g, b, r, z, fi⟩, slot, recs, blocks, trees⟩ := x
   simp only at hlk hcr hmk hs1 hlr
   cases recs with
   | nil =>
    simp only [Ng] at hmk
    repeat' (first
     | refine qS ?_ | refine De ?_ | refine Ak (n := 0) rfl rfl rfl rfl ?_ | refine Fp ?_ (hl := by kernel_rfl) | refine Am (hlk) (fun _ => ?_) (fun _ => ?_)
     | refine Aa (hlk) ?_ | refine Am (hcr) (fun _ => ?_) (fun _ => ?_) | refine Aa (hcr) ?_ | refine Am (hmk) (fun _ => ?_) (fun _ => ?_) | refine Aa (hmk) ?_
     | refine qQb ?_ | refine Ac (fun _ => ?_) (fun _ => ?_))
    exact ⟨Or.inr rfl, _, rfl, rfl⟩
   | cons r0 rs =>
    obtain ⟨c1, c2, c3, c4, c5, c6, c7, c8⟩ := r0
    obtain rfl : s1 = 8 := hs1.resolve_right (by simp)
    simp only [Ng] at hmk
    have hln : ((⟨c1, c2, c3, c4, c5, c6, c7, c8⟩ :: rs : List Rec).map Rec.av).length = rs.length + 1 := by simp
    have hea : ((⟨c1, c2, c3, c4, c5, c6, c7, c8⟩ :: rs : List Rec).map Rec.av)[(0 : Int).toNat]? = some (.agg [.int .i64 c1, .int .i64 c2, .int .i64 c3, .int .i64 c4, .int .i64 c5, .int .i64 c6, .int .i64 c7, .int .i64 c8]) := rfl
    repeat' (first
     | refine qS ?_ | refine De ?_ | refine Ak (n := rs.length + 1) rfl hln rfl rfl ?_ | refine Ce rfl rfl (by omega) hea rfl rfl ?_ | refine Wb ?_
     | refine Fp ?_ (hl := by kernel_rfl) | refine Am (hlk) (fun _ => ?_) (fun _ => ?_) | refine Aa (hlk) ?_ | refine Am (hcr) (fun _ => ?_) (fun _ => ?_)
     | refine Aa (hcr) ?_ | refine Am (hmk) (fun _ => ?_) (fun _ => ?_) | refine Aa (hmk) ?_ | refine qQb ?_ | refine Ac (fun _ => ?_) (fun _ => ?_))
    exact ⟨Or.inr rfl, _, rfl, rfl⟩
  ·rw [if_pos hc]
   unfold Img.cs at hlk
   rw [hr, hb] at hlk
   obtain ⟨⟨g, b, r, z, fi⟩, slot, recs, blocks, trees⟩ := x
   simp only at hlk hcr hc ⊢
   obtain ⟨ce, hce⟩ : ∃ e, e = Nj recs id := ⟨_, rfl⟩
   rw [← hce] at hcr hc ⊢
   have hc' : (ce : Int) ≠ 0 := by omega
   repeat' (first
    | refine qS ?_ | refine De ?_ | refine Am (hlk) (fun _ => ?_) (fun _ => ?_) | refine Aa (hlk) ?_ | refine Am (hcr) (fun _ => ?_) (fun _ => ?_)
    | refine Aa (hcr) ?_ | refine qQb ?_ | refine Ac (fun _ => ?_) (fun _ => ?_))
   exact ⟨Or.inr rfl, _, rfl, rfl⟩
end Go.Proofs.YtkaiiopoilpjeaaGreat
