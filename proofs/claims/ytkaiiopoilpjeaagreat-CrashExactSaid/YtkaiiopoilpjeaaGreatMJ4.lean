/- Lemmas. -/
import Derived.Test.YtkaiiopoilpjeaaGreatJ19
set_option linter.unusedSimpArgs false
set_option linter.unusedVariables false
set_option maxRecDepth 10000
set_option maxHeartbeats 16000000
namespace Go.Proofs.YtkaiiopoilpjeaaGreat
open Go.AI
def pB (l : List UInt8) : Except (Nat × Nat) Img := if devB l.length then Yp l else .error (0, 2)
theorem Nb {l : List UInt8} {a e : Nat} (h : pB l = .error (a, e)) : e = 2 ∨ e = 6 ∨ e = 7 ∨ e = 8 := by
 unfold pB at h
 split at h
 ·exact .inr (Ana h)
 ·cases h; exact .inl rfl
theorem Oa {l : List UInt8} {x : Img} (hl : l.length < 1000000) (h : pB l = .ok x) : Dev l ∧ x.fit l := by
 unfold pB at h
 split at h
 ·rename_i hd; exact ⟨⟨hl, hd⟩, cB ⟨hl, hd⟩ h⟩
 ·cases h
def Ks (r : Rec) : Bool := decide (r.kind = 0)
def idsP (recs : List Rec) : List Nat := (recs.filter Ks).map Rec.id
def idOk (id : Int) : Prop := 1 ≤ id ∧ id ≤ 4611686018427387903
instance (id : Int) : Decidable (idOk id) := by unfold idOk; infer_instance
def Ayw (recs : List Rec) (id : Int) : Nat :=
 if ¬ idOk id then 1 else if (Yk recs).isSome = true then 18 else if (recs.any fun r => decide ((r.id : Int) = id)) = true then 10 else if 60 ≤ recs.length then 2 else 0
def Ri : List Rec → Nat
 | r :: _ => r.id
 | [] => 0
def Mf (x : Img) (id : Int) : Rec := ⟨0, id.toNat, Ri x.recs, x.sup.root, x.sup.size, 0, 0, 0⟩
def Jy (l : List UInt8) (id : Int) : Except Nat (List IoV) := match pB l with
 | .error (_, e) => .error e
 | .ok x => if Ayw x.recs id ≠ 0 then .error (Ayw x.recs id) else Ls l x 0 (Mf x id) true
def Kv (l : List UInt8) (id : Int) : Except Nat (List IoV) := match pB l with
 | .error (_, e) => .error e
 | .ok x => if ¬ idOk id then .error 1 else if Jf x.recs id < 0 then .error 11
  else if (match Yk x.recs with | some r => decide ((r.parent : Int) = id) | none => false) = true then .error 18
  else Ls l x ((Jf x.recs id).toNat + 1) rec0 false
def mO (l : List UInt8) (id : Int) : Except Nat (List IoV × Nat) := match pB l with
 | .error (_, e) => .error e
 | .ok x => if ¬ idOk id then .error 1 else if Jf x.recs id < 0 then .error 11
  else .ok (if x.sup.gen < 1099511627776 then (Ft x.sup x.slot [] (x.recs.getD (Jf x.recs id).toNat default).root (x.recs.getD (Jf x.recs id).toNat default).size x.sup.first, 0) else ([], 8))
theorem vR {l : List UInt8} {x : Img} {id : Int} (hd : Dev l) (hx : x.fit l) (h : Ayw x.recs id = 0) : ({ Mf x id with next := 0 } : Rec).ok := by
 unfold Ayw at h
 by_cases h1 : idOk id
 ·rw [if_neg (fun hh => hh h1)] at h
  split at h
  ·omega
  split at h
  ·omega
  rename_i h3
  obtain ⟨hi1, hi2⟩ := h1
  have hs := hx.sup
  have hb := hx.blocks
  have hnb := hd.nb
  refine ⟨.inl rfl, ?_, ⟨⟨by show 1 ≤ id.toNat; omega, by show id.toNat ≤ _; omega⟩, ?_, ?_⟩, hs.2.2.1, .inl ⟨rfl, rfl, rfl⟩⟩
  ·show x.sup.root = 0 ∨ 2 ≤ x.sup.root ∧ x.sup.root < 4096
   have := hs.2.2.2.1; omega
  ·show Ri x.recs ≠ id.toNat
   intro he
   cases hr : x.recs with
   | nil => rw [hr] at he; simp only [Ri] at he; omega
   | cons r rs =>
    rw [hr] at he h3
    simp only [Ri] at he
    exact h3 (Fm.2 ⟨r, Ct .., As (by omega)⟩)
  ·show Ri x.recs ≤ 4611686018427387903
   cases hr : x.recs with
   | nil => simp [Ri]
   | cons r rs =>
    have := (hx.recs r (by rw [hr]; exact Ct ..)).2.2.1
    simp only [Ri]
    unfold mB at this
    omega
 ·rw [if_pos h1] at h; omega
attribute [local irreducible] aops Br Cp Dp aop W WO
theorem Ui (k : Nat) (hk : 1000070 ≤ k) (f : Bool) (l : List UInt8) (hl : l.length < 1000000) : FnV (CF k) Uk [.islc false f 1 (BL l)] (Nn f l (pB l)) := by
 unfold pB
 by_cases hd : devB l.length
 ·rw [if_pos hd]; exact Awn k hk f l ⟨hl, hd⟩
 ·rw [if_neg hd]; exact Amp k hk false f 1 l hl hd
theorem Auu (k : Nat) (hk : 1 ≤ k) (a : Int) : FnV (CF k) Zt [.int .i64 a] (.int .i64 (if idOk a then 0 else 1)) := by
 obtain ⟨j, rfl⟩ : ∃ j, k = j + 1 := ⟨k - 1, by omega⟩
 exact Rr j a
theorem Ahk (k : Nat) (hk : 1 ≤ k) (x : Rec) (id : Int) : FnV (CF k) Oc [x.av, .iptr true [.int .i64 id]] (.bool (decide ((x.id : Int) = id))) := by
 obtain ⟨a1, a2, a3, a4, a5, a6, a7, a8⟩ := x
 refine fnk (by omega) nK rfl ?_
 unfold Uy Rec.av
 simp only
 repeat' (first | refine qQb ?_ | refine Ac (fun _ => ?_) (fun _ => ?_))
 all_goals
  refine ⟨Or.inr rfl, _, rfl, ?_⟩
  simp only [cmpP] at *
  show AV.bool _ = AV.bool _
  congr 1
  first
   | exact (As (by omega)).symm
   | exact (Bb (by omega)).symm
theorem Anq (k : Nat) (hk : 1000030 ≤ k) (f : Bool) (s : Nat) (recs : List Rec) (g b r z fi slot : Nat) (id : Int) (hs : s = 8 ∨ recs = []) (hl : recs.length < 1000000) : FnV (CF k) dF [.agg [.int .i64 g, .int .i64 b, .int .i64 r, .int .i64 z, .int .i64 fi, .int .i64 slot, .islc false f s (recs.map Rec.av)], .int .i64 id] (.int .i64 (Ayw recs id)) := by
 have hp := wX (k - 1) (by omega) false f s recs (.int .i64 g) (.int .i64 b) (.int .i64 r) (.int .i64 z) (.int .i64 fi) (.int .i64 slot) hs
 have hi := Auu (k - 1) (by omega) id
 have hlr : (recs.map Rec.av).length = recs.length := Ah _
 have hcf : FnV (CF (k - 1)) Ck [.islc false f s (recs.map Rec.av), .fn Oc [.iptr true [.int .i64 id]]] (.bool (recs.any fun r => decide ((r.id : Int) = id))) := by
  by_cases hn : recs = []
  ·subst hn
   exact Qp (k - 1) (by omega) false f s _ _ (fun _ => rfl)
  ·obtain rfl : s = 8 := hs.resolve_right hn
   exact Sg (k - 1) (by omega) false f recs Oc [.iptr true [.int .i64 id]] (fun r => decide ((r.id : Int) = id)) hl (fun _ => rfl) (fun _ _ => rfl) (fun i hi => Ahk (k - 3) (by omega) _ id)
 obtain ⟨pr, pb, hpv, hpb⟩ : ∃ (pr : Rec) (pb : Bool), Arh (Yk recs) = .tup [pr.av, .bool pb] ∧ (Yk recs).isSome = pb := by
  cases Yk recs with
  | none => exact ⟨rec0, false, rfl, rfl⟩
  | some r => exact ⟨r, true, rfl, rfl⟩
 rw [hpv] at hp
 obtain ⟨b1, b2, b3, b4, b5, b6, b7, b8⟩ := pr
 unfold Rec.av at hp
 simp only at hp
 obtain ⟨an, han⟩ : ∃ b, b = (recs.any fun r => decide ((r.id : Int) = id)) := ⟨_, rfl⟩
 rw [← han] at hcf
 unfold Ayw
 rw [hpb, ← han]
 refine fnk (by omega) uN rfl ?_
 unfold aL
 by_cases h1 : idOk id
 ·rw [if_pos h1] at hi
  rw [if_neg (fun hh => hh h1)]
  cases pb with
  | true =>
   repeat' (first | refine Al (hp) (fun _ => ?_) (fun _ => ?_) | refine Ae (hp) ?_ | refine Al (hi) (fun _ => ?_) (fun _ => ?_) | refine Ae (hi) ?_ | refine qQb ?_ | refine Ac (fun _ => ?_) (fun _ => ?_))
   exact ⟨Or.inr rfl, _, rfl, rfl⟩
  | false =>
   rw [if_neg (by decide)]
   cases an with
   | true =>
    repeat' (first
     | refine qS ?_ | refine Ae hcf ?_ | refine Al (hp) (fun _ => ?_) (fun _ => ?_) | refine Ae (hp) ?_ | refine Al (hi) (fun _ => ?_) (fun _ => ?_)
     | refine Ae (hi) ?_ | refine qQb ?_ | refine Ac (fun _ => ?_) (fun _ => ?_))
    exact ⟨Or.inr rfl, _, rfl, rfl⟩
   | false =>
    rw [if_neg (by decide)]
    by_cases h60 : 60 ≤ recs.length
    ·rw [if_pos h60]
     repeat' (first
      | refine qS ?_ | refine Ae hcf ?_ | refine Bh (n := recs.length) rfl hlr rfl rfl ?_ | refine Al (hp) (fun _ => ?_) (fun _ => ?_) | refine Ae (hp) ?_
      | refine Al (hi) (fun _ => ?_) (fun _ => ?_) | refine Ae (hi) ?_ | refine qQb ?_ | refine Ac (fun _ => ?_) (fun _ => ?_))
     exact ⟨Or.inr rfl, _, rfl, rfl⟩
    ·rw [if_neg h60]
     repeat' (first
      | refine qS ?_ | refine Ae hcf ?_ | refine Bh (n := recs.length) rfl hlr rfl rfl ?_ | refine Al (hp) (fun _ => ?_) (fun _ => ?_) | refine Ae (hp) ?_
      | refine Al (hi) (fun _ => ?_) (fun _ => ?_) | refine Ae (hi) ?_ | refine qQb ?_ | refine Ac (fun _ => ?_) (fun _ => ?_))
     exact ⟨Or.inr rfl, _, rfl, rfl⟩
 ·rw [if_neg h1] at hi
  rw [if_pos h1]
  repeat' (first | refine Al (hp) (fun _ => ?_) (fun _ => ?_) | refine Ae (hp) ?_ | refine Al (hi) (fun _ => ?_) (fun _ => ?_) | refine Ae (hi) ?_ | refine qQb ?_ | refine Ac (fun _ => ?_) (fun _ => ?_))
  exact ⟨Or.inr rfl, _, rfl, rfl⟩
theorem Ahf {recs : List Rec} {id : Int} (h : Ayw recs id = 0) : idOk id := by
 unfold Ayw at h
 by_cases h1 : idOk id
 ·exact h1
 ·rw [if_pos h1] at h; omega
theorem bQ (y : Except Nat (List IoV)) : ∃ (uf : Bool) (us : Nat) (ues : List AV) (e : Nat), dG y = .tup [.islc false uf us ues, .int .i64 e] := by
 cases y with
 | error e => exact ⟨true, 0, [], e, rfl⟩
 | ok ios => exact ⟨false, 3, ios.map IoV.av, 0, rfl⟩
theorem sV (k : Nat) (hk : 1000200 ≤ k) (f : Bool) (l : List UInt8) (hl : l.length < 1000000) (id : Int) : FnV (CF k) Rl [.islc false f 1 (BL l), .int .i64 id] (dG (Jy l id)) := by
 have hlk := Ui (k - 1) (by omega) f l hl
 refine fnk (by omega) uE rfl ?_
 unfold aW Jy
 cases h : pB l with
 | error p =>
  obtain ⟨a, e⟩ := p
  have he := Nb h
  rw [h] at hlk
  unfold Nn at hlk
  simp only at hlk ⊢
  have he0 : (e : Int) ≠ 0 := by omega
  repeat' (first | refine Al (hlk) (fun _ => ?_) (fun _ => ?_) | refine Ae (hlk) ?_ | refine qQb ?_ | refine Ac (fun _ => ?_) (fun _ => ?_))
  exact ⟨Or.inr rfl, _, rfl, rfl⟩
 | ok x =>
  rw [h] at hlk
  obtain ⟨hd, hx⟩ := Oa hl h
  have hfew := hx.few
  obtain ⟨f1, s1, hr, hs1⟩ := rIvF x.recs
  obtain ⟨f2, s2, hb, hs2⟩ := Iv x.blocks
  unfold Nn at hlk
  simp only at hlk ⊢
  have hcr := Anq (k - 1) (by omega) f1 s1 x.recs x.sup.gen x.sup.blocks x.sup.root x.sup.size x.sup.first x.slot id hs1 (by omega)
  have hlr : (x.recs.map Rec.av).length = x.recs.length := Ah _
  by_cases hc : Ayw x.recs id = 0
  ·rw [if_neg (by omega)]
   rw [hc] at hcr
   have hmk := Aiy (k - 1) (by omega) f l hd x hx 0 (Mf x id) true (Ep _) (fun _ => vR hd hx hc)
   have hid := Ahf hc
   obtain ⟨uf, us, ues, ue, hut⟩ := bQ (Ls l x 0 (Mf x id) true)
   rw [hut] at hmk ⊢
   obtain ⟨i, hi⟩ : ∃ i : Nat, i = id.toNat := ⟨_, rfl⟩
   have hii : id = i := by have := hid.1; omega
   unfold Mf Rec.av at hmk
   simp only at hmk
   rw [← hi] at hmk
   subst hii
   unfold Img.cs at hlk hmk
   rw [hr, hb] at hlk hmk
   obtain ⟨⟨g, b, r, z, fi⟩, slot, recs, blocks, trees⟩ := x
   simp only at hlk hcr hmk hs1 hlr
   cases recs with
   | nil =>
    simp only [Ri] at hmk
    repeat' (first
     | refine qS ?_ | refine Dc ?_ | refine Bh (n := 0) rfl rfl rfl rfl ?_ | refine Iw ?_ (hl := by kernel_rfl) | refine Al (hlk) (fun _ => ?_) (fun _ => ?_)
     | refine Ae (hlk) ?_ | refine Al (hcr) (fun _ => ?_) (fun _ => ?_) | refine Ae (hcr) ?_ | refine Al (hmk) (fun _ => ?_) (fun _ => ?_) | refine Ae (hmk) ?_
     | refine qQb ?_ | refine Ac (fun _ => ?_) (fun _ => ?_))
    exact ⟨Or.inr rfl, _, rfl, rfl⟩
   | cons r0 rs =>
    obtain ⟨c1, c2, c3, c4, c5, c6, c7, c8⟩ := r0
    obtain rfl : s1 = 8 := hs1.resolve_right (by simp)
    simp only [Ri] at hmk
    have hln : ((⟨c1, c2, c3, c4, c5, c6, c7, c8⟩ :: rs : List Rec).map Rec.av).length = rs.length + 1 := by simp
    have hea : ((⟨c1, c2, c3, c4, c5, c6, c7, c8⟩ :: rs : List Rec).map Rec.av)[(0 : Int).toNat]? = some (.agg [.int .i64 c1, .int .i64 c2, .int .i64 c3, .int .i64 c4, .int .i64 c5, .int .i64 c6, .int .i64 c7, .int .i64 c8]) := rfl
    repeat' (first
     | refine qS ?_ | refine Dc ?_ | refine Bh (n := rs.length + 1) rfl hln rfl rfl ?_ | refine Da rfl rfl (by omega) hea rfl rfl ?_ | refine Vx ?_
     | refine Iw ?_ (hl := by kernel_rfl) | refine Al (hlk) (fun _ => ?_) (fun _ => ?_) | refine Ae (hlk) ?_ | refine Al (hcr) (fun _ => ?_) (fun _ => ?_)
     | refine Ae (hcr) ?_ | refine Al (hmk) (fun _ => ?_) (fun _ => ?_) | refine Ae (hmk) ?_ | refine qQb ?_ | refine Ac (fun _ => ?_) (fun _ => ?_))
    exact ⟨Or.inr rfl, _, rfl, rfl⟩
  ·rw [if_pos hc]
   unfold Img.cs at hlk
   rw [hr, hb] at hlk
   obtain ⟨⟨g, b, r, z, fi⟩, slot, recs, blocks, trees⟩ := x
   simp only at hlk hcr hc ⊢
   obtain ⟨ce, hce⟩ : ∃ e, e = Ayw recs id := ⟨_, rfl⟩
   rw [← hce] at hcr hc ⊢
   have hc' : (ce : Int) ≠ 0 := by omega
   repeat' (first
    | refine qS ?_ | refine Dc ?_ | refine Al (hlk) (fun _ => ?_) (fun _ => ?_) | refine Ae (hlk) ?_ | refine Al (hcr) (fun _ => ?_) (fun _ => ?_)
    | refine Ae (hcr) ?_ | refine qQb ?_ | refine Ac (fun _ => ?_) (fun _ => ?_))
   exact ⟨Or.inr rfl, _, rfl, rfl⟩
end Go.Proofs.YtkaiiopoilpjeaaGreat
