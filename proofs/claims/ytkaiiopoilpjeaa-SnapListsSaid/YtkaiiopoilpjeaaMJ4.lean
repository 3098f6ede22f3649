/- Lemmas. -/
import Derived.Test.YtkaiiopoilpjeaaJ19
set_option linter.unusedSimpArgs false
set_option linter.unusedVariables false
set_option maxRecDepth 10000
set_option maxHeartbeats 16000000
namespace Go.Proofs.Ytkaiiopoilpjeaa
open Go.AI
def lookQ (l : List UInt8) : Except (Nat × Nat) Img := if devB l.length then Wj l else .error (0, 2)
theorem Oo {l : List UInt8} {a e : Nat} (h : lookQ l = .error (a, e)) : e = 2 ∨ e = 6 ∨ e = 7 ∨ e = 8 := by
 unfold lookQ at h
 split at h
 ·exact .inr (yM h)
 ·cases h; exact .inl rfl
theorem Oz {l : List UInt8} {x : Img} (hl : l.length < 1000000) (h : lookQ l = .ok x) : Dev l ∧ x.fit l := by
 unfold lookQ at h
 split at h
 ·rename_i hd; exact ⟨⟨hl, hd⟩, lB ⟨hl, hd⟩ h⟩
 ·cases h
def Hl (r : Rec) : Bool := decide (r.kind = 0)
def idsP (recs : List Rec) : List Nat := (recs.filter Hl).map Rec.id
def idOk (id : Int) : Prop := 1 ≤ id ∧ id ≤ 4611686018427387903
instance (id : Int) : Decidable (idOk id) := by unfold idOk; infer_instance
def createE (recs : List Rec) (id : Int) : Nat :=
 if ¬ idOk id then 1 else if (We recs).isSome = true then 18 else if (recs.any fun r => decide ((r.id : Int) = id)) = true then 10 else if 60 ≤ recs.length then 2 else 0
def Kn : List Rec → Nat
 | r :: _ => r.id
 | [] => 0
def Kq (x : Img) (id : Int) : Rec := ⟨0, id.toNat, Kn x.recs, x.sup.root, x.sup.size, 0, 0, 0⟩
def Gw (l : List UInt8) (id : Int) : Except Nat (List IoV) := match lookQ l with
 | .error (_, e) => .error e
 | .ok x => if createE x.recs id ≠ 0 then .error (createE x.recs id) else Iq l x 0 (Kq x id) true
def Jt (l : List UInt8) (id : Int) : Except Nat (List IoV) := match lookQ l with
 | .error (_, e) => .error e
 | .ok x => if ¬ idOk id then .error 1 else if He x.recs id < 0 then .error 11
  else if (match We x.recs with | some r => decide ((r.parent : Int) = id) | none => false) = true then .error 18
  else Iq l x ((He x.recs id).toNat + 1) rec0 false
def cY (l : List UInt8) (id : Int) : Except Nat (List IoV × Nat) := match lookQ l with
 | .error (_, e) => .error e
 | .ok x => if ¬ idOk id then .error 1 else if He x.recs id < 0 then .error 11
  else .ok (if x.sup.gen < 1099511627776 then (Ez x.sup x.slot [] (x.recs.getD (He x.recs id).toNat default).root (x.recs.getD (He x.recs id).toNat default).size x.sup.first, 0) else ([], 8))
def Abc : Except Nat (List IoV × Nat) → AV
 | .ok (ios, e) => .tup [.islc false false 3 (ios.map IoV.av), .int .i64 e]
 | .error e => .tup [.islc false true 0 [], .int .i64 e]
theorem lX {l : List UInt8} {x : Img} {id : Int} (hd : Dev l) (hx : x.fit l) (h : createE x.recs id = 0) : ({ Kq x id with next := 0 } : Rec).ok := by
 unfold createE at h
 by_cases h1 : idOk id
 ·rw [if_neg (fun hh => hh h1)] at h
  split at h
  ·omega
  split at h
  ·omega
  rename_i h3
  obtain ⟨hi1, hi2⟩ := h1
  have hs := hx.sup
  have hb := hx.blocks
  have hnb := hd.nb
  refine ⟨.inl rfl, ?_, ⟨⟨by show 1 ≤ id.toNat; omega, by show id.toNat ≤ _; omega⟩, ?_, ?_⟩, hs.2.2.1, .inl ⟨rfl, rfl, rfl⟩⟩
  ·show x.sup.root = 0 ∨ 2 ≤ x.sup.root ∧ x.sup.root < 4096
   have := hs.2.2.2.1; omega
  ·show Kn x.recs ≠ id.toNat
   intro he
   cases hr : x.recs with
   | nil => rw [hr] at he; simp only [Kn] at he; omega
   | cons r rs =>
    rw [hr] at he h3
    simp only [Kn] at he
    exact h3 (Ec.2 ⟨r, Cl .., Az (by omega)⟩)
  ·show Kn x.recs ≤ 4611686018427387903
   cases hr : x.recs with
   | nil => simp [Kn]
   | cons r rs =>
    have := (hx.recs r (by rw [hr]; exact Cl ..)).2.2.1
    simp only [Kn]
    unfold cV at this
    omega
 ·rw [if_pos h1] at h; omega
attribute [local irreducible] aops Bb Cj Dm aop W WO
theorem Vc (k : Nat) (hk : 1000070 ≤ k) (f : Bool) (l : List UInt8) (hl : l.length < 1000000) : FnV (CF k) Px [.islc false f 1 (BL l)] (Ln f l (lookQ l)) := by
 unfold lookQ
 by_cases hd : devB l.length
 ·rw [if_pos hd]; exact Agv k hk f l ⟨hl, hd⟩
 ·rw [if_neg hd]; exact xV k hk false f 1 l hl hd
theorem Afw (k : Nat) (hk : 1 ≤ k) (a : Int) : FnV (CF k) Te [.int .i64 a] (.int .i64 (if idOk a then 0 else 1)) := by
 obtain ⟨j, rfl⟩ : ∃ j, k = j + 1 := ⟨k - 1, by omega⟩
 exact Nm j a
theorem vB (k : Nat) (hk : 1 ≤ k) (x : Rec) (id : Int) : FnV (CF k) Km [x.av, .iptr true [.int .i64 id]] (.bool (decide ((x.id : Int) = id))) := by
 obtain ⟨a1, a2, a3, a4, a5, a6, a7, a8⟩ := x
 refine fnk (by omega) dK rfl ?_
 unfold Qg Rec.av
 simp only
 repeat' (first | refine qQb ?_ | refine Ab (fun _ => ?_) (fun _ => ?_))
 all_goals
  refine ⟨Or.inr rfl, _, rfl, ?_⟩
  simp only [cmpP] at *
  show AV.bool _ = AV.bool _
  congr 1
  first
   | exact (Az (by omega)).symm
   | exact (Bo (by omega)).symm
theorem Acv (k : Nat) (hk : 1000030 ≤ k) (f : Bool) (s : Nat) (recs : List Rec) (g b r z fi slot : Nat) (id : Int) (hs : s = 8 ∨ recs = []) (hl : recs.length < 1000000) : FnV (CF k) Wa [.agg [.int .i64 g, .int .i64 b, .int .i64 r, .int .i64 z, .int .i64 fi, .int .i64 slot, .islc false f s (recs.map Rec.av)], .int .i64 id] (.int .i64 (createE recs id)) := by
 have hp := kL (k - 1) (by omega) false f s recs (.int .i64 g) (.int .i64 b) (.int .i64 r) (.int .i64 z) (.int .i64 fi) (.int .i64 slot) hs
 have hi := Afw (k - 1) (by omega) id
 have hlr : (recs.map Rec.av).length = recs.length := Ak _
 have hcf : FnV (CF (k - 1)) Bs [.islc false f s (recs.map Rec.av), .fn Km [.iptr true [.int .i64 id]]] (.bool (recs.any fun r => decide ((r.id : Int) = id))) := by
  by_cases hn : recs = []
  ·subst hn
   exact My (k - 1) (by omega) false f s _ _ (fun _ => rfl)
  ·obtain rfl : s = 8 := hs.resolve_right hn
   exact Nv (k - 1) (by omega) false f recs Km [.iptr true [.int .i64 id]] (fun r => decide ((r.id : Int) = id)) hl (fun _ => rfl) (fun _ _ => rfl) (fun i hi => vB (k - 3) (by omega) _ id)
 obtain ⟨pr, pb, hpv, hpb⟩ : ∃ (pr : Rec) (pb : Bool), Acg (We recs) = .tup [pr.av, .bool pb] ∧ (We recs).isSome = pb := by
  cases We recs with
  | none => exact ⟨rec0, false, rfl, rfl⟩
  | some r => exact ⟨r, true, rfl, rfl⟩
 rw [hpv] at hp
 obtain ⟨b1, b2, b3, b4, b5, b6, b7, b8⟩ := pr
 unfold Rec.av at hp
 simp only at hp
 obtain ⟨an, han⟩ : ∃ b, b = (recs.any fun r => decide ((r.id : Int) = id)) := ⟨_, rfl⟩
 rw [← han] at hcf
 unfold createE
 rw [hpb, ← han]
 refine fnk (by omega) jU rfl ?_
 unfold Ti
 by_cases h1 : idOk id
 ·rw [if_pos h1] at hi
  rw [if_neg (fun hh => hh h1)]
  cases pb with
  | true =>
   repeat' (first | refine Ag (hp) (fun _ => ?_) (fun _ => ?_) | refine Ad (hp) ?_ | refine Ag (hi) (fun _ => ?_) (fun _ => ?_) | refine Ad (hi) ?_ | refine qQb ?_ | refine Ab (fun _ => ?_) (fun _ => ?_))
   exact ⟨Or.inr rfl, _, rfl, rfl⟩
  | false =>
   rw [if_neg (by decide)]
   cases an with
   | true =>
    repeat' (first
     | refine qS ?_ | refine Ad hcf ?_ | refine Ag (hp) (fun _ => ?_) (fun _ => ?_) | refine Ad (hp) ?_ | refine Ag (hi) (fun _ => ?_) (fun _ => ?_)
     | refine Ad (hi) ?_ | refine qQb ?_ | refine Ab (fun _ => ?_) (fun _ => ?_))
    exact ⟨Or.inr rfl, _, rfl, rfl⟩
   | false =>
    rw [if_neg (by decide)]
    by_cases h60 : 60 ≤ recs.length
    ·rw [if_pos h60]
     repeat' (first
      | refine qS ?_ | refine Ad hcf ?_ | refine Ba (n := recs.length) rfl hlr rfl rfl ?_ | refine Ag (hp) (fun _ => ?_) (fun _ => ?_) | refine Ad (hp) ?_
      | refine Ag (hi) (fun _ => ?_) (fun _ => ?_) | refine Ad (hi) ?_ | refine qQb ?_ | refine Ab (fun _ => ?_) (fun _ => ?_))
     exact ⟨Or.inr rfl, _, rfl, rfl⟩
    ·rw [if_neg h60]
     repeat' (first
      | refine qS ?_ | refine Ad hcf ?_ | refine Ba (n := recs.length) rfl hlr rfl rfl ?_ | refine Ag (hp) (fun _ => ?_) (fun _ => ?_) | refine Ad (hp) ?_
      | refine Ag (hi) (fun _ => ?_) (fun _ => ?_) | refine Ad (hi) ?_ | refine qQb ?_ | refine Ab (fun _ => ?_) (fun _ => ?_))
     exact ⟨Or.inr rfl, _, rfl, rfl⟩
 ·rw [if_neg h1] at hi
  rw [if_pos h1]
  repeat' (first | refine Ag (hp) (fun _ => ?_) (fun _ => ?_) | refine Ad (hp) ?_ | refine Ag (hi) (fun _ => ?_) (fun _ => ?_) | refine Ad (hi) ?_ | refine qQb ?_ | refine Ab (fun _ => ?_) (fun _ => ?_))
  exact ⟨Or.inr rfl, _, rfl, rfl⟩
theorem vE {recs : List Rec} {id : Int} (h : createE recs id = 0) : idOk id := by
 unfold createE at h
 by_cases h1 : idOk id
 ·exact h1
 ·rw [if_pos h1] at h; omega
theorem kR (y : Except Nat (List IoV)) : ∃ (uf : Bool) (us : Nat) (ues : List AV) (e : Nat), lD y = .tup [.islc false uf us ues, .int .i64 e] := by
 cases y with
 | error e => exact ⟨true, 0, [], e, rfl⟩
 | ok ios => exact ⟨false, 3, ios.map IoV.av, 0, rfl⟩
theorem gR (k : Nat) (hk : 1000200 ≤ k) (f : Bool) (l : List UInt8) (hl : l.length < 1000000) (id : Int) : FnV (CF k) Nb [.islc false f 1 (BL l), .int .i64 id] (lD (Gw l id)) := by
 have hlk := Vc (k - 1) (by omega) f l hl
 refine fnk (by omega) jR rfl ?_
 unfold Tk Gw
 cases h : lookQ l with
 | error p =>
  obtain ⟨a, e⟩ := p
  have he := Oo h
  rw [h] at hlk
  unfold Ln at hlk
  simp only at hlk ⊢
  have he0 : (e : Int) ≠ 0 := by omega
  repeat' (first | refine Ag (hlk) (fun _ => ?_) (fun _ => ?_) | refine Ad (hlk) ?_ | refine qQb ?_ | refine Ab (fun _ => ?_) (fun _ => ?_))
  exact ⟨Or.inr rfl, _, rfl, rfl⟩
 | ok x =>
  rw [h] at hlk
  obtain ⟨hd, hx⟩ := Oz hl h
  have hfew := hx.few
  obtain ⟨f1, s1, hr, hs1⟩ := rIvF x.recs
  obtain ⟨f2, s2, hb, hs2⟩ := Jk x.blocks
  unfold Ln at hlk
  simp only at hlk ⊢
  have hcr := Acv (k - 1) (by omega) f1 s1 x.recs x.sup.gen x.sup.blocks x.sup.root x.sup.size x.sup.first x.slot id hs1 (by omega)
  have hlr : (x.recs.map Rec.av).length = x.recs.length := Ak _
  by_cases hc : createE x.recs id = 0
  ·rw [if_neg (by omega)]
   rw [hc] at hcr
   have hmk := wQ (k - 1) (by omega) f l hd x hx 0 (Kq x id) true (Eg _) (fun _ => lX hd hx hc)
   have hid := vE hc
   obtain ⟨uf, us, ues, ue, hut⟩ := kR (Iq l x 0 (Kq x id) true)
   rw [hut] at hmk ⊢
   obtain ⟨i, hi⟩ : ∃ i : Nat, i = id.toNat := ⟨_, rfl⟩
   have hii : id = i := by have := hid.1; omega
   unfold Kq Rec.av at hmk
   simp only at hmk
   rw [← hi] at hmk
   subst hii
   unfold Img.cs at hlk hmk
   rw [hr, hb] at hlk hmk
   obtain ⟨⟨g, b, r, z, fi⟩, slot, recs, blocks, trees⟩ := x
   simp only at hlk hcr hmk hs1 hlr
   cases recs with
   | nil =>
    simp only [Kn] at hmk
    repeat' (first
     | refine qS ?_ | refine Dh ?_ | refine Ba (n := 0) rfl rfl rfl rfl ?_ | refine Iz ?_ (hl := by kernel_rfl) | refine Ag (hlk) (fun _ => ?_) (fun _ => ?_)
     | refine Ad (hlk) ?_ | refine Ag (hcr) (fun _ => ?_) (fun _ => ?_) | refine Ad (hcr) ?_ | refine Ag (hmk) (fun _ => ?_) (fun _ => ?_) | refine Ad (hmk) ?_
     | refine qQb ?_ | refine Ab (fun _ => ?_) (fun _ => ?_))
    exact ⟨Or.inr rfl, _, rfl, rfl⟩
   | cons r0 rs =>
    obtain ⟨c1, c2, c3, c4, c5, c6, c7, c8⟩ := r0
    obtain rfl : s1 = 8 := hs1.resolve_right (by simp)
    simp only [Kn] at hmk
    have hln : ((⟨c1, c2, c3, c4, c5, c6, c7, c8⟩ :: rs : List Rec).map Rec.av).length = rs.length + 1 := by simp
    have hea : ((⟨c1, c2, c3, c4, c5, c6, c7, c8⟩ :: rs : List Rec).map Rec.av)[(0 : Int).toNat]? = some (.agg [.int .i64 c1, .int .i64 c2, .int .i64 c3, .int .i64 c4, .int .i64 c5, .int .i64 c6, .int .i64 c7, .int .i64 c8]) := rfl
    repeat' (first
     | refine qS ?_ | refine Dh ?_ | refine Ba (n := rs.length + 1) rfl hln rfl rfl ?_ | refine Dv rfl rfl (by omega) hea rfl rfl ?_ | refine Qp ?_
     | refine Iz ?_ (hl := by kernel_rfl) | refine Ag (hlk) (fun _ => ?_) (fun _ => ?_) | refine Ad (hlk) ?_ | refine Ag (hcr) (fun _ => ?_) (fun _ => ?_)
     | refine Ad (hcr) ?_ | refine Ag (hmk) (fun _ => ?_) (fun _ => ?_) | refine Ad (hmk) ?_ | refine qQb ?_ | refine Ab (fun _ => ?_) (fun _ => ?_))
    exact ⟨Or.inr rfl, _, rfl, rfl⟩
  ·rw [if_pos hc]
   unfold Img.cs at hlk
   rw [hr, hb] at hlk
   obtain ⟨⟨g, b, r, z, fi⟩, slot, recs, blocks, trees⟩ := x
   simp only at hlk hcr hc ⊢
   obtain ⟨ce, hce⟩ : ∃ e, e = createE recs id := ⟨_, rfl⟩
   rw [← hce] at hcr hc ⊢
   have hc' : (ce : Int) ≠ 0 := by omega
   repeat' (first
    | refine qS ?_ | refine Dh ?_ | refine Ag (hlk) (fun _ => ?_) (fun _ => ?_) | refine Ad (hlk) ?_ | refine Ag (hcr) (fun _ => ?_) (fun _ => ?_)
    | refine Ad (hcr) ?_ | refine qQb ?_ | refine Ab (fun _ => ?_) (fun _ => ?_))
   exact ⟨Or.inr rfl, _, rfl, rfl⟩
end Go.Proofs.Ytkaiiopoilpjeaa
