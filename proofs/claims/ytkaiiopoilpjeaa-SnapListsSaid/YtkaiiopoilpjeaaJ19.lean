import Derived.Test.YtkaiiopoilpjeaaJ18
set_option linter.unusedSimpArgs false
set_option linter.unusedVariables false
set_option maxRecDepth 10000
set_option maxHeartbeats 16000000
namespace Go.Proofs.Ytkaiiopoilpjeaa
open Go.AI
theorem nM (c : List Nat) : oY (Fm c) := by
 have h : (Fm c).Pairwise (· < ·) := (List.pairwise_lt_range).filter _
 intro i hi
 have h2 := List.pairwise_iff_getElem.1 h i (i + 1) (by omega) hi (by omega)
 simp only [Aw, Ai hi, Ai (show i < (Fm c).length by omega), Nr]
 exact h2
theorem zR {c : List Nat} {a : Nat} (h : a ∈ Fm c) : 2 ≤ a ∧ a < c.length := by
 unfold Fm at h
 obtain ⟨h1, h2⟩ := Ld.1 h
 unfold Ir at h2
 have h3 := Kg.1 h1
 simp at h2
 omega
theorem yH (c : List Nat) : (Fm c).length ≤ c.length := by
 have := Hb (Ir c) (List.range c.length)
 unfold Fm
 simpa using this
theorem kO {n : Nat} : ∀ (rs : List Rec) (fs : List Nat) (p : Nat), (∀ a ∈ fs, 2 ≤ a ∧ a < n) → ∀ x ∈ De rs fs p, okIo n x ∧ x.s = 1
 | [], _, _, _, x, h => by cases h
 | _ :: _, [], _, _, x, h => by cases h
 | r :: rs, a :: fs, p, hf, x, h => by
  simp only [De] at h
  rcases Au.1 h with rfl | h
  ·exact ⟨⟨rfl, hf a (Cl ..), eD _⟩, rfl⟩
  ·exact kO rs fs a (fun b hb => hf b (Bi _ hb)) x h
theorem kZ {n : Nat} : ∀ (rs : List Rec) (fs : List Nat) (p : Nat), (∀ a ∈ fs, 2 ≤ a ∧ a < n) → (p = 0 ∨ 2 ≤ p ∧ p < n) → (Ds rs fs p = 0 ∨ 2 ≤ Ds rs fs p ∧ Ds rs fs p < n)
 | [], _, _, _, h => h
 | _ :: _, [], _, _, h => h
 | r :: rs, a :: fs, p, hf, h => kZ rs fs a (fun b hb => hf b (Bi _ hb)) (.inr (hf a (Cl ..)))
theorem gW : ∀ (rs : List Rec) (fs : List Nat) (p : Nat), (De rs fs p).length ≤ rs.length
 | [], _, _ => by simp [De]
 | _ :: _, [], _ => by simp [De]
 | r :: rs, a :: fs, p => by
  have := gW rs fs a
  simp only [De, As]; omega
def We : List Rec → Option Rec
 | r :: _ => if r.kind = 1 then some r else none
 | [] => none
def Acg : Option Rec → AV
 | some r => .tup [r.av, .bool true]
 | none => .tup [rec0.av, .bool false]
attribute [local irreducible] aops Bb Cj Dm aop W WO
theorem kL (k : Nat) (hk : 10 ≤ k) (t f : Bool) (s : Nat) (recs : List Rec) (a0 a1 a2 a3 a4 a5 : AV) (hs : s = 8 ∨ recs = []) : FnV (CF k) Ly [.agg [a0, a1, a2, a3, a4, a5, .islc t f s (recs.map Rec.av)]] (Acg (We recs)) := by
 refine fnk (by omega) fH rfl ?_
 unfold Rf
 cases recs with
 | nil =>
  repeat' (first | refine qS ?_ | refine qN ?_ | refine Ba (n := 0) rfl rfl rfl rfl ?_ | refine qQb ?_ | refine Ab (fun _ => ?_) (fun _ => ?_))
  exact ⟨Or.inr rfl, _, rfl, rfl⟩
 | cons r rs =>
  obtain rfl : s = 8 := hs.resolve_right (by simp)
  obtain ⟨b1, b2, b3, b4, b5, b6, b7, b8⟩ := r
  have hln : ((⟨b1, b2, b3, b4, b5, b6, b7, b8⟩ :: rs : List Rec).map Rec.av).length = rs.length + 1 := by simp
  have he : ((⟨b1, b2, b3, b4, b5, b6, b7, b8⟩ :: rs : List Rec).map Rec.av)[(0 : Int).toNat]? = some (.agg [.int .i64 b1, .int .i64 b2, .int .i64 b3, .int .i64 b4, .int .i64 b5, .int .i64 b6, .int .i64 b7, .int .i64 b8]) := rfl
  simp only [We]
  by_cases h : b6 = 1
  ·subst h
   rw [if_pos rfl]
   repeat' (first | refine qS ?_ | refine qN ?_ | refine Ba (n := rs.length + 1) rfl hln rfl rfl ?_ | refine Dv rfl rfl (by omega) he rfl rfl ?_ | refine Qp ?_ | refine qQb ?_ | refine Ab (fun _ => ?_) (fun _ => ?_))
   exact ⟨Or.inr rfl, _, rfl, rfl⟩
  ·rw [if_neg h]
   have h' : (b6 : Int) ≠ 1 := by omega
   repeat' (first | refine qS ?_ | refine qN ?_ | refine Ba (n := rs.length + 1) rfl hln rfl rfl ?_ | refine Dv rfl rfl (by omega) he rfl rfl ?_ | refine Qp ?_ | refine qQb ?_ | refine Ab (fun _ => ?_) (fun _ => ?_))
   exact ⟨Or.inr rfl, _, rfl, rfl⟩
def Iq (l : List UInt8) (x : Img) (n : Nat) (first : Rec) (wth : Bool) : Except Nat (List IoV) :=
 if ¬ x.sup.gen < 1099511627776 then .error 8
 else if (Fm (Dn l x)).length < (Em x.recs n first wth).length then .error 9
 else .ok (Ez x.sup x.slot (De (Em x.recs n first wth) (Fm (Dn l x)) (x.blocks.getD n default)) x.sup.root x.sup.size (Ds (Em x.recs n first wth) (Fm (Dn l x)) (x.blocks.getD n default)))
def lD : Except Nat (List IoV) → AV
 | .ok ios => .tup [.islc false false 3 (ios.map IoV.av), .int .i64 0]
 | .error e => .tup [.islc false true 0 [], .int .i64 e]
theorem wQ (k : Nat) (hk : 1000100 ≤ k) (f : Bool) (l : List UInt8) (hd : Dev l) (x : Img) (hx : x.fit l) (n : Nat) (first : Rec) (wth : Bool) (hn : n ≤ x.recs.length) (hfo : wth = true → ({ first with next := 0 } : Rec).ok) :
  FnV (CF k) Ro [.islc false f 1 (BL l), .iptr false (x.cs false f l), .int .i64 n, first.av, .bool wth] (lD (Iq l x n first wth)) := by
 have hnb := hd.nb
 obtain ⟨hcl, hcm⟩ := Rv hx
 have hfree := rU (k - 1) (by omega) f l hd x hx
 obtain ⟨f1, s1, hr, hs1⟩ := rIvF x.recs
 obtain ⟨f2, s2, hb, hs2⟩ := Jk x.blocks
 have hfl := yH (Dn l x)
 have hfm : ∀ a ∈ Fm (Dn l x), 2 ≤ a ∧ a < nb l := fun a ha => by have := zR ha; rw [hcl] at this; exact this
 have hrec := bL (k - 1) (by omega) x.recs f1 s1 hs1 x.blocks f2 s2 hs2 n first wth (Fm (Dn l x)) false (by have := hx.few; omega) hx.len hn hx.recs hfo (fun a ha => by have := hx.blk a ha; omega) (fun a ha => by have := hfm a ha; omega) (by omega) (nM _)
 have hp : x.blocks.getD n default = 0 ∨ 2 ≤ x.blocks.getD n default ∧ x.blocks.getD n default < nb l := by
  by_cases h : n < x.blocks.length
  ·right
   rw [Aw, Ai h]
   exact hx.blk _ (Bz h)
  ·left
   rw [Aw, Hd (by omega)]; rfl
 have hE := kZ (n := nb l) (Em x.recs n first wth) (Fm (Dn l x)) (x.blocks.getD n default) hfm hp
 have hL := kO (n := nb l) (Em x.recs n first wth) (Fm (Dn l x)) (x.blocks.getD n default) hfm
 have hLl := gW (Em x.recs n first wth) (Fm (Dn l x)) (x.blocks.getD n default)
 have hal : (Em x.recs n first wth).length < 900 := by
  have := hx.few
  unfold Em
  rw [Ar, sX, Cf]
  cases wth <;> simp <;> omega
 obtain ⟨e, he⟩ : ∃ e, e = Ds (Em x.recs n first wth) (Fm (Dn l x)) (x.blocks.getD n default) := ⟨_, rfl⟩
 obtain ⟨ios, hios⟩ : ∃ e, e = De (Em x.recs n first wth) (Fm (Dn l x)) (x.blocks.getD n default) := ⟨_, rfl⟩
 have hsok := hx.sup
 have hblk := hx.blocks
 have hst := Th (k - 1) (by omega) x.sup x.slot f1 s1 (x.recs.map Rec.av) ios false false 3 x.sup.root x.sup.size e hx.sup hx.slot (.inl rfl) (by rw [hios]; omega) (by rw [hios, hblk]; exact hL) (fun hg => by
  refine ⟨⟨by show 1 ≤ x.sup.gen + 1; omega, by show x.sup.gen + 1 ≤ _; omega⟩, hsok.2.1, hsok.2.2.1, hsok.2.2.2.1, ?_⟩
  show e = 0 ∨ 2 ≤ e ∧ e < x.sup.blocks
  rw [hblk, he]; exact hE)
 unfold Iq
 unfold aL at hrec
 rw [← he, ← hios] at hrec ⊢
 obtain ⟨b1, b2, b3, b4, b5, b6, b7, b8⟩ := first
 unfold Rec.av at hrec ⊢
 simp only at hrec ⊢
 obtain ⟨fr, hfr⟩ : ∃ q, q = Fm (Dn l x) := ⟨_, rfl⟩
 rw [← hfr] at hfree hrec ⊢
 obtain ⟨an, han⟩ : ∃ q, q = Em x.recs n ⟨b1, b2, b3, b4, b5, b6, b7, b8⟩ wth := ⟨_, rfl⟩
 rw [← han] at hrec ⊢
 unfold Img.cs at hfree ⊢
 rw [hr, hb] at hfree ⊢
 obtain ⟨⟨g, b, r, z, fi⟩, slot, recs, blocks, trees⟩ := x
 simp only at hfree hrec hst ⊢
 refine fnk (by omega) nX rfl ?_
 unfold Xi
 by_cases hg : g < 1099511627776
 ·rw [if_neg (by omega)]
  rw [if_pos hg] at hst
  by_cases hsp : fr.length < an.length
  ·rw [if_pos hsp] at hrec ⊢
   repeat' (first
    | refine qS ?_ | refine Dh ?_ | refine Ag (hfree) (fun _ => ?_) (fun _ => ?_) | refine Ad (hfree) ?_ | refine Ag (hrec) (fun _ => ?_) (fun _ => ?_)
    | refine Ad (hrec) ?_ | refine qQb ?_ | refine Ab (fun _ => ?_) (fun _ => ?_))
   exact ⟨Or.inr rfl, _, rfl, rfl⟩
  ·rw [if_neg hsp] at hrec ⊢
   repeat' (first
    | refine qS ?_ | refine Dh ?_ | refine Ag (hfree) (fun _ => ?_) (fun _ => ?_) | refine Ad (hfree) ?_ | refine Ag (hrec) (fun _ => ?_) (fun _ => ?_)
    | refine Ad (hrec) ?_ | refine Ag (hst) (fun _ => ?_) (fun _ => ?_) | refine Ad (hst) ?_ | refine qQb ?_ | refine Ab (fun _ => ?_) (fun _ => ?_))
   exact ⟨Or.inr rfl, _, rfl, rfl⟩
 ·rw [if_pos hg]
  repeat' (first | refine qS ?_ | refine Dh ?_ | refine Ag (hfree) (fun _ => ?_) (fun _ => ?_) | refine Ad (hfree) ?_ | refine qQb ?_ | refine Ab (fun _ => ?_) (fun _ => ?_))
  exact ⟨Or.inr rfl, _, rfl, rfl⟩
end Go.Proofs.Ytkaiiopoilpjeaa

