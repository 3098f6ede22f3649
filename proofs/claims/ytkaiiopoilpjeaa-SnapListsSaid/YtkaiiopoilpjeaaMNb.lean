/- Lemmas. -/
import Derived.Test.YtkaiiopoilpjeaaMN
set_option linter.unusedSimpArgs false
set_option linter.unusedVariables false
set_option maxRecDepth 10000
namespace Go.Proofs.Ytkaiiopoilpjeaa
open Go.AI
theorem eP (recs : List Rec) (j : Nat) : (Em recs (j + 1) rec0 false).reverse ++ recs.drop (j + 1) = recs.eraseIdx j := by
 unfold Em; rw [Ta]; simp
theorem kM {α β : Type} : ∀ (l : List α) (m : List β) (j : Nat), (l.eraseIdx j).zip (m.eraseIdx j) = (l.zip m).eraseIdx j
 | [], m, j => by simp
 | x :: l, [], j => by cases j <;> simp
 | x :: l, y :: m, 0 => by simp
 | x :: l, y :: m, j + 1 => by simp [kM l m j]
theorem tZ {l : List UInt8} (hl : l.length < 1000000) {id : Int} {ios : List IoV} (h : Jt l id = .ok ios) : ∃ x x' j, ∃ hj : j < x.recs.length, Dev l ∧ IsImg l x ∧ (x.recs[j].id : Int) = id ∧ x.recs[j].kind = 0 ∧ Iq l x (j + 1) rec0 false = .ok ios ∧ Made l (Cn l ios) x x' j (j + 1) ∧ j ≤ (Fm (Dn l x)).length ∧ x'.recs.map core = (x.recs.eraseIdx j).map core ∧
  x'.sup.root = x.sup.root ∧ x'.sup.size = x.sup.size ∧ x'.sup.gen = x.sup.gen + 1 ∧ (∀ w ∈ x'.trees, w ∈ x.trees) ∧ Hy (Cn l ios) x' = ⟨(Hy l x).head, (Hy l x).snaps.filter (fun s => decide ((s.id : Int) ≠ id)), (Hy l x).opens⟩ := by
 unfold Jt at h
 split at h
 ·cases h
 rename_i x hlk
 obtain ⟨hd, hI⟩ := (Mx hl).1 hlk
 have hx := Yc hd hI
 split at h
 ·cases h
 rename_i c1
 split at h
 ·cases h
 rename_i c2
 have hmk : Iq l x ((He x.recs id).toNat + 1) rec0 false = .ok ios := by
  revert h
  cases We x.recs with
  | none => intro h; rw [if_neg (show ¬ (false = true) from Kv)] at h; exact h
  | some r =>
   simp only
   intro h
   split at h
   ·cases h
   ·exact h
 obtain ⟨j, hj, f1, f2, f3⟩ := fF c2
 rw [f1, Bd] at hmk
 obtain ⟨w, ws, he, h1, h2, h3⟩ := eW hI
 have hmem : ∀ v ∈ w :: ws.eraseIdx j, v ∈ x.trees := fun v hv => by
  rw [he]
  rcases Au.1 hv with rfl | hv
  ·simp
  ·exact Bi _ ((List.eraseIdx_sublist ws j).mem hv)
 obtain ⟨hk, rs, bs, fst, hcore, hm⟩ := lM hd hI hx (fun h => by cases h) hmk (ws := w :: ws.eraseIdx j) (by
  rw [eP]; exact nR (List.eraseIdx_sublist _ _) hI.good) hmem (by
  rw [eP]
  refine ⟨h1, h2, ?_⟩
  have := h3.erase j
  rw [← aG] at this
  exact this)
 rw [eP] at hcore
 have hlen : (Em x.recs (j + 1) rec0 false).length = j := by unfold Em; simp; omega
 rw [hlen] at hm hk
 refine ⟨x, _, j, hj, hd, hI, f2, f3, hmk, hm, hk, hcore, rfl, rfl, rfl, hmem, ?_⟩
 rw [lG hI hm.stay (hmem w (by simp)) (fun v hv => hmem v (Bi _ hv)) hcore]
 unfold Hy
 rw [he]
 simp only [jG, pJ]
 have hwl : ws.length = x.recs.length := by have := h3.len; simpa using this.symm
 have hzl : j < (x.recs.zip ws).length := by rw [Ut]; omega
 have hgj : (x.recs.zip ws)[j].1 = x.recs[j] := by simp
 have key : ∀ q : Rec × WS → Bool, (((x.recs.zip ws).eraseIdx j).filter q) = ((x.recs.zip ws).filter q).filter fun p => decide ((p.1.id : Int) ≠ id) := by
  intro q
  have hnd := hI.good.1
  rw [List.filter_filter]
  have e1 : x.recs.zip ws = (x.recs.zip ws).take j ++ (x.recs.zip ws)[j] :: (x.recs.zip ws).drop (j + 1) := by
   rw [List.getElem_cons_drop, Iy]
  have hfst : (x.recs.zip ws).map Prod.fst = x.recs := List.map_fst_zip (by omega)
  have hids : ((x.recs.zip ws).map fun p => p.1.id).Nodup := by
   have : ((x.recs.zip ws).map fun p => p.1.id) = x.recs.map Rec.id := by
    conv => rhs; rw [← hfst]
    rw [Fh]; rfl
   rw [this]; exact hnd
  rw [e1, Br, Bc] at hids
  have hne : ∀ p ∈ (x.recs.zip ws).take j ++ (x.recs.zip ws).drop (j + 1), (p.1.id : Int) ≠ id := by
   intro p hp hid
   rw [Fs] at hids
   obtain ⟨n1, n2, n3⟩ := hids
   rw [jF] at n2
   have hpid : p.1.id = (x.recs.zip ws)[j].1.id := by rw [hgj]; omega
   rcases Bg.1 hp with hp | hp
   ·exact n3 _ (Ca.2 ⟨p, hp, rfl⟩) _ (Cl ..) hpid
   ·exact n2.1 (Ca.2 ⟨p, hp, hpid⟩)
  rw [Ta]
  conv => rhs; rw [e1]
  rw [Gd, Gd, Gg]
  rw [if_neg (by rw [hgj]; simp [f2])]
  congr 1
  ·exact List.filter_congr fun p hp => by rw [Az (hne p (Ss _ hp))]; simp
  ·exact List.filter_congr fun p hp => by rw [Az (hne p (List.mem_append_right _ hp))]; simp
 rw [kM, key, key]
 rw [ViewV.mk.injEq]
 refine ⟨rfl, ?_, ?_⟩
 ·rw [List.filter_map]; rfl
 ·
  congr 1
  rw [Ob]
  intro p hp
  obtain ⟨hp1, hp2⟩ := Ld.1 hp
  rw [Dj]
  intro hid
  have hpr := (Lf hp1).1
  have : p.1 = x.recs[j] := by
   have hnd := hI.good.1
   obtain ⟨i, hi, hpi⟩ := List.getElem_of_mem hpr
   have hij : i = j := by
    have hmi : (x.recs.map Rec.id)[i]'(by simpa using hi) = (x.recs.map Rec.id)[j]'(by simpa using hj) := by
     simp only [Nt]; rw [hpi]; omega
    exact aC hnd _ _ hmi
   subst hij; exact hpi.symm
  unfold Qo at hp2
  rw [Dj, this] at hp2
  omega
end Go.Proofs.Ytkaiiopoilpjeaa
