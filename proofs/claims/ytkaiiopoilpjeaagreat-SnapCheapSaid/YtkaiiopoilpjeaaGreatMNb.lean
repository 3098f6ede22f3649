/- Lemmas. -/
import Derived.Test.YtkaiiopoilpjeaaGreatMN
set_option linter.unusedSimpArgs false
set_option linter.unusedVariables false
set_option maxRecDepth 10000
namespace Go.Proofs.YtkaiiopoilpjeaaGreat
open Go.AI
theorem qB (recs : List Rec) (j : Nat) : (Fy recs (j + 1) rec0 false).reverse ++ recs.drop (j + 1) = recs.eraseIdx j := by
 unfold Fy; rw [aK]; simp
theorem vL {α β : Type} : ∀ (l : List α) (m : List β) (j : Nat), (l.eraseIdx j).zip (m.eraseIdx j) = (l.zip m).eraseIdx j
 | [], m, j => by simp
 | x :: l, [], j => by cases j <;> simp
 | x :: l, y :: m, 0 => by simp
 | x :: l, y :: m, j + 1 => by simp [vL l m j]
theorem qH {l : List UInt8} (hl : l.length < 1000000) {id : Int} {ios : List IoV} (h : Kv l id = .ok ios) : ∃ x x' j, ∃ hj : j < x.recs.length, Dev l ∧ IsImg l x ∧ (x.recs[j].id : Int) = id ∧ x.recs[j].kind = 0 ∧ Ls l x (j + 1) rec0 false = .ok ios ∧ Made l (Bt l ios) x x' j (j + 1) ∧ j ≤ (Cd (Ay l x)).length ∧ x'.recs.map core = (x.recs.eraseIdx j).map core ∧
  x'.sup.root = x.sup.root ∧ x'.sup.size = x.sup.size ∧ x'.sup.gen = x.sup.gen + 1 ∧ (∀ w ∈ x'.trees, w ∈ x.trees) ∧ Gq (Bt l ios) x' = ⟨(Gq l x).head, (Gq l x).snaps.filter (fun s => decide ((s.id : Int) ≠ id)), (Gq l x).opens⟩ := by
 unfold Kv at h
 split at h
 ·cases h
 rename_i x hlk
 obtain ⟨hd, hI⟩ := (Mb hl).1 hlk
 have hx := Sn hd hI
 split at h
 ·cases h
 rename_i c1
 split at h
 ·cases h
 rename_i c2
 have hmk : Ls l x ((Jf x.recs id).toNat + 1) rec0 false = .ok ios := by
  revert h
  cases Yk x.recs with
  | none => intro h; rw [if_neg (show ¬ (false = true) from On)] at h; exact h
  | some r =>
   simp only
   intro h
   split at h
   ·cases h
   ·exact h
 obtain ⟨j, hj, f1, f2, f3⟩ := qC c2
 rw [f1, Bd] at hmk
 obtain ⟨w, ws, he, h1, h2, h3⟩ := Hm hI
 have hmem : ∀ v ∈ w :: ws.eraseIdx j, v ∈ x.trees := fun v hv => by
  rw [he]
  rcases Ap.1 hv with rfl | hv
  ·simp
  ·exact Bu _ ((List.eraseIdx_sublist ws j).mem hv)
 obtain ⟨hk, rs, bs, fst, hcore, hm⟩ := wA hd hI hx (fun h => by cases h) hmk (ws := w :: ws.eraseIdx j) (by
  rw [qB]; exact yE (List.eraseIdx_sublist _ _) hI.good) hmem (by
  rw [qB]
  refine ⟨h1, h2, ?_⟩
  have := h3.erase j
  rw [← jK] at this
  exact this)
 rw [qB] at hcore
 have hlen : (Fy x.recs (j + 1) rec0 false).length = j := by unfold Fy; simp; omega
 rw [hlen] at hm hk
 refine ⟨x, _, j, hj, hd, hI, f2, f3, hmk, hm, hk, hcore, rfl, rfl, rfl, hmem, ?_⟩
 rw [xM hI hm.stay (hmem w (by simp)) (fun v hv => hmem v (Bu _ hv)) hcore]
 unfold Gq
 rw [he]
 simp only [Mn, fJ]
 have hwl : ws.length = x.recs.length := by have := h3.len; simpa using this.symm
 have hzl : j < (x.recs.zip ws).length := by rw [Td]; omega
 have hgj : (x.recs.zip ws)[j].1 = x.recs[j] := by simp
 have key : ∀ q : Rec × WS → Bool, (((x.recs.zip ws).eraseIdx j).filter q) = ((x.recs.zip ws).filter q).filter fun p => decide ((p.1.id : Int) ≠ id) := by
  intro q
  have hnd := hI.good.1
  rw [List.filter_filter]
  have e1 : x.recs.zip ws = (x.recs.zip ws).take j ++ (x.recs.zip ws)[j] :: (x.recs.zip ws).drop (j + 1) := by
   rw [List.getElem_cons_drop, Hv]
  have hfst : (x.recs.zip ws).map Prod.fst = x.recs := List.map_fst_zip (by omega)
  have hids : ((x.recs.zip ws).map fun p => p.1.id).Nodup := by
   have : ((x.recs.zip ws).map fun p => p.1.id) = x.recs.map Rec.id := by
    conv => rhs; rw [← hfst]
    rw [Ha]; rfl
   rw [this]; exact hnd
  rw [e1, Bq, Aw] at hids
  have hne : ∀ p ∈ (x.recs.zip ws).take j ++ (x.recs.zip ws).drop (j + 1), (p.1.id : Int) ≠ id := by
   intro p hp hid
   rw [Ei] at hids
   obtain ⟨n1, n2, n3⟩ := hids
   rw [Gu] at n2
   have hpid : p.1.id = (x.recs.zip ws)[j].1.id := by rw [hgj]; omega
   rcases Bi.1 hp with hp | hp
   ·exact n3 _ (Bz.2 ⟨p, hp, rfl⟩) _ (Ct ..) hpid
   ·exact n2.1 (Bz.2 ⟨p, hp, hpid⟩)
  rw [aK]
  conv => rhs; rw [e1]
  rw [Gs, Gs, Eh]
  rw [if_neg (by rw [hgj]; simp [f2])]
  congr 1
  ·exact List.filter_congr fun p hp => by rw [As (hne p (Gt _ hp))]; simp
  ·exact List.filter_congr fun p hp => by rw [As (hne p (Lv _ hp))]; simp
 rw [vL, key, key]
 rw [ViewV.mk.injEq]
 refine ⟨rfl, ?_, ?_⟩
 ·rw [List.filter_map]; rfl
 ·
  congr 1
  rw [cG]
  intro p hp
  obtain ⟨hp1, hp2⟩ := Ew.1 hp
  rw [Dl]
  intro hid
  have hpr := (Mm hp1).1
  have : p.1 = x.recs[j] := by
   have hnd := hI.good.1
   obtain ⟨i, hi, hpi⟩ := List.getElem_of_mem hpr
   have hij : i = j := by
    have hmi : (x.recs.map Rec.id)[i]'(by simpa using hi) = (x.recs.map Rec.id)[j]'(by simpa using hj) := by
     simp only [Li]; rw [hpi]; omega
    exact jV hnd _ _ hmi
   subst hij; exact hpi.symm
  unfold Tg at hp2
  rw [Dl, this] at hp2
  omega
theorem Aap {l l' : List UInt8} {x x' : Img} {k n : Nat} (hI : IsImg l x) (hx : x.fit l) (hm : Made l l' x x' k n) (hr : ∀ a ∈ x'.sup.root :: x'.recs.map Rec.root, a ∈ x.sup.root :: x.recs.map Rec.root) (ht : ∀ w ∈ x'.trees, w ∈ x.trees) {a : Nat} (h : reached l' x' a) :
  a < 2 ∨ a ∈ (Cd (Ay l x)).take k ∨ a ∈ x.blocks.drop n ∨ a ∈ x.sup.root :: x.recs.map Rec.root ∨ ∃ w ∈ x.trees, ∃ nd ∈ w.nodes, a ∈ Ea l nd := by
 rcases h with h | h | h | ⟨w, hw, nd, hnd, h⟩
 ·exact .inl h
 ·exact .inr ((hm.blks a h).imp id .inl)
 ·exact .inr (.inr (.inr (.inl (hr a h))))
 ·refine .inr (.inr (.inr (.inr ⟨w, ht w hw, nd, hnd, ?_⟩)))
  have hg := (hx.tree w (ht w hw)).1.1.2.2 nd hnd
  rw [hm.stay nd hg.1 ((Jp hI w (ht w hw)).1 nd hnd)] at h
  exact h
end Go.Proofs.YtkaiiopoilpjeaaGreat
