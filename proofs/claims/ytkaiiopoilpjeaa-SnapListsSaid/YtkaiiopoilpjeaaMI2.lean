/- Lemmas. -/
import Derived.Test.YtkaiiopoilpjeaaMI1
set_option linter.unusedSimpArgs false
set_option linter.unusedVariables false
set_option maxRecDepth 10000
set_option maxHeartbeats 16000000
namespace Go.Proofs.Ytkaiiopoilpjeaa
open Go.AI
attribute [local irreducible] aops Bb Cj Dm aop W WO
def mW : List UInt8 := [87, 67, 85, 84]
def mN : List UInt8 := [78, 79, 68, 69]
def mS : List UInt8 := [83, 78, 65, 80]
def sW : List Nat := [8, 4, 4, 4, 4]
def sN : List Nat := [4, 4, 4, 4, 4, 4, 4, 4, 4]
def sS : List Nat := [4, 8, 8, 4, 4, 4, 4, 4]
def supB (s : Sup) : List UInt8 := Mo mW sW [s.gen, s.blocks, s.root, s.size, s.first]
theorem Ki (s : Sup) : (supB s).length = 64 := Qm rfl rfl (by decide)
theorem Sup.ok_lt {s : Sup} (h : s.ok) : s.gen < 4611686018427387904 ∧ s.blocks < 4611686018427387904 ∧ s.root < 4611686018427387904 ∧ s.size < 4611686018427387904 ∧ s.first < 4611686018427387904 := by
 unfold Sup.ok at h; omega
theorem Wn (k : Nat) (hk : 1000030 ≤ k) (s : Sup) (hs : s.gen < 4611686018427387904 ∧ s.blocks < 4611686018427387904 ∧ s.root < 4611686018427387904 ∧ s.size < 4611686018427387904 ∧ s.first < 4611686018427387904) :
  FnV (CF k) Qa [s.av] (if s.ok then .tup [.islc false false 1 (BL (supB s)), .int .i64 0] else .tup [.islc false true 0 [], .int .i64 1]) := by
 have hc := Qb (k - 1) (by omega) s hs
 have hl := Ub (k - 1) (by omega)
 have hm := Zk (k - 1) (by omega) true false mW sW [s.gen, s.blocks, s.root, s.size, s.first] rfl rfl (by decide) (by decide) (by simp)
 unfold Sup.av at hc ⊢
 refine fnk (by omega) jM rfl ?_
 unfold Uf
 by_cases h : s.ok
 ·rw [if_pos h] at hc ⊢
  repeat' (first
   | refine Ag (hc) (fun _ => ?_) (fun _ => ?_) | refine Ad (hc) ?_ | refine Ag (hl) (fun _ => ?_) (fun _ => ?_) | refine Ad (hl) ?_
   | refine Ag (hm) (fun _ => ?_) (fun _ => ?_) | refine Ad (hm) ?_ | refine qQb ?_ | refine Ab (fun _ => ?_) (fun _ => ?_))
  exact ⟨Or.inr rfl, _, rfl, rfl⟩
 ·rw [if_neg h] at hc ⊢
  repeat' (first
   | refine Ag (hc) (fun _ => ?_) (fun _ => ?_) | refine Ad (hc) ?_ | refine Ag (hl) (fun _ => ?_) (fun _ => ?_) | refine Ad (hl) ?_
   | refine Ag (hm) (fun _ => ?_) (fun _ => ?_) | refine Ad (hm) ?_ | refine qQb ?_ | refine Ab (fun _ => ?_) (fun _ => ?_))
  exact ⟨Or.inr rfl, _, rfl, rfl⟩
theorem Afl {l : List UInt8} {a : Int} {s : Nat} (h : (getP l a s).2 = 0) : 0 ≤ (getP l a s).1 ∧ (getP l a s).1 < 4611686018427387904 := by
 unfold getP at h ⊢
 split at h
 ·rename_i h1
  rw [if_pos h1]
  split at h
  ·rename_i h2
   rw [if_pos h2]
   simp only
   omega
  ·cases h
 ·cases h
theorem Aad {b m : List UInt8} {ss : List Nat} (hss : ∀ s ∈ ss, s ≤ 8) : ∀ n ∈ (Gu b m ss).1, 0 ≤ n ∧ n < 4611686018427387904 := by
 have key : ∀ (ss : List Nat) (a : Nat) (o : List Int) (e : Nat), Jc b a ss = some (o, e) → ∀ n ∈ o, 0 ≤ n ∧ n < 4611686018427387904 := by
  intro ss
  induction ss with
  | nil => intro a o e h n hn; simp [Jc] at h; rw [h.1] at hn; cases hn
  | cons s r ih =>
   intro a o e h
   simp only [Jc] at h
   split at h
   ·rename_i h0
    simp only [Al] at h
    obtain ⟨⟨o', e'⟩, h1, h2⟩ := h
    simp only [Ah] at h2
    obtain ⟨rfl, rfl⟩ := h2
    intro n hn
    rcases Au.1 hn with rfl | hn
    ·exact Afl h0
    ·exact ih _ _ _ h1 n hn
   ·cases h
 unfold Gu
 split
 ·simp
 split
 ·simp
 split
 ·simp
 split
 ·simp
 ·rename_i o e h
  split
  ·exact key _ _ _ _ h
  ·simp
def wB (l : List Int) : Sup := ⟨(l.getD 0 0).toNat, (l.getD 1 0).toNat, (l.getD 2 0).toNat, (l.getD 3 0).toNat, (l.getD 4 0).toNat⟩
def Fl (b : List UInt8) : Sup × Int :=
 if (Gu b mW sW).2 ≠ 0 then (sup0, (Gu b mW sW).2) else if (wB (Gu b mW sW).1).ok then (wB (Gu b mW sW).1, 0) else (sup0, 1)
theorem jL (k : Nat) (hk : 1000030 ≤ k) (t f : Bool) (b : List UInt8) (hb : b.length < 1000000) : FnV (CF k) Qe [.islc t f 1 (BL b)] (.tup [(Fl b).1.av, .int .i64 (Fl b).2]) := by
 have hl := Ub (k - 1) (by omega)
 have hr := Ry (k - 1) (by omega) t f b mW sW hb rfl (by decide) (by decide) (by decide)
 refine fnk (by omega) jI rfl ?_
 unfold Uk Fl
 by_cases h0 : (Gu b mW sW).2 ≠ 0
 ·rw [if_pos h0]
  repeat' (first | refine Ag (hl) (fun _ => ?_) (fun _ => ?_) | refine Ad (hl) ?_ | refine Ag (hr) (fun _ => ?_) (fun _ => ?_) | refine Ad (hr) ?_ | refine qQb ?_ | refine Ab (fun _ => ?_) (fun _ => ?_))
  exact ⟨Or.inr rfl, _, rfl, rfl⟩
 rw [if_neg h0]
 have h0 := Cw.1 h0
 have hlt := Aad (b := b) (m := mW) (ss := sW) (by decide)
 obtain ⟨ns, hns, hlen⟩ := Ux h0
 rw [h0] at hr
 rw [hns] at hr hlt ⊢
 match ns, hlen with
 | [a0, a1, a2, a3, a4], _ =>
  unfold LI at hr
  simp only [Bc, jA] at hr
  have hs : wB ([a0, a1, a2, a3, a4].map fun n : Nat => (n : Int)) = ⟨a0, a1, a2, a3, a4⟩ := rfl
  rw [hs]
  have hb1 := hlt a0 (by simp)
  have hb2 := hlt a1 (by simp)
  have hb3 := hlt a2 (by simp)
  have hb4 := hlt a3 (by simp)
  have hb5 := hlt a4 (by simp)
  have hc := Qb (k - 1) (by omega) ⟨a0, a1, a2, a3, a4⟩ ⟨by show a0 < _; omega, by show a1 < _; omega, by show a2 < _; omega, by show a3 < _; omega, by show a4 < _; omega⟩
  unfold Sup.av at hc
  by_cases h : Sup.ok ⟨a0, a1, a2, a3, a4⟩
  ·rw [if_pos h] at hc ⊢
   repeat' (first
    | refine qS ?_ | refine Ll ?_ | refine Ic (cs := [.int .i64 a0, .int .i64 a1, .int .i64 a2, .int .i64 a3, .int .i64 a4]) ?_ (hc := by kernel_rfl)
    | refine Iz (hl := by kernel_rfl) ?_ | refine Ag (hl) (fun _ => ?_) (fun _ => ?_) | refine Ad (hl) ?_ | refine Ag (hr) (fun _ => ?_) (fun _ => ?_)
    | refine Ad (hr) ?_ | refine Ag (hc) (fun _ => ?_) (fun _ => ?_) | refine Ad (hc) ?_ | refine qQb ?_ | refine Ab (fun _ => ?_) (fun _ => ?_))
   exact ⟨Or.inr rfl, .tup [Sup.av ⟨a0, a1, a2, a3, a4⟩, .int .i64 0], by kernel_rfl, by kernel_rfl⟩
  ·rw [if_neg h] at hc ⊢
   repeat' (first
    | refine qS ?_ | refine Ll ?_ | refine Ic (cs := [.int .i64 a0, .int .i64 a1, .int .i64 a2, .int .i64 a3, .int .i64 a4]) ?_ (hc := by kernel_rfl)
    | refine Iz (hl := by kernel_rfl) ?_ | refine Ag (hl) (fun _ => ?_) (fun _ => ?_) | refine Ad (hl) ?_ | refine Ag (hr) (fun _ => ?_) (fun _ => ?_)
    | refine Ad (hr) ?_ | refine Ag (hc) (fun _ => ?_) (fun _ => ?_) | refine Ad (hc) ?_ | refine qQb ?_ | refine Ab (fun _ => ?_) (fun _ => ?_))
   exact ⟨Or.inr rfl, .tup [sup0.av, .int .i64 1], by kernel_rfl, by kernel_rfl⟩
structure Rec where
 next : Nat
 id : Nat
 parent : Nat
 root : Nat
 size : Nat
 kind : Nat
 frames : Nat
 digest : Nat
 deriving DecidableEq
def Rec.av (r : Rec) : AV := .agg [.int .i64 r.next, .int .i64 r.id, .int .i64 r.parent, .int .i64 r.root, .int .i64 r.size, .int .i64 r.kind, .int .i64 r.frames, .int .i64 r.digest]
def rec0 : Rec := ⟨0, 0, 0, 0, 0, 0, 0, 0⟩
instance : Inhabited Rec := ⟨rec0⟩
def ptrOk (n : Nat) : Prop := n = 0 ∨ 2 ≤ n ∧ n < 4096
instance (n : Nat) : Decidable (ptrOk n) := by unfold ptrOk; infer_instance
def cV (id parent : Nat) : Prop := (1 ≤ id ∧ id ≤ 4611686018427387903) ∧ parent ≠ id ∧ parent ≤ 4611686018427387903
instance (a b : Nat) : Decidable (cV a b) := by unfold cV; infer_instance
def Rec.ok (r : Rec) : Prop := ptrOk r.next ∧ ptrOk r.root ∧ cV r.id r.parent ∧ r.size ≤ 512 ∧ (r.kind = 0 ∧ r.frames = 0 ∧ r.digest = 0 ∨ r.kind = 1 ∧ (1 ≤ r.frames ∧ r.frames ≤ 65535) ∧ r.digest ≤ 4294967295)
instance (r : Rec) : Decidable r.ok := by unfold Rec.ok; infer_instance
def Rec.lt (r : Rec) : Prop := r.next < 4611686018427387904 ∧ r.id < 4611686018427387904 ∧ r.parent < 4611686018427387904 ∧ r.root < 4611686018427387904 ∧ r.size < 4611686018427387904 ∧ r.kind < 4611686018427387904 ∧ r.frames < 4611686018427387904 ∧ r.digest < 4611686018427387904
theorem bR (k : Nat) (hk : 2 ≤ k) (a b : Nat) : FnV (CF k) Mz [.int .i64 a, .int .i64 b] (.bool (decide (cV a b))) := by
 obtain ⟨j, rfl⟩ : ∃ j, k = j + 2 := ⟨k - 2, by omega⟩
 have h := bI (xf := noX) (gf := oX) j a b
 have e : Ya a b = decide (cV a b) := by unfold Ya cV; congr 1; apply propext; omega
 rw [e] at h
 exact h
theorem Lj (k : Nat) (hk : 4 ≤ k) (r : Rec) : FnV (CF k) Pf [r.av] (.int .i64 (if r.ok then 0 else 1)) := by
 obtain ⟨n, i, p, r, z, q, f, g⟩ := r
 have hin := fun n lo hi => sM (k - 1) (by omega) n lo hi
 have hpt := fun n => Uj (k - 1) (by omega) n
 have hpa := bR (k - 1) (by omega) i p
 refine fnk (by omega) hZ rfl ?_
 unfold Re Rec.av Rec.ok
 simp only
 repeat' (first
  | refine qS ?_ | refine qN ?_ | refine Vg (hin _ _ _) (fun _ => ?_) (fun _ => ?_) | refine Vg (hpt _) (fun _ => ?_) (fun _ => ?_) | refine Vg hpa (fun _ => ?_) (fun _ => ?_)
  | refine qQb ?_ | refine Ab (fun _ => ?_) (fun _ => ?_))
 all_goals
  refine ⟨Or.inr rfl, _, rfl, ?_⟩
  simp only [cmpP] at *
  show AV.int _ _ = AV.int _ _
  congr 1
  symm
  simp only [ptrOk, cV] at *
  first
   | exact if_pos (by omega)
   | exact if_neg (by omega)
   | (exfalso; omega)
def wX (l : List Int) : Rec := ⟨(l.getD 0 0).toNat, (l.getD 1 0).toNat, (l.getD 2 0).toNat, (l.getD 3 0).toNat, (l.getD 4 0).toNat, (l.getD 5 0).toNat, (l.getD 6 0).toNat, (l.getD 7 0).toNat⟩
def Dt (b : List UInt8) : Rec × Int :=
 if (Gu b mS sS).2 ≠ 0 then (rec0, (Gu b mS sS).2) else if (wX (Gu b mS sS).1).ok then (wX (Gu b mS sS).1, 0) else (rec0, 1)
theorem gK (k : Nat) (hk : 1000030 ≤ k) (t f : Bool) (b : List UInt8) (hb : b.length < 1000000) : FnV (CF k) Uc [.islc t f 1 (BL b)] (.tup [(Dt b).1.av, .int .i64 (Dt b).2]) := by
 have hl := Sk (k - 1) (by omega)
 have hr := Ry (k - 1) (by omega) t f b mS sS hb rfl (by decide) (by decide) (by decide)
 refine fnk (by omega) fM rfl ?_
 unfold Sb Dt
 by_cases h0 : (Gu b mS sS).2 ≠ 0
 ·rw [if_pos h0]
  repeat' (first | refine Ag (hl) (fun _ => ?_) (fun _ => ?_) | refine Ad (hl) ?_ | refine Ag (hr) (fun _ => ?_) (fun _ => ?_) | refine Ad (hr) ?_ | refine qQb ?_ | refine Ab (fun _ => ?_) (fun _ => ?_))
  exact ⟨Or.inr rfl, _, rfl, rfl⟩
 rw [if_neg h0]
 have h0 := Cw.1 h0
 obtain ⟨ns, hns, hlen⟩ := Ux h0
 rw [h0] at hr
 rw [hns] at hr ⊢
 match ns, hlen with
 | [a0, a1, a2, a3, a4, a5, a6, a7], _ =>
  unfold LI at hr
  simp only [Bc, jA] at hr
  have hs : wX ([a0, a1, a2, a3, a4, a5, a6, a7].map fun n : Nat => (n : Int)) = ⟨a0, a1, a2, a3, a4, a5, a6, a7⟩ := rfl
  rw [hs]
  have hc := Lj (k - 1) (by omega) ⟨a0, a1, a2, a3, a4, a5, a6, a7⟩
  unfold Rec.av at hc
  by_cases h : Rec.ok ⟨a0, a1, a2, a3, a4, a5, a6, a7⟩
  ·rw [if_pos h] at hc ⊢
   repeat' (first
    | refine qS ?_ | refine Ll ?_
    | refine Ic (cs := [.int .i64 a0, .int .i64 a1, .int .i64 a2, .int .i64 a3, .int .i64 a4, .int .i64 a5, .int .i64 a6, .int .i64 a7]) ?_ (hc := by kernel_rfl)
    | refine Iz (hl := by kernel_rfl) ?_ | refine Ag (hl) (fun _ => ?_) (fun _ => ?_) | refine Ad (hl) ?_ | refine Ag (hr) (fun _ => ?_) (fun _ => ?_)
    | refine Ad (hr) ?_ | refine Ag (hc) (fun _ => ?_) (fun _ => ?_) | refine Ad (hc) ?_ | refine qQb ?_ | refine Ab (fun _ => ?_) (fun _ => ?_))
   exact ⟨Or.inr rfl, .tup [Rec.av ⟨a0, a1, a2, a3, a4, a5, a6, a7⟩, .int .i64 0], by kernel_rfl, by kernel_rfl⟩
  ·rw [if_neg h] at hc ⊢
   repeat' (first
    | refine qS ?_ | refine Ll ?_
    | refine Ic (cs := [.int .i64 a0, .int .i64 a1, .int .i64 a2, .int .i64 a3, .int .i64 a4, .int .i64 a5, .int .i64 a6, .int .i64 a7]) ?_ (hc := by kernel_rfl)
    | refine Iz (hl := by kernel_rfl) ?_ | refine Ag (hl) (fun _ => ?_) (fun _ => ?_) | refine Ad (hl) ?_ | refine Ag (hr) (fun _ => ?_) (fun _ => ?_)
    | refine Ad (hr) ?_ | refine Ag (hc) (fun _ => ?_) (fun _ => ?_) | refine Ad (hc) ?_ | refine qQb ?_ | refine Ab (fun _ => ?_) (fun _ => ?_))
   exact ⟨Or.inr rfl, .tup [rec0.av, .int .i64 1], by kernel_rfl, by kernel_rfl⟩
def recB (r : Rec) : List UInt8 := Mo mS sS [r.next, r.id, r.parent, r.root, r.size, r.kind, r.frames, r.digest]
theorem eD (r : Rec) : (recB r).length = 64 := Qm rfl rfl (by decide)
theorem Ua (k : Nat) (hk : 1000030 ≤ k) (r : Rec) : FnV (CF k) Lz [r.av] (if r.ok then .tup [.islc false false 1 (BL (recB r)), .int .i64 0] else .tup [.islc false true 0 [], .int .i64 1]) := by
 have hc := Lj (k - 1) (by omega) r
 have hl := Sk (k - 1) (by omega)
 have hm := Zk (k - 1) (by omega) true false mS sS [r.next, r.id, r.parent, r.root, r.size, r.kind, r.frames, r.digest] rfl rfl (by decide) (by decide) (by simp)
 unfold Rec.av at hc ⊢
 refine fnk (by omega) eU rfl ?_
 unfold Rd
 by_cases h : r.ok
 ·rw [if_pos h] at hc ⊢
  repeat' (first
   | refine qS ?_ | refine Mf (hl := by kernel_rfl) ?_ | refine Ag (hc) (fun _ => ?_) (fun _ => ?_) | refine Ad (hc) ?_ | refine Ag (hl) (fun _ => ?_) (fun _ => ?_)
   | refine Ad (hl) ?_ | refine Ag (hm) (fun _ => ?_) (fun _ => ?_) | refine Ad (hm) ?_ | refine qQb ?_ | refine Ab (fun _ => ?_) (fun _ => ?_))
  exact ⟨Or.inr rfl, _, rfl, rfl⟩
 ·rw [if_neg h] at hc ⊢
  repeat' (first
   | refine Ag (hc) (fun _ => ?_) (fun _ => ?_) | refine Ad (hc) ?_ | refine Ag (hl) (fun _ => ?_) (fun _ => ?_) | refine Ad (hl) ?_
   | refine Ag (hm) (fun _ => ?_) (fun _ => ?_) | refine Ad (hm) ?_ | refine qQb ?_ | refine Ab (fun _ => ?_) (fun _ => ?_))
  exact ⟨Or.inr rfl, _, rfl, rfl⟩
def NL (l : List Nat) : List AV := l.map fun n : Nat => AV.int .i64 n
theorem Lb : ∀ l : List Nat, Bq (NL l) = true
 | [] => rfl
 | c :: l => by simp [NL, Bq, AV.norefs]; exact Lb l
theorem Afz (out : Bool) (n : Nat) (H : Heap) (l : List Nat) : (NL l).map (fz out (n + 1) H) = NL l := by
 induction l with
 | nil => rfl
 | cons c l ih =>
  show _ :: List.map _ (NL l) = _
  rw [ih]; cases out <;> rfl
theorem Be (l : List Nat) : (NL l).length = l.length := by simp [NL]
structure Nod where
 level : Nat
 ptr : List Nat
 deriving DecidableEq
def Nod.av (n : Nod) : AV := .agg (.int .i64 n.level :: NL n.ptr)
def nod0 : Nod := ⟨0, [0, 0, 0, 0, 0, 0, 0, 0]⟩
def Nod.ok (n : Nod) : Prop := (n.ptr.all fun p => decide (ptrOk p)) = true ∧ n.level ≤ 2 ∧ (n.ptr.any fun p => decide (p ≠ 0)) = true
instance (n : Nod) : Decidable n.ok := by unfold Nod.ok; infer_instance
theorem nD (k : Nat) (hk : 100 ≤ k) (n : Nod) (hn : n.ptr.length = 8) : FnV (CF k) Ys [n.av] (.int .i64 (if n.ok then 0 else 1)) := by
 obtain ⟨v, l⟩ := n
 simp only at hn
 have hpt := fun n => Uj (k - 1) (by omega) n
 have hnl := Be l
 refine fnk (by omega) oQ rfl ?_
 unfold Wu Nod.av
 simp only
 repeat' (first
  | refine qS ?_ | refine qN ?_
  | refine Mc (.agg (NL l)) rfl rfl rfl rfl (by simp [AV.cells, Be, hn]) (by show AV.agg ((NL l).take 8) = _; rw [Aj (by omega)]) rfl rfl ?_ | refine qQb ?_
  | refine Ab (fun _ => ?_) (fun _ => ?_))
 refine W.mono (Q := fun ex T' H' => (ex = .ret ∧ (l.all fun p => decide (ptrOk p)) = false ∧ T' 2 = .int .i64 1) ∨
   (ex = .exit 0 ∧ (l.all fun p => decide (ptrOk p)) = true ∧ H' 0 = ⟨1, false, .row (l.length + 1) [.agg (.int .i64 v :: NL l)]⟩ ∧ Has T' [(1, .ptr 0 1 1 (l.length + 1) 0 0), (3, .bool (l.any fun p => decide (p ≠ 0)))])) ?_ ?_
 ·refine Fx 8 (fun i T' H' => (l.all fun p => decide (ptrOk p)) = ((l.drop i).all fun p => decide (ptrOk p)) ∧ H' 0 = ⟨1, false, .row (l.length + 1) [.agg (.int .i64 v :: NL l)]⟩ ∧
    Has T' [(1, .ptr 0 1 1 (l.length + 1) 0 0), (3, .bool ((l.take i).any fun p => decide (p ≠ 0))), (7, .agg (NL l)), (8, .int .i64 (i : Nat))]) ⟨by simp, ?_, ?_, rfl, rfl, rfl, trivial⟩ (by omega) ?_
  ·rw [← hnl]; rfl
  ·rw [← hnl]; rfl
  rintro i T H hi ⟨hgo, hH, hT⟩
  rw [hT.eq]
  simp only [over]
  by_cases hil : i < 8
  ·have hil2 : i < l.length := by omega
   rw [Cg hil2, sY] at hgo
   have hg : l.getD i default = l[i] := by simp [hil2]
   have htk : ((l.take (i + 1)).any fun p => decide (p ≠ 0)) = (((l.take i).any fun p => decide (p ≠ 0)) || decide (l[i] ≠ 0)) := by
    rw [Bh hil2, List.any_append]; simp only [List.any_cons, List.any_nil, cA]
   have hp : FnV (CF (k - 1)) Pg [.int .i64 (l.getD i default : Nat)] (.bool (decide (ptrOk l[i]))) := by
    have := hpt (l.getD i default : Nat)
    rw [hg] at this ⊢
    have e : decide ((l[i] : Int) = 0 ∨ 2 ≤ (l[i] : Int) ∧ (l[i] : Int) < 4096) = decide (ptrOk l[i]) := by unfold ptrOk; congr 1; apply propext; omega
    rw [← e]; exact this
   have hq : (l.getD (i : Int).toNat default : Int) = l[i] := Ay (fun n : Nat => (n : Int)) hg
   cases ha : (l.take i).any fun p => decide (p ≠ 0) with
   | true =>
    rw [ha, Bool.true_or] at htk
    repeat' (first | refine qS ?_ | refine qN ?_ | refine Vg hp (fun _ => ?_) (fun _ => ?_) | refine qQb ?_ | refine Ab (fun _ => ?_) (fun _ => ?_))
    ·rename_i h
     exact ⟨hil, by rw [hgo, Az h]; rfl, hH, rfl, by rw [htk]; rfl, rfl, by show AV.int _ _ = AV.int _ _; congr 1, trivial⟩
    ·rename_i h
     exact .inl ⟨rfl, by rw [hgo, Bo h]; rfl, rfl⟩
   | false =>
    rw [ha, Bool.false_or] at htk
    repeat' (first | refine qS ?_ | refine qN ?_ | refine Vg hp (fun _ => ?_) (fun _ => ?_) | refine qQb ?_ | refine Ab (fun _ => ?_) (fun _ => ?_))
    ·rename_i h h2
     simp only [cmpP] at h2
     exact ⟨hil, by rw [hgo, Az h]; rfl, hH, rfl, by rw [htk, Az (by omega)]; rfl, rfl, by show AV.int _ _ = AV.int _ _; congr 1, trivial⟩
    ·rename_i h h2
     simp only [cmpP] at h2
     exact ⟨hil, by rw [hgo, Az h]; rfl, hH, rfl, by rw [htk, Bo (by omega)]; rfl, rfl, by show AV.int _ _ = AV.int _ _; congr 1, trivial⟩
    ·rename_i h
     exact .inl ⟨rfl, by rw [hgo, Bo h]; rfl, rfl⟩
  ·have hi8 : i = 8 := by omega
   repeat' (first | refine qS ?_ | refine qN ?_ | refine qQb ?_ | refine Ab (fun _ => ?_) (fun _ => ?_))
   refine .inr ⟨rfl, ?_, hH, rfl, ?_, trivial⟩
   ·rw [hgo, Bm (by omega)]; rfl
   ·rw [Aj (by omega)]; rfl
 rintro ex T2 H2 (⟨rfl, ha, h2⟩ | ⟨rfl, ha, hH, hT⟩)
 ·refine ⟨Or.inr rfl, _, rfl, ?_⟩
  show fz true 6 H2 (T2 2) = _
  rw [h2, if_neg (by unfold Nod.ok; simp only [ha]; simp)]
  rfl
 ·rw [hT.eq]
  simp only [over]
  show W _ _
  cases hany : l.any fun p => decide (p ≠ 0) with
  | true =>
   by_cases hv : v ≤ 2
   ·rw [if_pos (show Nod.ok ⟨v, l⟩ from ⟨ha, hv, hany⟩)]
    repeat' (first | refine qS ?_ | refine qN ?_ | refine Mc (.int .i64 v) rfl hH rfl rfl (dQ (Eg _)) rfl rfl rfl ?_ | refine qQb ?_ | refine Ab (fun _ => ?_) (fun _ => ?_))
    exact ⟨Or.inr rfl, _, rfl, rfl⟩
   ·rw [if_neg (show ¬ Nod.ok ⟨v, l⟩ from fun h => hv h.2.1)]
    repeat' (first | refine qS ?_ | refine qN ?_ | refine Mc (.int .i64 v) rfl hH rfl rfl (dQ (Eg _)) rfl rfl rfl ?_ | refine qQb ?_ | refine Ab (fun _ => ?_) (fun _ => ?_))
    exact ⟨Or.inr rfl, _, rfl, rfl⟩
  | false =>
   rw [if_neg (show ¬ Nod.ok ⟨v, l⟩ from fun h => by have := h.2.2; rw [hany] at this; cases this)]
   by_cases hv : v ≤ 2
   ·skip
    repeat' (first | refine qS ?_ | refine qN ?_ | refine Mc (.int .i64 v) rfl hH rfl rfl (dQ (Eg _)) rfl rfl rfl ?_ | refine qQb ?_ | refine Ab (fun _ => ?_) (fun _ => ?_))
    exact ⟨Or.inr rfl, _, rfl, rfl⟩
   ·skip
    repeat' (first | refine qS ?_ | refine qN ?_ | refine Mc (.int .i64 v) rfl hH rfl rfl (dQ (Eg _)) rfl rfl rfl ?_ | refine qQb ?_ | refine Ab (fun _ => ?_) (fun _ => ?_))
    exact ⟨Or.inr rfl, _, rfl, rfl⟩
def xE (l : List Int) : Nod := ⟨(l.getD 0 0).toNat, (l.drop 1).map Int.toNat⟩
def Er (b : List UInt8) : Nod × Int :=
 if (Gu b mN sN).2 ≠ 0 then (nod0, (Gu b mN sN).2) else if (xE (Gu b mN sN).1).ok then (xE (Gu b mN sN).1, 0) else (nod0, 1)
theorem Yn (k : Nat) (hk : 1000030 ≤ k) (t f : Bool) (b : List UInt8) (hb : b.length < 1000000) : FnV (CF k) Zm [.islc t f 1 (BL b)] (.tup [(Er b).1.av, .int .i64 (Er b).2]) := by
 have hl := kD (k - 1) (by omega)
 have hr := Ry (k - 1) (by omega) t f b mN sN hb rfl (by decide) (by decide) (by decide)
 refine fnk (by omega) mV rfl ?_
 unfold Wy Er
 by_cases h0 : (Gu b mN sN).2 ≠ 0
 ·rw [if_pos h0]
  repeat' (first | refine Ag (hl) (fun _ => ?_) (fun _ => ?_) | refine Ad (hl) ?_ | refine Ag (hr) (fun _ => ?_) (fun _ => ?_) | refine Ad (hr) ?_ | refine qQb ?_ | refine Ab (fun _ => ?_) (fun _ => ?_))
  exact ⟨Or.inr rfl, .tup [nod0.av, .int .i64 (Gu b mN sN).2], by kernel_rfl, by kernel_rfl⟩
 rw [if_neg h0]
 have h0 := Cw.1 h0
 obtain ⟨ns, hns, hlen⟩ := Ux h0
 rw [h0] at hr
 rw [hns] at hr ⊢
 match ns, hlen with
 | [a0, a1, a2, a3, a4, a5, a6, a7, a8], _ =>
  unfold LI at hr
  simp only [Bc, jA] at hr
  have hs : xE ([a0, a1, a2, a3, a4, a5, a6, a7, a8].map fun n : Nat => (n : Int)) = ⟨a0, [a1, a2, a3, a4, a5, a6, a7, a8]⟩ := rfl
  rw [hs]
  have hc := nD (k - 1) (by omega) ⟨a0, [a1, a2, a3, a4, a5, a6, a7, a8]⟩ rfl
  unfold Nod.av at hc
  by_cases h : Nod.ok ⟨a0, [a1, a2, a3, a4, a5, a6, a7, a8]⟩
  ·rw [if_pos h] at hc ⊢
   repeat' (first
    | refine qS ?_ | refine Ll ?_
    | refine Ic (cs := [.int .i64 a0, .int .i64 0, .int .i64 0, .int .i64 0, .int .i64 0, .int .i64 0, .int .i64 0, .int .i64 0, .int .i64 0]) ?_ (hc := by kernel_rfl)
    | refine lK rfl rfl rfl rfl (by decide) rfl rfl rfl rfl rfl rfl ?_
    | refine Ff (n := 9) rfl (.inl rfl) rfl (by exact Ay some (Eq.refl (1 : Nat))) rfl (by decide) (by decide) rfl rfl ?_
    | refine Zd rfl rfl (.inl rfl) rfl rfl rfl (by decide) rfl rfl rfl ?_ | refine sF rfl rfl rfl rfl (by exact Ce rfl) rfl rfl rfl ?_
    | refine Ag (hl) (fun _ => ?_) (fun _ => ?_) | refine Ad (hl) ?_ | refine Ag (hr) (fun _ => ?_) (fun _ => ?_) | refine Ad (hr) ?_
    | refine Ag (hc) (fun _ => ?_) (fun _ => ?_) | refine Ad (hc) ?_ | refine qQb ?_ | refine Ab (fun _ => ?_) (fun _ => ?_))
   exact ⟨Or.inr rfl, .tup [Nod.av ⟨a0, [a1, a2, a3, a4, a5, a6, a7, a8]⟩, .int .i64 0], by kernel_rfl, by kernel_rfl⟩
  ·rw [if_neg h] at hc ⊢
   repeat' (first
    | refine qS ?_ | refine Ll ?_
    | refine Ic (cs := [.int .i64 a0, .int .i64 0, .int .i64 0, .int .i64 0, .int .i64 0, .int .i64 0, .int .i64 0, .int .i64 0, .int .i64 0]) ?_ (hc := by kernel_rfl)
    | refine lK rfl rfl rfl rfl (by decide) rfl rfl rfl rfl rfl rfl ?_
    | refine Ff (n := 9) rfl (.inl rfl) rfl (by exact Ay some (Eq.refl (1 : Nat))) rfl (by decide) (by decide) rfl rfl ?_
    | refine Zd rfl rfl (.inl rfl) rfl rfl rfl (by decide) rfl rfl rfl ?_ | refine sF rfl rfl rfl rfl (by exact Ce rfl) rfl rfl rfl ?_
    | refine Ag (hl) (fun _ => ?_) (fun _ => ?_) | refine Ad (hl) ?_ | refine Ag (hr) (fun _ => ?_) (fun _ => ?_) | refine Ad (hr) ?_
    | refine Ag (hc) (fun _ => ?_) (fun _ => ?_) | refine Ad (hc) ?_ | refine qQb ?_ | refine Ab (fun _ => ?_) (fun _ => ?_))
   exact ⟨Or.inr rfl, .tup [nod0.av, .int .i64 1], by kernel_rfl, by kernel_rfl⟩
def idxL {α : Type} (p : α → Bool) : List α → Nat → Int
 | [], _ => -1
 | a :: l, i => if p a then i else idxL p l (i + 1)
theorem Uh {α : Type} (p : α → Bool) : ∀ (l : List α) (i : Nat), decide (idxL p l i ≥ 0) = l.any p
 | [], i => by simp [idxL]
 | a :: l, i => by
  simp only [idxL, List.any_cons]
  by_cases h : p a = true
  ·simp [h]
  ·simp only [h, Ap, Bx]
   rw [Uh p l (i + 1)]
   simp [h]
theorem mK {α : Type} (p : α → Bool) : ∀ (l : List α) (i : Nat), idxL p l i ≥ 0 → ∃ j, j < l.length ∧ idxL p l i = (i + j : Nat)
 | [], i, h => by simp [idxL] at h
 | a :: l, i, h => by
  simp only [idxL] at h ⊢
  cases hp : p a with
  | true => exact ⟨0, by simp, by simp⟩
  | false =>
   rw [hp] at h
   simp only [Ap, Bx] at h ⊢
   obtain ⟨j, h1, h2⟩ := mK p l (i + 1) h
   exact ⟨j + 1, by simpa using h1, by rw [h2]; congr 1; omega⟩
theorem gE {α : Type} (p : α → Bool) : ∀ (l : List α) (i : Nat), -1 ≤ idxL p l i ∧ idxL p l i < i + l.length + 1
 | [], i => by simp [idxL]; omega
 | a :: l, i => by
  have := gE p l (i + 1)
  simp only [idxL, As]
  split <;> omega
structure IoV where
 kind : Nat
 at0 : Nat
 data : List UInt8
 t : Bool
 f : Bool
 s : Nat
instance : Inhabited IoV := ⟨⟨0, 0, [], false, true, 0⟩⟩
def IoV.av (x : IoV) : AV := .agg [.int .i64 x.kind, .int .i64 x.at0, .islc x.t x.f x.s (BL x.data)]
def IoV.ok (x : IoV) : Prop := x.s = 1 ∨ x.data = []
theorem Mv {α : Type} [Inhabited α] {l : List α} {i : Nat} (h : i < l.length) : l.drop i = l.getD i default :: l.drop (i + 1) := by
 rw [Cg h]; simp [h]
def nav (n : Nat) : AV := .int .i64 n
theorem Ahb (l : List Nat) : NL l = l.map nav := rfl
theorem Afp (k : Nat) (hk : 1000010 ≤ k) (t f : Bool) (l : List Nat) (v : Nat) (hl : l.length < 1000000) : FnV (CF k) Hm [.islc t f 1 (NL l), .int .i64 v] (.int .i64 (idxL (v == ·) l 0)) := by
 refine fnk (by omega) Jx rfl ?_
 unfold Gl
 rw [Ahb]
 repeat' (first | refine qQb ?_ | refine Ab (fun _ => ?_) (fun _ => ?_))
 refine W.mono (Q := fun ex T' H' => (ex = .ret ∧ T' 4 = .int .i64 (idxL (v == ·) l 0)) ∨ (ex = .exit 0 ∧ idxL (v == ·) l 0 = -1)) ?_ ?_
 ·refine Fx l.length (fun i T' H' => idxL (v == ·) l 0 = idxL (v == ·) (l.drop i) i ∧ Has T' [(0, .islc t f 1 (l.map nav)), (1, .int .i64 v), (7, .int .i64 l.length), (8, .int .i64 (i : Nat))]) ⟨by simp, rfl, rfl, rfl, rfl, trivial⟩ (by omega) ?_
  rintro i T H hi ⟨hgo, hT⟩
  rw [hT.eq]
  simp only [over]
  by_cases hil : i < l.length
  ·rw [Mv hil] at hgo
   simp only [idxL] at hgo
   have hq : ∀ q : Nat, q = l.getD i default → ((l.getD (i : Int).toNat default : Nat) : Int) = q := fun q h => by rw [h]; rfl
   obtain ⟨q, hqd⟩ : ∃ q, q = l.getD i default := ⟨_, rfl⟩
   have hq2 := hq q hqd
   rw [← hqd] at hgo
   by_cases hv : v = q
   ·rw [if_pos (by simp [hv])] at hgo
    repeat' (first | refine qS ?_ | refine Gp (v := .int .i64 q) ?_ (hv := by exact Ay (AV.int .i64) hq2) | refine qQb ?_ | refine Ab (fun _ => ?_) (fun _ => ?_))
    exact .inl ⟨rfl, by rw [hgo]; rfl⟩
   ·rw [if_neg (by simp [hv])] at hgo
    repeat' (first | refine qS ?_ | refine Gp (v := .int .i64 q) ?_ (hv := by exact Ay (AV.int .i64) hq2) | refine qQb ?_ | refine Ab (fun _ => ?_) (fun _ => ?_))
    exact ⟨hil, hgo, rfl, rfl, rfl, by show AV.int _ _ = AV.int _ _; congr 1, trivial⟩
  ·have hin : i = l.length := by omega
   repeat' (first | refine qQb ?_ | refine Ab (fun _ => ?_) (fun _ => ?_))
   refine .inr ⟨rfl, ?_⟩
   rw [hgo, hin, Ik]; rfl
 rintro ex T2 H2 (⟨rfl, h4⟩ | ⟨rfl, h⟩)
 ·exact ⟨Or.inr rfl, _, rfl, by show fz true 6 H2 (T2 4) = _; rw [h4]; rfl⟩
 ·rw [h]
  show W _ _
  repeat' (first | refine qQb ?_ | refine Ab (fun _ => ?_) (fun _ => ?_))
  exact ⟨Or.inr rfl, _, rfl, rfl⟩
theorem Ri (k : Nat) (hk : 1000011 ≤ k) (t f : Bool) (l : List Nat) (v : Nat) (hl : l.length < 1000000) : FnV (CF k) Cm [.islc t f 1 (NL l), .int .i64 v] (.bool (l.any (v == ·))) := by
 have hi := Afp (k - 1) (by omega) t f l v hl
 rw [← Uh _ l 0]
 refine fnk (by omega) Ja rfl ?_
 unfold Fo
 repeat' (first | refine Ag (hi) (fun _ => ?_) (fun _ => ?_) | refine Ad (hi) ?_ | refine qQb ?_ | refine Ab (fun _ => ?_) (fun _ => ?_))
 all_goals
  refine ⟨Or.inr rfl, _, rfl, ?_⟩
  rename_i h
  simp only [cmpP] at h
  first
   | (rw [Az h]; rfl)
   | (rw [Bo h]; rfl)
theorem nB (k : Nat) (hk : 1000010 ≤ k) (t f : Bool) (l : List Nat) (fn : Nat) (caps : List AV) (p : Nat → Bool) (hl : l.length < 1000000) (hz : ∀ a H, (nav a :: caps).map (fz false deep H) = nav a :: caps)
  (hp : ∀ i, i < l.length → FnV (CF (k - 1)) fn (nav (l.getD i default) :: caps) (.bool (p (l.getD i default)))) : FnV (CF k) Gi [.islc t f 1 (l.map nav), .fn fn caps] (.int .i64 (idxL p l 0)) := by
 refine fnk (by omega) Il rfl ?_
 unfold Fg
 repeat' (first | refine qQb ?_ | refine Ab (fun _ => ?_) (fun _ => ?_))
 refine W.mono (Q := fun ex T' H' => (ex = .ret ∧ T' 4 = .int .i64 (idxL p l 0)) ∨ (ex = .exit 0 ∧ idxL p l 0 = -1)) ?_ ?_
 ·refine Fx l.length (fun i T' H' => idxL p l 0 = idxL p (l.drop i) i ∧ Has T' [(0, .islc t f 1 (l.map nav)), (1, .fn fn caps), (7, .int .i64 l.length), (8, .int .i64 (i : Nat))]) ⟨by simp, rfl, rfl, rfl, rfl, trivial⟩ (by omega) ?_
  rintro i T H hi ⟨hgo, hT⟩
  rw [hT.eq]
  simp only [over]
  by_cases hil : i < l.length
  ·rw [Mv hil] at hgo
   simp only [idxL] at hgo
   have hpi := hp i hil
   cases hb : p (l.getD i default) with
   | true =>
    rw [hb] at hgo hpi
    repeat' (first | refine qS ?_ | refine Gp (v := nav (l.getD i default)) ?_ (hv := by rfl) | refine Vd hpi ?_ (ha := by exact hz _ _) | refine qQb ?_ | refine Ab (fun _ => ?_) (fun _ => ?_))
    exact .inl ⟨rfl, by rw [hgo]; rfl⟩
   | false =>
    rw [hb] at hgo hpi
    repeat' (first | refine qS ?_ | refine Gp (v := nav (l.getD i default)) ?_ (hv := by rfl) | refine Vd hpi ?_ (ha := by exact hz _ _) | refine qQb ?_ | refine Ab (fun _ => ?_) (fun _ => ?_))
    exact ⟨hil, hgo, rfl, rfl, rfl, by show AV.int _ _ = AV.int _ _; congr 1, trivial⟩
  ·have hin : i = l.length := by omega
   repeat' (first | refine qQb ?_ | refine Ab (fun _ => ?_) (fun _ => ?_))
   refine .inr ⟨rfl, ?_⟩
   rw [hgo, hin, Ik]; rfl
 rintro ex T2 H2 (⟨rfl, h4⟩ | ⟨rfl, h⟩)
 ·exact ⟨Or.inr rfl, _, rfl, by show fz true 6 H2 (T2 4) = _; rw [h4]; rfl⟩
 ·rw [h]
  show W _ _
  repeat' (first | refine qQb ?_ | refine Ab (fun _ => ?_) (fun _ => ?_))
  exact ⟨Or.inr rfl, _, rfl, rfl⟩
theorem Kl (k : Nat) (hk : 1000011 ≤ k) (t f : Bool) (l : List Nat) (fn : Nat) (caps : List AV) (p : Nat → Bool) (hl : l.length < 1000000) (hcz : ∀ H, caps.map (fz false 5 H) = caps) (hz : ∀ a H, (nav a :: caps).map (fz false deep H) = nav a :: caps)
  (hp : ∀ i, i < l.length → FnV (CF (k - 2)) fn (nav (l.getD i default) :: caps) (.bool (p (l.getD i default)))) : FnV (CF k) Ed [.islc t f 1 (l.map nav), .fn fn caps] (.bool (l.any p)) := by
 have hi := nB (k - 1) (by omega) t f l fn caps p hl hz (by rw [Adz]; exact hp)
 rw [← Uh _ l 0]
 refine fnk (by omega) Hr rfl ?_
 unfold Eo
 repeat' (first | refine qS ?_ | refine Ad hi ?_ rfl (by show [_, AV.fn fn (caps.map (fz false 5 _))] = _; rw [hcz]; rfl) | refine qQb ?_ | refine Ab (fun _ => ?_) (fun _ => ?_))
 all_goals
  refine ⟨Or.inr rfl, _, rfl, ?_⟩
  rename_i h
  simp only [cmpP] at h
  first
   | (rw [Az h]; rfl)
   | (rw [Bo h]; rfl)
theorem Yy (k : Nat) (hk : 1000010 ≤ k) (t f : Bool) (l : List Rec) (fn : Nat) (caps : List AV) (p : Rec → Bool) (hl : l.length < 1000000) (hz : ∀ a H, (Rec.av a :: caps).map (fz false deep H) = Rec.av a :: caps)
  (hp : ∀ i, i < l.length → FnV (CF (k - 1)) fn (Rec.av (l.getD i default) :: caps) (.bool (p (l.getD i default)))) : FnV (CF k) Cy [.islc t f 8 (l.map Rec.av), .fn fn caps] (.int .i64 (idxL p l 0)) := by
 refine fnk (by omega) Fi rfl ?_
 unfold Df
 repeat' (first | refine qQb ?_ | refine Ab (fun _ => ?_) (fun _ => ?_))
 refine W.mono (Q := fun ex T' H' => (ex = .ret ∧ T' 4 = .int .i64 (idxL p l 0)) ∨ (ex = .exit 0 ∧ idxL p l 0 = -1)) ?_ ?_
 ·refine Fx l.length (fun i T' H' => idxL p l 0 = idxL p (l.drop i) i ∧ Has T' [(0, .islc t f 8 (l.map Rec.av)), (1, .fn fn caps), (7, .int .i64 l.length), (8, .int .i64 (i : Nat))]) ⟨by simp, rfl, rfl, rfl, rfl, trivial⟩ (by omega) ?_
  rintro i T H hi ⟨hgo, hT⟩
  rw [hT.eq]
  simp only [over]
  by_cases hil : i < l.length
  ·rw [Mv hil] at hgo
   simp only [idxL] at hgo
   have hpi := hp i hil
   cases hb : p (l.getD i default) with
   | true =>
    rw [hb] at hgo hpi
    repeat' (first | refine qS ?_ | refine Gp (v := Rec.av (l.getD i default)) ?_ (hv := by rfl) | refine Vd hpi ?_ (ha := by exact hz _ _) | refine qQb ?_ | refine Ab (fun _ => ?_) (fun _ => ?_))
    exact .inl ⟨rfl, by rw [hgo]; rfl⟩
   | false =>
    rw [hb] at hgo hpi
    repeat' (first | refine qS ?_ | refine Gp (v := Rec.av (l.getD i default)) ?_ (hv := by rfl) | refine Vd hpi ?_ (ha := by exact hz _ _) | refine qQb ?_ | refine Ab (fun _ => ?_) (fun _ => ?_))
    exact ⟨hil, hgo, rfl, rfl, rfl, by show AV.int _ _ = AV.int _ _; congr 1, trivial⟩
  ·have hin : i = l.length := by omega
   repeat' (first | refine qQb ?_ | refine Ab (fun _ => ?_) (fun _ => ?_))
   refine .inr ⟨rfl, ?_⟩
   rw [hgo, hin, Ik]; rfl
 rintro ex T2 H2 (⟨rfl, h4⟩ | ⟨rfl, h⟩)
 ·exact ⟨Or.inr rfl, _, rfl, by show fz true 6 H2 (T2 4) = _; rw [h4]; rfl⟩
 ·rw [h]
  show W _ _
  repeat' (first | refine qQb ?_ | refine Ab (fun _ => ?_) (fun _ => ?_))
  exact ⟨Or.inr rfl, _, rfl, rfl⟩
theorem Nv (k : Nat) (hk : 1000011 ≤ k) (t f : Bool) (l : List Rec) (fn : Nat) (caps : List AV) (p : Rec → Bool) (hl : l.length < 1000000) (hcz : ∀ H, caps.map (fz false 5 H) = caps) (hz : ∀ a H, (Rec.av a :: caps).map (fz false deep H) = Rec.av a :: caps)
  (hp : ∀ i, i < l.length → FnV (CF (k - 2)) fn (Rec.av (l.getD i default) :: caps) (.bool (p (l.getD i default)))) : FnV (CF k) Bs [.islc t f 8 (l.map Rec.av), .fn fn caps] (.bool (l.any p)) := by
 have hi := Yy (k - 1) (by omega) t f l fn caps p hl hz (by rw [Adz]; exact hp)
 rw [← Uh _ l 0]
 refine fnk (by omega) Fc rfl ?_
 unfold Cu
 repeat' (first | refine qS ?_ | refine Ad hi ?_ rfl (by show [_, AV.fn fn (caps.map (fz false 5 _))] = _; rw [hcz]; rfl) | refine qQb ?_ | refine Ab (fun _ => ?_) (fun _ => ?_))
 all_goals
  refine ⟨Or.inr rfl, _, rfl, ?_⟩
  rename_i h
  simp only [cmpP] at h
  first
   | (rw [Az h]; rfl)
   | (rw [Bo h]; rfl)
theorem pE (k : Nat) (hk : 1000010 ≤ k) (t f : Bool) (l : List IoV) (fn : Nat) (caps : List AV) (p : IoV → Bool) (hl : l.length < 1000000) (hz : ∀ a H, (IoV.av a :: caps).map (fz false deep H) = IoV.av a :: caps)
  (hp : ∀ i, i < l.length → FnV (CF (k - 1)) fn (IoV.av (l.getD i default) :: caps) (.bool (p (l.getD i default)))) : FnV (CF k) Fa [.islc t f 3 (l.map IoV.av), .fn fn caps] (.int .i64 (idxL p l 0)) := by
 refine fnk (by omega) Ha rfl ?_
 unfold Dw
 repeat' (first | refine qQb ?_ | refine Ab (fun _ => ?_) (fun _ => ?_))
 refine W.mono (Q := fun ex T' H' => (ex = .ret ∧ T' 4 = .int .i64 (idxL p l 0)) ∨ (ex = .exit 0 ∧ idxL p l 0 = -1)) ?_ ?_
 ·refine Fx l.length (fun i T' H' => idxL p l 0 = idxL p (l.drop i) i ∧ Has T' [(0, .islc t f 3 (l.map IoV.av)), (1, .fn fn caps), (7, .int .i64 l.length), (8, .int .i64 (i : Nat))]) ⟨by simp, rfl, rfl, rfl, rfl, trivial⟩ (by omega) ?_
  rintro i T H hi ⟨hgo, hT⟩
  rw [hT.eq]
  simp only [over]
  by_cases hil : i < l.length
  ·rw [Mv hil] at hgo
   simp only [idxL] at hgo
   have hpi := hp i hil
   cases hb : p (l.getD i default) with
   | true =>
    rw [hb] at hgo hpi
    repeat' (first | refine qS ?_ | refine Gp (v := IoV.av (l.getD i default)) ?_ (hv := by rfl) | refine Vd hpi ?_ (ha := by exact hz _ _) | refine qQb ?_ | refine Ab (fun _ => ?_) (fun _ => ?_))
    exact .inl ⟨rfl, by rw [hgo]; rfl⟩
   | false =>
    rw [hb] at hgo hpi
    repeat' (first | refine qS ?_ | refine Gp (v := IoV.av (l.getD i default)) ?_ (hv := by rfl) | refine Vd hpi ?_ (ha := by exact hz _ _) | refine qQb ?_ | refine Ab (fun _ => ?_) (fun _ => ?_))
    exact ⟨hil, hgo, rfl, rfl, rfl, by show AV.int _ _ = AV.int _ _; congr 1, trivial⟩
  ·have hin : i = l.length := by omega
   repeat' (first | refine qQb ?_ | refine Ab (fun _ => ?_) (fun _ => ?_))
   refine .inr ⟨rfl, ?_⟩
   rw [hgo, hin, Ik]; rfl
 rintro ex T2 H2 (⟨rfl, h4⟩ | ⟨rfl, h⟩)
 ·exact ⟨Or.inr rfl, _, rfl, by show fz true 6 H2 (T2 4) = _; rw [h4]; rfl⟩
 ·rw [h]
  show W _ _
  repeat' (first | refine qQb ?_ | refine Ab (fun _ => ?_) (fun _ => ?_))
  exact ⟨Or.inr rfl, _, rfl, rfl⟩
theorem Sh (k : Nat) (hk : 1000011 ≤ k) (t f : Bool) (l : List IoV) (fn : Nat) (caps : List AV) (p : IoV → Bool) (hl : l.length < 1000000) (hcz : ∀ H, caps.map (fz false 5 H) = caps) (hz : ∀ a H, (IoV.av a :: caps).map (fz false deep H) = IoV.av a :: caps)
  (hp : ∀ i, i < l.length → FnV (CF (k - 2)) fn (IoV.av (l.getD i default) :: caps) (.bool (p (l.getD i default)))) : FnV (CF k) Cs [.islc t f 3 (l.map IoV.av), .fn fn caps] (.bool (l.any p)) := by
 have hi := pE (k - 1) (by omega) t f l fn caps p hl hz (by rw [Adz]; exact hp)
 rw [← Uh _ l 0]
 refine fnk (by omega) Gk rfl ?_
 unfold Dp
 repeat' (first | refine qS ?_ | refine Ad hi ?_ rfl (by show [_, AV.fn fn (caps.map (fz false 5 _))] = _; rw [hcz]; rfl) | refine qQb ?_ | refine Ab (fun _ => ?_) (fun _ => ?_))
 all_goals
  refine ⟨Or.inr rfl, _, rfl, ?_⟩
  rename_i h
  simp only [cmpP] at h
  first
   | (rw [Az h]; rfl)
   | (rw [Bo h]; rfl)
end Go.Proofs.Ytkaiiopoilpjeaa
