/- Lemmas. -/
import Derived.Test.YtkaiiopoilpjeaaGreatMJ7
import Derived.Test.YtkaiiopoilpjeaaGreatMF3
import Derived.Test.YtkaiiopoilpjeaaGreatMF
import Derived.Test.YtkaiiopoilpjeaaGreatMD2
set_option linter.unusedSimpArgs false
set_option linter.unusedVariables false
set_option maxRecDepth 10000
set_option maxHeartbeats 16000000
namespace Go.Proofs.YtkaiiopoilpjeaaGreat
open Go.AI
attribute [local irreducible] aops Br Cp Dp aop W WO
theorem rX : ∀ l : List UInt8, Xw (BL l) = true
 | [] => rfl
 | a :: l => rX l
theorem zZ {k : Nat} (hk : 1000000 ≤ k) {H : Heap} {T : Tmps} {s : St} (hs : StAt H s) {t f : Bool} (d : List UInt8) (hd : d.length < 100000) (frm n : Nat) (hn : frm + n ≤ 512) (hdn : d.length = 64 * n) (hT : Has T [(0, .ptr 2 1 1 3 0 0), (1, .int .i64 frm), (2, .islc t f 1 (BL d)), (9, .int .i64 n), (10, .int .i64 0)]) :
  W (Br (CF k) noX 3 k (.loop Pp) T H) (fun ex T' H' => ex = .exit 0 ∧ StAt H' (s.write frm d n)) := by
 refine Fj n (fun i T' H' => StAt H' (s.write frm d i) ∧ Has T' [(0, .ptr 2 1 1 3 0 0), (1, .int .i64 frm), (2, .islc t f 1 (BL d)), (9, .int .i64 n), (10, .int .i64 (i : Nat))]) ⟨hs, hT⟩ (by omega) ?_
 clear hs hT
 rintro i T H2 hi ⟨hs, hT⟩
 rw [hT.eq]
 simp only [over]
 unfold Pp
 by_cases hlt : i < n
 ·have hp := Auo k (by omega) 3 hs (frm + i) 0 (by omega)
  have e1 : (frm : Int) + (i : Int) = ((frm + i : Nat) : Int) := by omega
  have hof := Th k (by omega) false f d i (by omega) (by omega) 3 Heap.none
  have hbl : (BL (blk d i)).length = 64 := by rw [BL_length]; unfold blk; rw [Bc, Ba]; omega
  have hcl := Abg k (by omega) t (f && decide (64 * (i + 1) = d.length)) (BL (blk d i)) (Lz _) (fun q H => Aim true q H _) (by omega)
  repeat' (first | refine qS ?_ | (rw [e1]) | refine Er hp rfl rfl rfl (fun u H3 hR => ?_) | refine qQb ?_ | fail)
  obtain ⟨⟨h0, h1, h2, hl⟩, rfl⟩ := hR
  repeat' (first
   | refine qS ?_ | (rw [e1]) | refine Be ?_ (hr := by exact h2) | refine Aqb rfl rfl (rX d) hof (rX _) rfl rfl ?_ | refine Ae hcl ?_
   | refine Alv rfl rfl rfl (by exact h1) rfl rfl rfl rfl rfl ?_ | refine qQb ?_ | fail)
  refine ⟨hlt, ⟨h0, ?_, h2, hl⟩, rfl, rfl, rfl, rfl, by show AV.int _ _ = AV.int _ _; congr 1, trivial⟩
  show (⟨1, false, .map (Pi ((frm + i : Nat) : Int) (encB (blk d i)) (nwE _))⟩ : Blk) = _
  rw [Ajp]; rfl
 ·have hin : i = n := by omega
  subst hin
  repeat' (first | refine qQb ?_ | fail)
  exact ⟨rfl, hs⟩
theorem Alg (k : Nat) (hk : 1000001 ≤ k) {H : Heap} {s : St} (hs : StAt H s) (t f : Bool) (d : List UInt8) (hd : d.length < 100000) (frm n : Nat) (hn : frm + n ≤ 512) (hdn : d.length = 64 * n) :
  ∃ u H', CF k Qh 3 [.ptr 2 1 1 3 0 0, .int .i64 frm, .islc t f 1 (BL d)] H = some (u, H') ∧ (StAt H' (s.write frm d n) ∧ u = .tup []) := by
 have hml : (BL d).length = d.length := by simp
 have e1 : Int.tdiv (d.length : Int) 64 = (n : Int) := by rw [hdn]; show ((64 * n / 64 : Nat) : Int) = _; omega
 have e2 : (d.length : Int) / 64 = (n : Int) := by omega
 refine fni (by omega) Yv rfl ?_
 unfold __head_Stage__Write
 repeat' (first | refine qS ?_ | refine Bh (n := d.length) rfl hml rfl rfl ?_ | (rw [e1]) | (rw [e2]) | refine qQ ?_ | refine Ac (fun _ => ?_) (fun _ => ?_))
 refine W.mono (zZ (k := k - 1) (t := t) (f := f) (by omega) hs d hd frm n hn hdn ⟨rfl, rfl, rfl, ?_, rfl, trivial⟩) ?_
 ·show AV.int _ _ = AV.int _ _
  congr 1
 rintro ex T2 H2 ⟨rfl, hS⟩
 exact ⟨Or.inl rfl, _, rfl, hS, rfl⟩
end Go.Proofs.YtkaiiopoilpjeaaGreat
set_option maxRecDepth 10000
set_option maxHeartbeats 16000000
namespace Go.Proofs.YtkaiiopoilpjeaaGreat
open Go.AI
def hdoP (l : List UInt8) (chk : Img → Nat) (st : Img → St) : Except Nat (List IoV) := match lookQ l with
 | .error (_, e) => .error e
 | .ok x => if chk x ≠ 0 then .error (chk x) else Ky l x (st x)
def Agr (frm count : Int) (x : Img) : St := (Dh x).zero frm.toNat count.toNat
def Ki (size : Int) (x : Img) : St := { (Dh x).zero size.toNat (512 - size.toNat) with size := size.toNat }
def Sv (frm : Int) (d : List UInt8) (x : Img) : St := (Dh x).write frm.toNat d (d.length / 64)
def Su (frm : Int) (d : List UInt8) (x : Img) : Nat := if d.length % 64 ≠ 0 then 1 else mayE frm (d.length / 64 : Nat) 1 x.sup.size
def Rp (size : Int) (x : Img) : Nat := if size < 0 ∨ size > 512 then 1 else 0
def Axb (l : List UInt8) (frm count : Int) := hdoP l (fun x => mayE frm count 1 x.sup.size) (Agr frm count)
def gR (l : List UInt8) (size : Int) := hdoP l (Rp size) (Ki size)
def nU (l : List UInt8) (frm : Int) (d : List UInt8) := hdoP l (Su frm d) (Sv frm d)
theorem Atd {frm count least : Int} {size : Nat} (h : mayE frm count least size = 0) (hs : size ≤ 512) (hl : 0 ≤ least) : ∃ a n : Nat, frm = a ∧ count = n ∧ a + n ≤ size ∧ a + n ≤ 512 := by
 unfold mayE at h
 split at h
 ·omega
 ·split at h
  ·omega
  ·rename_i h1 h2
   have h2 : Ws frm count size := He fun hh => h2 hh
   unfold Ws at h2
   exact ⟨frm.toNat, count.toNat, by omega, by omega, by omega, by omega⟩
section
variable {l : List UInt8} {x : Img}
theorem dY (hl : l.length < 1000000) (h : lookQ l = .ok x) : Dev l ∧ x.fit l ∧ StOk (Ee x) (Dh x) ∧ x.sup.size ≤ 512 ∧ ∀ s, StOk (Ee x) s → MakeH l x s := by
 obtain ⟨hd, hI⟩ := (Mb hl).1 h
 have hx := (Oa hl h).2
 have hsz := hx.sup.2.2.1
 obtain ⟨w, ws, ht, hg, _, _⟩ := Hm hI
 have hw : Ee x = w := by unfold Ee; rw [ht]; rfl
 have hm : (Dh x).m = w.m := by unfold Dh; rw [ht]; rfl
 have hlk := (Ot hd).2 hI
 refine ⟨hd, hx, ⟨by rw [hm]; exact (Zl hg).1, fun a ha => .inr (by rw [hw]; rw [hm] at ha; exact ha), by simp [Dh], by simp [Dh], by simp [Dh], hsz⟩, hsz, fun s hs => Aus hd hlk hs⟩
end
attribute [local irreducible] aops Br Cp Dp aop W WO
end Go.Proofs.YtkaiiopoilpjeaaGreat
set_option maxRecDepth 10000
set_option maxHeartbeats 16000000
namespace Go.Proofs.YtkaiiopoilpjeaaGreat
open Go.AI
attribute [local irreducible] aops Br Cp Dp aop W WO
theorem Aki (k : Nat) (hk : 1000210 ≤ k) (f : Bool) (l : List UInt8) (hl : l.length < 1000000) (size : Int) : FnV (CF k) cY [.islc false f 1 (BL l), .int .i64 size] (dG (gR l size)) := by
 refine fnk (by omega) uC rfl ?_
 unfold Zk gR hdoP
 cases h : lookQ l with
 | error p =>
  obtain ⟨a, e⟩ := p
  have hlk := mR (k - 1) (by omega) f l hl h
  have he := Nb h
  have he0 : (e : Int) ≠ 0 := by omega
  simp only
  repeat' (first | refine qS ?_ | refine qN ?_ | refine Er hlk rfl rfl rfl (fun u H3 hR => ?_) | (obtain rfl := hR) | refine qQb ?_ | fail)
  exact ⟨Or.inr rfl, _, rfl, rfl⟩
 | ok x =>
  have hlk := Aiu (k - 1) (by omega) f l hl h
  obtain ⟨hd, hx, hS0, hsz, hM⟩ := dY hl h
  simp only
  by_cases h1 : size < 0
  ·have hE : Rp size x = 1 := by unfold Rp; rw [if_pos (.inl h1)]
   rw [hE, if_pos (by decide)]
   repeat' (first | refine qS ?_ | refine qN ?_ | refine Er hlk rfl rfl rfl (fun u H3 hR => ?_) | (obtain ⟨hS, rfl⟩ := hR) | refine qQb ?_ | fail)
   exact ⟨Or.inr rfl, _, rfl, rfl⟩
  by_cases h2 : size > 512
  ·have hE : Rp size x = 1 := by unfold Rp; rw [if_pos (.inr h2)]
   rw [hE, if_pos (by decide)]
   repeat' (first | refine qS ?_ | refine qN ?_ | refine Er hlk rfl rfl rfl (fun u H3 hR => ?_) | (obtain ⟨hS, rfl⟩ := hR) | refine qQb ?_ | fail)
   exact ⟨Or.inr rfl, _, rfl, rfl⟩
  have hE : Rp size x = 0 := by unfold Rp; rw [if_neg (fun hh => hh.elim h1 h2)]
  rw [hE, if_neg (fun hh => hh rfl)]
  obtain ⟨z, rfl⟩ : ∃ z : Nat, size = z := ⟨size.toNat, by omega⟩
  have hz : z ≤ 512 := by omega
  have hst := fun H (hs : StAt H (Dh x)) => Afp (k - 1) (by omega) hs z hz
  have hmk := fun H (hs : StAt H (Ki z x)) => Ajt (k - 1) (by omega) hs (f := f) hx (hM _ ((hS0.zero _ _).sized hz))
  obtain ⟨uf, us, ues, ue, hut⟩ := bQ (Ky l x (Ki z x))
  rw [hut] at hmk ⊢
  repeat' (first
   | refine qS ?_ | refine qN ?_ | refine Er hlk rfl rfl rfl (fun u H3 hR => ?_) | (obtain ⟨hS, rfl⟩ := hR) | refine Er (hst _ hS) rfl rfl rfl (fun u H4 hR => ?_)
   | refine Er (hmk _ hS) rfl rfl rfl (fun u H5 hR => ?_) | (obtain rfl := hR) | refine qQb ?_ | fail)
  exact ⟨Or.inr rfl, _, rfl, rfl⟩
theorem Aqy (k : Nat) (hk : 1000210 ≤ k) (f : Bool) (l : List UInt8) (hl : l.length < 1000000) (frm : Int) (t f2 : Bool) (s : Nat) (d : List UInt8) (hs : s = 1 ∨ d = []) (hdl : d.length < 100000) : FnV (CF k) Ww [.islc false f 1 (BL l), .int .i64 frm, .islc t f2 s (BL d)] (dG (nU l frm d)) := by
 refine fnk (by omega) yV rfl ?_
 unfold eV nU hdoP
 cases h : lookQ l with
 | error p =>
  obtain ⟨a, e⟩ := p
  have hlk := mR (k - 1) (by omega) f l hl h
  have he := Nb h
  have he0 : (e : Int) ≠ 0 := by omega
  simp only
  repeat' (first | refine qS ?_ | refine Er hlk rfl rfl rfl (fun u H3 hR => ?_) | (obtain rfl := hR) | refine qQb ?_ | fail)
  exact ⟨Or.inr rfl, _, rfl, rfl⟩
 | ok x =>
  have hlk := Aiu (k - 1) (by omega) f l hl h
  obtain ⟨hd, hx, hS0, hsz, hM⟩ := dY hl h
  have hwh := Asc (k - 1) (by omega) t f2 s frm d x.sup.size (by omega) (by omega)
  simp only
  by_cases hm : d.length % 64 = 0
  ·rw [if_neg (fun hh => hh hm)] at hwh
   have hE : Su frm d x = mayE frm (d.length / 64 : Nat) 1 x.sup.size := by unfold Su; rw [if_neg (fun hh => hh hm)]
   rw [hE]
   by_cases hc : mayE frm (d.length / 64 : Nat) 1 x.sup.size = 0
   ·rw [if_neg (fun hh => hh hc)]
    rw [hc] at hwh
    obtain ⟨a, n, rfl, hn, h1, h2⟩ := Atd hc hsz (by decide)
    have hn : d.length / 64 = n := by omega
    have hdn : d.length = 64 * n := by omega
    have hn1 : 1 ≤ n := by
     unfold mayE at hc
     split at hc
     ·omega
     ·rename_i hh; omega
    obtain rfl : s = 1 := hs.resolve_right (by rintro rfl; simp at hdn; omega)
    have hst := fun H (hs : StAt H (Dh x)) => Alg (k - 1) (by omega) hs t f2 d hdl a n h2 hdn
    have hwS : Sv a d x = (Dh x).write a d n := by unfold Sv; rw [hn]; rfl
    have hmk := fun H (hs : StAt H ((Dh x).write a d n)) => Ajt (k - 1) (by omega) hs (f := f) hx (hM _ (hS0.write a n h2 (by omega)))
    rw [hwS]
    obtain ⟨uf, us, ues, ue, hut⟩ := bQ (Ky l x ((Dh x).write a d n))
    rw [hut] at hmk ⊢
    repeat' (first
     | refine qS ?_ | refine Er hlk rfl rfl rfl (fun u H3 hR => ?_) | (obtain ⟨⟨h0, h1, h2, hl⟩, rfl⟩ := hR) | refine Be ?_ (hr := by exact h2) | refine Ae hwh ?_
     | refine Er (hst _ ⟨h0, h1, h2, hl⟩) rfl rfl rfl (fun u H4 hR => ?_) | refine Er (hmk _ ⟨h0, h1, h2, hl⟩) rfl rfl rfl (fun u H5 hR => ?_) | (obtain rfl := hR)
     | refine qQb ?_ | fail)
    exact ⟨Or.inr rfl, _, rfl, rfl⟩
   ·rw [if_pos hc]
    have hc' : (mayE frm (d.length / 64 : Nat) 1 x.sup.size : Int) ≠ 0 := by omega
    generalize mayE frm (d.length / 64 : Nat) 1 x.sup.size = e at *
    repeat' (first | refine qS ?_ | refine Er hlk rfl rfl rfl (fun u H3 hR => ?_) | (obtain ⟨⟨h0, h1, h2, hl⟩, rfl⟩ := hR) | refine Be ?_ (hr := by exact h2) | refine Ae hwh ?_ | refine qQb ?_ | fail)
    exact ⟨Or.inr rfl, _, rfl, rfl⟩
  ·rw [if_pos hm] at hwh
   have hE : Su frm d x = 1 := by unfold Su; rw [if_pos hm]
   rw [hE, if_pos (by decide)]
   repeat' (first | refine qS ?_ | refine Er hlk rfl rfl rfl (fun u H3 hR => ?_) | (obtain ⟨⟨h0, h1, h2, hl⟩, rfl⟩ := hR) | refine Be ?_ (hr := by exact h2) | refine Ae hwh ?_ | refine qQb ?_ | fail)
   exact ⟨Or.inr rfl, _, rfl, rfl⟩
end Go.Proofs.YtkaiiopoilpjeaaGreat
set_option maxRecDepth 10000
namespace Go.Proofs.YtkaiiopoilpjeaaGreat
open Go.AI
structure StIn (s : St) : Prop where
 zero : ∀ i, s.size ≤ i → s.m.getD i 0 = 0
 keys : ∀ p ∈ s.nw, p.1 < s.size
theorem beyond_iff {m : List Nat} {n : Nat} : Mz m n = false ↔ ∀ i, n ≤ i → m.getD i 0 = 0 := by
 unfold Mz
 rw [any_zeros]
 constructor
 ·intro h i hi
  by_cases hl : i < m.length
  ·rw [Af, Aa hl]
   refine h _ ?_
   rw [List.mem_iff_getElem]
   exact ⟨i - n, by rw [Ba]; omega, by rw [Qg]; simp [show n + (i - n) = i by omega]⟩
  ·rw [Af, Dt (by omega)]; rfl
 ·intro h b hb
  obtain ⟨j, hj, rfl⟩ := List.getElem_of_mem hb
  rw [Ba] at hj
  have := h (n + j) (by omega)
  rw [Af, Aa (by omega)] at this
  rw [Qg]
  exact this
theorem Qw (m : List Nat) (i j a : Nat) : (m.set i a).getD j 0 = if j = i ∧ i < m.length then a else m.getD j 0 := by
 rw [Af, List.getElem?_set]
 by_cases h : i = j
 ·subst h
  rw [if_pos rfl]
  by_cases hl : i < m.length
  ·rw [if_pos hl, if_pos ⟨rfl, hl⟩]; rfl
  ·rw [if_neg hl, if_neg (fun hh => hl hh.2), Af, Dt (by omega)]
 ·rw [if_neg h, if_neg (fun hh => h hh.1.symm), Af]
section
variable {s : St}
theorem StIn.put (h : StIn s) {i a : Nat} (hi : i < s.size) : StIn (s.put i a) :=
 ⟨fun j hj => by
  show (s.m.set i a).getD j 0 = 0
  have hj : s.size ≤ j := hj
  rw [Qw, if_neg (by omega)]; exact h.zero j hj, fun p hp => h.keys p (fP hp)⟩
theorem fD (s : St) (frm : Nat) (d : List UInt8) : ∀ n, (s.write frm d n).size = s.size
 | 0 => rfl
 | n + 1 => fD s frm d n
theorem Abp {k : Nat} {v : List UInt8} : ∀ {l : List (Nat × List UInt8)} {p : Nat × List UInt8}, p ∈ nSet k v l → p.1 = k ∨ p ∈ l
 | [], p, h => by simp [nSet] at h; exact .inl (by rw [h])
 | (a, u) :: r, p, h => by
  unfold nSet at h
  split at h
  ·rename_i he
   rcases Ap.1 h with h | h
   ·exact .inl (by rw [h, he])
   ·exact .inr (Bu _ h)
  ·rcases Ap.1 h with h | h
   ·exact .inr (by rw [h]; simp)
   ·exact (Abp h).imp id fun h => Bu _ h
theorem StIn.write (h : StIn s) (frm : Nat) (d : List UInt8) : ∀ n, frm + n ≤ s.size → StIn (s.write frm d n)
 | 0, _ => h
 | n + 1, hn => by
  have hp := (h.write frm d n (by omega)).put (i := frm + n) (a := 0) (by rw [fD]; omega)
  refine ⟨hp.zero, fun p hpp => ?_⟩
  rcases Abp hpp with he | hm
  ·rw [he]; show frm + n < (s.write frm d n).size; rw [fD]; omega
  ·exact hp.keys p hm
theorem gW (s : St) (hl : s.m.length = 512) (frm : Nat) : ∀ n j, frm + n ≤ 512 → (s.zero frm n).m.length = 512 ∧ (s.zero frm n).m.getD j 0 = if frm ≤ j ∧ j < frm + n then 0 else s.m.getD j 0
 | 0, j, _ => ⟨hl, by rw [if_neg (by omega)]; rfl⟩
 | n + 1, j, hn => by
  obtain ⟨h1, h2⟩ := gW s hl frm n j (by omega)
  refine ⟨by show ((s.zero frm n).m.set (frm + n) 0).length = 512; rw [El]; exact h1, ?_⟩
  show ((s.zero frm n).m.set (frm + n) 0).getD j 0 = _
  rw [Qw, h1, h2]
  by_cases hj : j = frm + n
  ·rw [if_pos ⟨hj, by omega⟩, if_pos ⟨by omega, by omega⟩]
  ·rw [if_neg (fun hh => hj hh.1)]
   by_cases hk : frm ≤ j ∧ j < frm + n
   ·rw [if_pos hk, if_pos ⟨hk.1, by omega⟩]
   ·rw [if_neg hk, if_neg (by omega)]
theorem oE (s : St) (hn : s.nw = []) (frm : Nat) : ∀ n, (s.zero frm n).nw = []
 | 0 => hn
 | n + 1 => by show nDel (frm + n) (s.zero frm n).nw = []; rw [oE s hn frm n]; rfl
theorem StIn.resize (hl : s.m.length = 512) (hn : s.nw = []) {z : Nat} (hz : z ≤ 512) : StIn { s.zero z (512 - z) with size := z } :=
 ⟨fun j hj => by
  have hj : z ≤ j := hj
  show (s.zero z (512 - z)).m.getD j 0 = 0
  have := gW s hl z (512 - z) j (by omega)
  rw [this.2]
  by_cases hj2 : j < 512
  ·rw [if_pos ⟨hj, by omega⟩]
  ·rw [if_neg (by omega), Af, Dt (by omega)]; rfl, fun p hp => by
  have hp : p ∈ (s.zero z (512 - z)).nw := hp
  rw [oE s hn] at hp; cases hp⟩
theorem Anr (s : St) (tk : List Nat) : ∀ i, (lyS s tk i).2.2 ≤ tk.length → (lyS s tk i).2.1.map IoV.at0 = tk.take (lyS s tk i).2.2
 | 0, _ => rfl
 | i + 1, hc => by
  have ih := Anr s tk i
  unfold lyS at hc ⊢
  cases hg : nGet i s.nw with
  | none => rw [hg] at hc; exact ih hc
  | some d =>
   rw [hg] at hc
   simp only at hc ⊢
   rw [Bq, ih (by omega), Av (by omega)]
   show _ ++ [tk.getD _ 0] = _
   rw [Af, Aa (by omega)]; rfl
theorem nX (s : St) (hl : s.m.length = 512) (tk : List Nat) : ∀ i j, (nGet j s.nw = none ∨ i ≤ j) → (lyS s tk i).1.getD j 0 = s.m.getD j 0
 | 0, j, _ => rfl
 | i + 1, j, h => by
  have ih := nX s hl tk i j (h.imp id fun h => by omega)
  unfold lyS
  cases hg : nGet i s.nw with
  | none => exact ih
  | some d =>
   show ((lyS s tk i).1.set i _).getD j 0 = _
   rw [Qw, if_neg (fun hh => ?_), ih]
   rcases h with h | h
   ·rw [hh.1, hg] at h; cases h
   ·omega
theorem yH (s : St) (hl : s.m.length = 512) (tk : List Nat) : ∀ i j d, i ≤ 512 → j < i → nGet j s.nw = some d → (lyS s tk i).2.2 ≤ tk.length → ∃ y ∈ (lyS s tk i).2.1, y.data = d ∧ (lyS s tk i).1.getD j 0 = y.at0
 | 0, j, d, _, hj, _, _ => by omega
 | i + 1, j, d, hi, hj, hg, hc => by
  have hlen := (Re s tk i).1
  unfold lyS at hc ⊢
  cases hq : nGet i s.nw with
  | none =>
   rw [hq] at hc
   have hne : j ≠ i := fun h => by rw [h, hq] at hg; cases hg
   exact yH s hl tk i j d (by omega) (by omega) hg hc
  | some d' =>
   rw [hq] at hc
   simp only at hc ⊢
   by_cases hji : j = i
   ·subst hji
    rw [hq] at hg
    have hdd : d' = d := tU hg
    refine ⟨wIo (tk.getD (lyS s tk j).2.2 0) d', Lv _ (Bg.2 rfl), hdd, ?_⟩
    rw [Qw, if_pos ⟨rfl, by omega⟩]; rfl
   ·obtain ⟨y, hy, h1, h2⟩ := yH s hl tk i j d (by omega) (by omega) hg (by omega)
    refine ⟨y, Gt _ hy, h1, ?_⟩
    rw [Qw, if_neg (fun h => hji h.1), h2]
end
def Yl (l : List UInt8) (s : St) (i : Nat) : List UInt8 := (nGet i s.nw).getD (secB l (s.m.getD i 0))
def Sc (l : List UInt8) (s : St) : List (List UInt8) := (List.range s.size).map (Yl l s)
theorem Aom {l l' : List UInt8} {x : Img} {w : WS} {s : St} {tk : List Nat} (hI : IsImg l x) (hs : StOk w s) (hw : w ∈ x.trees) (hcnt : (lyS s tk 512).2.2 ≤ tk.length) (htk : ∀ a ∈ tk, a ≠ 0) (hst : ∀ a, 2 ≤ a → reached l x a → blk l' a = blk l a) (hput : ∀ y ∈ (lyS s tk 512).2.1, blk l' y.at0 = y.data) :
  Nw l' (lyS s tk 512).1 s.size = Sc l s := by
 have hl : (lyS s tk 512).1.length = 512 := by rw [(Re s _ 512).1, hs.len]
 have hsz := hs.size
 unfold Nw Sc
 refine Yg (by rw [Ah, Bc, Ah, Gm]; omega) fun i h1 h2 => ?_
 have hi : i < 512 := by rw [Ah, Gm] at h2; omega
 simp only [Li, List.getElem_take, fH]
 have e : (lyS s tk 512).1[i]'(by omega) = (lyS s tk 512).1.getD i 0 := by rw [Af, Aa (by omega)]; rfl
 rw [e]
 unfold Yl
 cases hg : nGet i s.nw with
 | none =>
  rw [nX s hs.len tk 512 i (.inl hg)]
  show _ = secB l (s.m.getD i 0)
  have hm : s.m.getD i 0 ∈ s.m := by
   rw [Af, Aa (by rw [hs.len]; omega)]
   exact Bw _
  unfold secB
  by_cases h0 : s.m.getD i 0 = 0
  ·rw [if_pos h0, if_pos h0]
  ·rw [if_neg h0, if_neg h0]
   have hwm := (hs.mem _ hm).resolve_left h0
   obtain ⟨p, hp, hgp⟩ := Trees.mem hI.trees w hw
   exact hst _ (((Zl hgp).2 _ hwm).resolve_left h0).1 (((Jp hI w hw).2 _ hwm).resolve_left h0)
 | some d =>
  obtain ⟨y, hy, hyd, hya⟩ := yH s hs.len tk 512 i d (Au _) hi hg hcnt
  rw [hya]
  show secB l' y.at0 = d
  unfold secB
  rw [if_neg (htk _ (Aah hs.dat 512 hcnt y hy).2.1), hput y hy, hyd]
theorem Akh {l l' : List UInt8} {x : Img} (hI : IsImg l x) (hs : ∀ a, 2 ≤ a → reached l x a → blk l' a = blk l a) {s : Sup} {slot : Nat} {bs : List Nat} {w' : WS} {hd : List (List UInt8)} (h : Nw l' w'.m s.size = hd) :
  Gq l' ⟨s, slot, x.recs, bs, w' :: x.trees.tail⟩ = ⟨hd, (Gq l x).snaps, (Gq l x).opens⟩ := by
 have hws : ∀ w ∈ x.trees.tail, w ∈ x.trees := fun w hw => List.mem_of_mem_tail hw
 unfold Gq
 simp only [Mn, fJ]
 rw [h, Xy hI hs hws, Xy hI hs hws]
theorem rT {l : List UInt8} {root : Nat} {m m0 fs : List Nat} (hz : Mp m) : Jr l root m m0 fs = 0 := by
 have hp : (part m 2 0).any (fun b => decide (b ≠ 0)) = false := any_zeros.2 fun b hb => hz b (Cu (Bs hb))
 have hk : Cv l root m m0 2 = [some 0] := by
  unfold Cv
  rw [show List.range (8 ^ (2 - 2)) = [0] from rfl]
  show [Fq m m0 (wasL l root (2 - 2)) 2 0] = _
  unfold Fq
  rw [if_pos hp]
 unfold Jr lay2
 rw [hk]; rfl
theorem Apn {l : List UInt8} {x : Img} {s : St} {ios : List IoV} (hd : Dev l) (hI : IsImg l x) (hs : StOk (Ee x) s) (hin : StIn s) (h : Ky l x s = .ok ios) : ∃ x', Opd l ios x x' ∧ Gq (Bt l ios) x' = ⟨Sc l s, (Gq l x).snaps, (Gq l x).opens⟩  ∧ (∃ (io0 : List IoV) (root size first : Nat), ios = Ft x.sup x.slot io0 root size first ∧ Frees l x io0 ∧ (io0.map IoV.at0).Nodup) ∧
  ∃ w' : WS, x'.trees = w' :: x.trees.tail ∧ x'.recs = x.recs ∧ x'.sup.gen = x.sup.gen + 1 ∧ x'.sup.size = s.size ∧ w'.m = layM s (Cd (Ay l x)) ∧ (Mp (layM s (Cd (Ay l x))) → x'.sup.root = 0) := by
 have hx := Sn hd hI
 have hlk := (Ot hd).2 hI
 have hF := uZ hd hlk hs
 obtain ⟨w, ws, ht, hg, _, _⟩ := Hm hI
 have hw : Ee x = w := by unfold Ee; rw [ht]; rfl
 have hw0 : x.trees.headD ws0 = w := by rw [ht]; rfl
 have hw' : x.trees.headD ⟨[], [], false⟩ = w := hw
 have hwm : w ∈ x.trees := by rw [ht]; simp
 unfold Ky at h
 by_cases hgen : x.sup.gen < 1099511627776
 ·rw [if_neg (fun hh => hh hgen), hw'] at h
  rw [hw] at hF hs
  unfold layP at h
  by_cases h1 : (Cd (Ay l x)).length < s.nw.length
  ·rw [if_pos h1] at h; cases h
  rw [if_neg h1] at h
  by_cases h2 : ((Cd (Ay l x)).drop s.nw.length).length < Du l x.sup.root (layM s (Cd (Ay l x))) w
  ·rw [if_pos h2] at h; cases h
  rw [if_neg h2] at h
  obtain ⟨f1, f2, f3, f4, f5, f6, f7⟩ := hF (by omega)
  have hfr : ∀ a ∈ Cd (Ay l x), 2 ≤ a ∧ a < nb l ∧ ¬ reached l x a := fun a ha => (Jk hd hx).1 ha
  have hfn := Oo (Ay l x)
  generalize Cd (Ay l x) = fs at *
  rw [Oq] at h2
  have hroom : Ht l x.sup.root (layM s fs) w.m ≤ (fs.drop s.nw.length).length := by omega
  rw [Adg hroom] at h
  simp only at h
  cases h
  have hcnt0 : (lyS s (fs.take s.nw.length) 512).2.2 = s.nw.length := fK hs.keys hs.klt
  have htl : (fs.take s.nw.length).length = s.nw.length := by rw [Bc]; omega
  have hat1 := Anr s (fs.take s.nw.length) 512 (by omega)
  rw [hcnt0, Ai (l := fs.take s.nw.length) (i := s.nw.length) (by omega)] at hat1
  have hio := Aah hs.dat 512 (by omega : (lyS s (fs.take s.nw.length) 512).2.2 ≤ (fs.take s.nw.length).length)
  have hF1 : Frees l x (lyS s (fs.take s.nw.length) 512).2.1 := ⟨fun y hy => by
   obtain ⟨_, g2, g3, _, _⟩ := hio y hy
   have := hfr _ (Bs g2)
   exact ⟨this.1, this.2.1, g3⟩, fun y hy => (hfr _ (Bs (hio y hy).2.1)).2.2⟩
  have hmm : ∀ a ∈ layM s fs, a = 0 ∨ (∃ w ∈ x.trees, a ∈ w.m) ∨ a ∈ (lyS s (fs.take s.nw.length) 512).2.1.map IoV.at0 := fun a ha => by
   rcases zP 512 (by omega) a ha with h | h
   ·exact (hs.mem a h).imp id fun h => .inl ⟨w, hwm, h⟩
   ·exact .inr (.inr (by rw [hat1]; exact h))
  have hby : Mz (layM s fs) s.size = false := beyond_iff.2 fun i hi => by
   show (lyS s (fs.take s.nw.length) 512).1.getD i 0 = 0
   rw [nX s hs.len _ 512 i (.inl ?_)]
   ·exact hin.zero i hi
   ·cases hg : nGet i s.nw with
    | none => rfl
    | some d =>
     have : i ∈ s.nw.map Prod.fst := (gJ i s.nw).1 (by rw [hg]; rfl)
     obtain ⟨p, hp, rfl⟩ := Bz.1 this
     have := hin.keys p hp
     omega
  have hI' := Aoc (m := layM s fs) (fs := fs.drop s.nw.length) (size := s.size) hd hI f4 hF1 (fun a ha => hfr a (Cu ha)) (by rw [hat1, Hv]; exact hfn) hmm (by rw [hw0]; exact hroom) hgen hs.size hby rfl
  rw [hw0] at hI'
  obtain ⟨w', g1, g2, g3, g4, g5, g6, g7, _⟩ := hI'
  have hroot : (lay2 l x.sup.root (layM s fs) w.m (fs.drop s.nw.length)).1.getD 0 0 = Jr l x.sup.root (layM s fs) w.m (fs.drop s.nw.length) := by
   unfold Jr
   cases (lay2 l x.sup.root (layM s fs) w.m (fs.drop s.nw.length)).1 <;> rfl
  rw [hroot]
  refine ⟨_, ⟨hd, hI, g1, g5, mH hd g6.fit, _, _, _, _, rfl, g6⟩, Akh hI g3 ?_, ⟨_, _, _, _, rfl, g6, g7⟩, w', rfl, rfl, rfl, rfl, g2, fun hz => rT hz⟩
  rw [g2]
  exact Aom hI hs hwm (by omega) (fun a ha => by have := (hfr a (Bs ha)).1; omega) g3 g4
 ·rw [if_pos hgen] at h; cases h
end Go.Proofs.YtkaiiopoilpjeaaGreat
set_option maxRecDepth 10000
set_option maxHeartbeats 16000000
namespace Go.Proofs.YtkaiiopoilpjeaaGreat
open Go.AI
attribute [local irreducible] aops Br Cp Dp aop W WO
end Go.Proofs.YtkaiiopoilpjeaaGreat
