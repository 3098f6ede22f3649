/- Lemmas. -/
import Derived.Test.YtkaiiopoilpjeaaGreatMJ7
import Derived.Test.YtkaiiopoilpjeaaGreatMF3
import Derived.Test.YtkaiiopoilpjeaaGreatMF
import Derived.Test.YtkaiiopoilpjeaaGreatMD2
set_option linter.unusedSimpArgs false
set_option linter.unusedVariables false
set_option maxRecDepth 10000
set_option maxHeartbeats 16000000
namespace Go.Proofs.YtkaiiopoilpjeaaGreat
open Go.AI
attribute [local irreducible] aops Bo Cn Dh aop W WO
theorem wQ : ∀ l : List UInt8, aT (BL l) = true
 | [] => rfl
 | a :: l => wQ l
theorem Aec {k : Nat} (hk : 1000000 ≤ k) {H : Heap} {T : Tmps} {s : St} (hs : StAt H s) {t f : Bool} (d : List UInt8) (hd : d.length < 100000) (frm n : Nat) (hn : frm + n ≤ 512) (hdn : d.length = 64 * n) (hT : Has T [(0, .ptr 2 1 1 3 0 0), (1, .int .i64 frm), (2, .islc t f 1 (BL d)), (9, .int .i64 n), (10, .int .i64 0)]) :
  W (Bo (CF k) noX 3 k (.loop Ql) T H) (fun ex T' H' => ex = .exit 0 ∧ StAt H' (s.write frm d n)) := by
 refine Fc n (fun i T' H' => StAt H' (s.write frm d i) ∧ Has T' [(0, .ptr 2 1 1 3 0 0), (1, .int .i64 frm), (2, .islc t f 1 (BL d)), (9, .int .i64 n), (10, .int .i64 (i : Nat))]) ⟨hs, hT⟩ (by omega) ?_
 clear hs hT
 rintro i T H2 hi ⟨hs, hT⟩
 rw [hT.eq]
 simp only [over]
 unfold Ql
 by_cases hlt : i < n
 ·have hp := Avg k (by omega) 3 hs (frm + i) 0 (by omega)
  have e1 : (frm : Int) + (i : Int) = ((frm + i : Nat) : Int) := by omega
  have hof := Vh k (by omega) false f d i (by omega) (by omega) 3 Heap.none
  have hbl : (BL (blk d i)).length = 64 := by rw [BL_length]; unfold blk; rw [Ba, Bj]; omega
  have hcl := Aiz k (by omega) t (f && decide (64 * (i + 1) = d.length)) (BL (blk d i)) (Ir _) (fun q H => Ajp true q H _) (by omega)
  repeat' (first | refine qS ?_ | (rw [e1]) | refine Dl hp rfl rfl rfl (fun u H3 hR => ?_) | refine qQb ?_ | fail)
  obtain ⟨⟨h0, h1, h2, hl⟩, rfl⟩ := hR
  repeat' (first
   | refine qS ?_ | (rw [e1]) | refine Bd ?_ (hr := by exact h2) | refine Avq rfl rfl (wQ d) hof (wQ _) rfl rfl ?_ | refine Aa hcl ?_
   | refine Atg rfl rfl rfl (by exact h1) rfl rfl rfl rfl rfl ?_ | refine qQb ?_ | fail)
  refine ⟨hlt, ⟨h0, ?_, h2, hl⟩, rfl, rfl, rfl, rfl, by show AV.int _ _ = AV.int _ _; congr 1, trivial⟩
  show (⟨1, false, .map (Qj ((frm + i : Nat) : Int) (encB (blk d i)) (nwE _))⟩ : Blk) = _
  rw [Aph]; rfl
 ·have hin : i = n := by omega
  subst hin
  repeat' (first | refine qQb ?_ | fail)
  exact ⟨rfl, hs⟩
theorem Atb (k : Nat) (hk : 1000001 ≤ k) {H : Heap} {s : St} (hs : StAt H s) (t f : Bool) (d : List UInt8) (hd : d.length < 100000) (frm n : Nat) (hn : frm + n ≤ 512) (hdn : d.length = 64 * n) :
  ∃ u H', CF k Rs 3 [.ptr 2 1 1 3 0 0, .int .i64 frm, .islc t f 1 (BL d)] H = some (u, H') ∧ (StAt H' (s.write frm d n) ∧ u = .tup []) := by
 have hml : (BL d).length = d.length := by simp
 have e1 : Int.tdiv (d.length : Int) 64 = (n : Int) := by rw [hdn]; show ((64 * n / 64 : Nat) : Int) = _; omega
 have e2 : (d.length : Int) / 64 = (n : Int) := by omega
 refine fni (by omega) bR rfl ?_
 unfold __head_Stage__Write
 repeat' (first | refine qS ?_ | refine Ak (n := d.length) rfl hml rfl rfl ?_ | (rw [e1]) | (rw [e2]) | refine qQ ?_ | refine Ac (fun _ => ?_) (fun _ => ?_))
 refine W.mono (Aec (k := k - 1) (t := t) (f := f) (by omega) hs d hd frm n hn hdn ⟨rfl, rfl, rfl, ?_, rfl, trivial⟩) ?_
 ·show AV.int _ _ = AV.int _ _
  congr 1
 rintro ex T2 H2 ⟨rfl, hS⟩
 exact ⟨Or.inl rfl, _, rfl, hS, rfl⟩
end Go.Proofs.YtkaiiopoilpjeaaGreat
set_option maxRecDepth 10000
set_option maxHeartbeats 16000000
namespace Go.Proofs.YtkaiiopoilpjeaaGreat
open Go.AI
def hdoP (l : List UInt8) (chk : Img → Nat) (st : Img → St) : Except Nat (List IoV) := match Ff l with
 | .error (_, e) => .error e
 | .ok x => if chk x ≠ 0 then .error (chk x) else Qb l x (st x)
def Alf (frm count : Int) (x : Img) : St := (Ii x).zero frm.toNat count.toNat
def Agl (frm count source : Int) (x : Img) : St := (Ii x).clone frm.toNat (((Ii x).m.drop source.toNat).take count.toNat) count.toNat
def yO (size : Int) (x : Img) : St := { (Ii x).zero size.toNat (512 - size.toNat) with size := size.toNat }
def kI (frm : Int) (d : List UInt8) (x : Img) : St := (Ii x).write frm.toNat d (d.length / 64)
def fH (frm : Int) (d : List UInt8) (x : Img) : Nat := if d.length % 64 ≠ 0 then 1 else mayE frm (d.length / 64 : Nat) 1 x.sup.size
def Sy (size : Int) (x : Img) : Nat := if size < 0 ∨ size > 512 then 1 else 0
def Afj (l : List UInt8) (frm count : Int) := hdoP l (fun x => mayE frm count 1 x.sup.size) (Alf frm count)
def tO (l : List UInt8) (frm count source : Int) := hdoP l (fun x => twoE frm count source x.sup.size) (Agl frm count source)
def lF (l : List UInt8) (size : Int) := hdoP l (Sy size) (yO size)
def tH (l : List UInt8) (frm : Int) (d : List UInt8) := hdoP l (fH frm d) (kI frm d)
theorem aM {frm count least : Int} {size : Nat} (h : mayE frm count least size = 0) (hs : size ≤ 512) (hl : 0 ≤ least) : ∃ a n : Nat, frm = a ∧ count = n ∧ a + n ≤ size ∧ a + n ≤ 512 := by
 unfold mayE at h
 split at h
 ·omega
 ·split at h
  ·omega
  ·rename_i h1 h2
   have h2 : cZ frm count size := To fun hh => h2 hh
   unfold cZ at h2
   exact ⟨frm.toNat, count.toNat, by omega, by omega, by omega, by omega⟩
section
variable {l : List UInt8} {x : Img}
theorem Vl (hl : l.length < 1000000) (h : Ff l = .ok x) : Dev l ∧ x.fit l ∧ StOk (Oj x) (Ii x) ∧ x.sup.size ≤ 512 ∧ ∀ s, StOk (Oj x) s → MakeH l x s := by
 obtain ⟨hd, hI⟩ := (Fk hl).1 h
 have hx := (Qx hl h).2
 have hsz := hx.sup.2.2.1
 obtain ⟨w, ws, ht, hg, _, _⟩ := Mg hI
 have hw : Oj x = w := by unfold Oj; rw [ht]; rfl
 have hm : (Ii x).m = w.m := by unfold Ii; rw [ht]; rfl
 have hlk := (Sj hd).2 hI
 refine ⟨hd, hx, ⟨by rw [hm]; exact (cU hg).1, fun a ha => .inr (by rw [hw]; rw [hm] at ha; exact ha), by simp [Ii], by simp [Ii], by simp [Ii], hsz⟩, hsz, fun s hs => Bda hd hlk hs⟩
end
attribute [local irreducible] aops Bo Cn Dh aop W WO
theorem Bad (k : Nat) (hk : 1000210 ≤ k) (f : Bool) (l : List UInt8) (hl : l.length < 1000000) (frm count : Int) : FnV (CF k) sB [.islc false f 1 (BL l), .int .i64 frm, .int .i64 count] (Ma (Afj l frm count)) := by
 refine fnk (by omega) Aio rfl ?_
 unfold nZ Afj hdoP
 cases h : Ff l with
 | error p =>
  obtain ⟨a, e⟩ := p
  have hlk := Wl (k - 1) (by omega) f l hl h
  have he := Gr h
  have he0 : (e : Int) ≠ 0 := by omega
  simp only
  repeat' (first | refine qS ?_ | refine Dl hlk rfl rfl rfl (fun u H3 hR => ?_) | (obtain rfl := hR) | refine qQb ?_ | fail)
  exact ⟨Or.inr rfl, _, rfl, rfl⟩
 | ok x =>
  have hlk := tJ (k - 1) (by omega) f l hl h
  obtain ⟨hd, hx, hS0, hsz, hM⟩ := Vl hl h
  have hmay := Aok (k - 1) (by omega) frm count 1 x.sup.size (by omega)
  simp only
  by_cases hc : mayE frm count 1 x.sup.size = 0
  ·rw [if_neg (fun hh => hh hc)]
   obtain ⟨a, n, rfl, rfl, h1, h2⟩ := aM hc hsz (by decide)
   rw [hc] at hmay
   have e1 : (a : Int) + (n : Int) = ((a + n : Nat) : Int) := by omega
   have hst := fun H (hs : StAt H (Ii x)) => Akj (k - 1) (by omega) hs a n h2
   have hmk := fun H (hs : StAt H (Alf a n x)) => tG (k - 1) (by omega) hs (f := f) hx (hM _ (hS0.zero _ _))
   obtain ⟨uf, us, ues, ue, hut⟩ := Mu (Qb l x (Alf a n x))
   rw [hut] at hmk ⊢
   repeat' (first
    | refine qS ?_ | (rw [e1]) | refine Dl hlk rfl rfl rfl (fun u H3 hR => ?_) | (obtain ⟨⟨h0, h1, h2, hl⟩, rfl⟩ := hR) | refine Bd ?_ (hr := by exact h2) | refine Aa hmay ?_
    | refine Dl (hst _ ⟨h0, h1, h2, hl⟩) rfl rfl rfl (fun u H4 hR => ?_) | refine Dl (hmk _ ⟨h0, h1, h2, hl⟩) rfl rfl rfl (fun u H5 hR => ?_) | (obtain rfl := hR) | refine qQb ?_
    | fail)
   exact ⟨Or.inr rfl, _, rfl, rfl⟩
  ·rw [if_pos hc]
   have hc' : (mayE frm count 1 x.sup.size : Int) ≠ 0 := by omega
   generalize mayE frm count 1 x.sup.size = e at *
   repeat' (first | refine qS ?_ | refine Dl hlk rfl rfl rfl (fun u H3 hR => ?_) | (obtain ⟨⟨h0, h1, h2, hl⟩, rfl⟩ := hR) | refine Bd ?_ (hr := by exact h2) | refine Aa hmay ?_ | refine qQb ?_ | fail)
   exact ⟨Or.inr rfl, _, rfl, rfl⟩
end Go.Proofs.YtkaiiopoilpjeaaGreat
set_option maxRecDepth 10000
set_option maxHeartbeats 16000000
namespace Go.Proofs.YtkaiiopoilpjeaaGreat
open Go.AI
attribute [local irreducible] aops Bo Cn Dh aop W WO
theorem Ata (k : Nat) (hk : 1000210 ≤ k) (f : Bool) (l : List UInt8) (hl : l.length < 1000000) (size : Int) : FnV (CF k) gR [.islc false f 1 (BL l), .int .i64 size] (Ma (lF l size)) := by
 refine fnk (by omega) zM rfl ?_
 unfold cQ lF hdoP
 cases h : Ff l with
 | error p =>
  obtain ⟨a, e⟩ := p
  have hlk := Wl (k - 1) (by omega) f l hl h
  have he := Gr h
  have he0 : (e : Int) ≠ 0 := by omega
  simp only
  repeat' (first | refine qS ?_ | refine qN ?_ | refine Dl hlk rfl rfl rfl (fun u H3 hR => ?_) | (obtain rfl := hR) | refine qQb ?_ | fail)
  exact ⟨Or.inr rfl, _, rfl, rfl⟩
 | ok x =>
  have hlk := tJ (k - 1) (by omega) f l hl h
  obtain ⟨hd, hx, hS0, hsz, hM⟩ := Vl hl h
  simp only
  by_cases h1 : size < 0
  ·have hE : Sy size x = 1 := by unfold Sy; rw [if_pos (.inl h1)]
   rw [hE, if_pos (by decide)]
   repeat' (first | refine qS ?_ | refine qN ?_ | refine Dl hlk rfl rfl rfl (fun u H3 hR => ?_) | (obtain ⟨hS, rfl⟩ := hR) | refine qQb ?_ | fail)
   exact ⟨Or.inr rfl, _, rfl, rfl⟩
  by_cases h2 : size > 512
  ·have hE : Sy size x = 1 := by unfold Sy; rw [if_pos (.inr h2)]
   rw [hE, if_pos (by decide)]
   repeat' (first | refine qS ?_ | refine qN ?_ | refine Dl hlk rfl rfl rfl (fun u H3 hR => ?_) | (obtain ⟨hS, rfl⟩ := hR) | refine qQb ?_ | fail)
   exact ⟨Or.inr rfl, _, rfl, rfl⟩
  have hE : Sy size x = 0 := by unfold Sy; rw [if_neg (fun hh => hh.elim h1 h2)]
  rw [hE, if_neg (fun hh => hh rfl)]
  obtain ⟨z, rfl⟩ : ∃ z : Nat, size = z := ⟨size.toNat, by omega⟩
  have hz : z ≤ 512 := by omega
  have hst := fun H (hs : StAt H (Ii x)) => Anr (k - 1) (by omega) hs z hz
  have hmk := fun H (hs : StAt H (yO z x)) => tG (k - 1) (by omega) hs (f := f) hx (hM _ ((hS0.zero _ _).sized hz))
  obtain ⟨uf, us, ues, ue, hut⟩ := Mu (Qb l x (yO z x))
  rw [hut] at hmk ⊢
  repeat' (first
   | refine qS ?_ | refine qN ?_ | refine Dl hlk rfl rfl rfl (fun u H3 hR => ?_) | (obtain ⟨hS, rfl⟩ := hR) | refine Dl (hst _ hS) rfl rfl rfl (fun u H4 hR => ?_)
   | refine Dl (hmk _ hS) rfl rfl rfl (fun u H5 hR => ?_) | (obtain rfl := hR) | refine qQb ?_ | fail)
  exact ⟨Or.inr rfl, _, rfl, rfl⟩
theorem Axi (k : Nat) (hk : 1000210 ≤ k) (f : Bool) (l : List UInt8) (hl : l.length < 1000000) (frm count source : Int) : FnV (CF k) mQ [.islc false f 1 (BL l), .int .i64 frm, .int .i64 count, .int .i64 source] (Ma (tO l frm count source)) := by
 refine fnk (by omega) Ahd rfl ?_
 unfold iV tO hdoP
 cases h : Ff l with
 | error p =>
  obtain ⟨a, e⟩ := p
  have hlk := Wl (k - 1) (by omega) f l hl h
  have he := Gr h
  have he0 : (e : Int) ≠ 0 := by omega
  simp only
  repeat' (first | refine qS ?_ | refine Dl hlk rfl rfl rfl (fun u H3 hR => ?_) | (obtain rfl := hR) | refine qQb ?_ | fail)
  exact ⟨Or.inr rfl, _, rfl, rfl⟩
 | ok x =>
  have hlk := tJ (k - 1) (by omega) f l hl h
  obtain ⟨hd, hx, hS0, hsz, hM⟩ := Vl hl h
  have htwo := Bdc (k - 1) (by omega) frm count source x.sup.size (by omega)
  simp only
  by_cases hc : twoE frm count source x.sup.size = 0
  ·rw [if_neg (fun hh => hh hc)]
   rw [hc] at htwo
   have hc1 : 0 ≤ source ∧ mayE frm count 1 x.sup.size = 0 ∧ mayE source count 1 x.sup.size = 0 := by
    unfold twoE at hc
    split at hc
    ·omega
    ·split at hc
     ·exact ⟨by omega, by assumption, hc⟩
     ·rename_i h1 h2; exact absurd hc h2
   obtain ⟨a, n, rfl, rfl, h1, h2⟩ := aM hc1.2.1 hsz (by decide)
   obtain ⟨b, n', rfl, hn', h3, h4⟩ := aM hc1.2.2 hsz (by decide)
   obtain rfl : n = n' := by omega
   have hst := fun H (hs : StAt H (Ii x)) => Arj (k - 1) (by omega) hs a n b h2 h4
   have hmk := fun H (hs : StAt H (Agl a n b x)) => tG (k - 1) (by omega) hs (f := f) hx (hM _ (hS0.clone _ (fun c hc => hS0.mem c (Dg (Bi hc))) _))
   obtain ⟨uf, us, ues, ue, hut⟩ := Mu (Qb l x (Agl a n b x))
   rw [hut] at hmk ⊢
   repeat' (first
    | refine qS ?_ | refine Dl hlk rfl rfl rfl (fun u H3 hR => ?_) | (obtain ⟨⟨h0, h1, h2, hl⟩, rfl⟩ := hR) | refine Bd ?_ (hr := by exact h2) | refine Aa htwo ?_
    | refine Dl (hst _ ⟨h0, h1, h2, hl⟩) rfl rfl rfl (fun u H4 hR => ?_) | refine Dl (hmk _ ⟨h0, h1, h2, hl⟩) rfl rfl rfl (fun u H5 hR => ?_) | (obtain rfl := hR) | refine qQb ?_
    | fail)
   exact ⟨Or.inr rfl, _, rfl, rfl⟩
  ·rw [if_pos hc]
   have hc' : (twoE frm count source x.sup.size : Int) ≠ 0 := by omega
   generalize twoE frm count source x.sup.size = e at *
   repeat' (first | refine qS ?_ | refine Dl hlk rfl rfl rfl (fun u H3 hR => ?_) | (obtain ⟨⟨h0, h1, h2, hl⟩, rfl⟩ := hR) | refine Bd ?_ (hr := by exact h2) | refine Aa htwo ?_ | refine qQb ?_ | fail)
   exact ⟨Or.inr rfl, _, rfl, rfl⟩
theorem Avk (k : Nat) (hk : 1000210 ≤ k) (f : Bool) (l : List UInt8) (hl : l.length < 1000000) (frm : Int) (t f2 : Bool) (s : Nat) (d : List UInt8) (hs : s = 1 ∨ d = []) (hdl : d.length < 100000) : FnV (CF k) nG [.islc false f 1 (BL l), .int .i64 frm, .islc t f2 s (BL d)] (Ma (tH l frm d)) := by
 refine fnk (by omega) Aed rfl ?_
 unfold jL tH hdoP
 cases h : Ff l with
 | error p =>
  obtain ⟨a, e⟩ := p
  have hlk := Wl (k - 1) (by omega) f l hl h
  have he := Gr h
  have he0 : (e : Int) ≠ 0 := by omega
  simp only
  repeat' (first | refine qS ?_ | refine Dl hlk rfl rfl rfl (fun u H3 hR => ?_) | (obtain rfl := hR) | refine qQb ?_ | fail)
  exact ⟨Or.inr rfl, _, rfl, rfl⟩
 | ok x =>
  have hlk := tJ (k - 1) (by omega) f l hl h
  obtain ⟨hd, hx, hS0, hsz, hM⟩ := Vl hl h
  have hwh := Ayz (k - 1) (by omega) t f2 s frm d x.sup.size (by omega) (by omega)
  simp only
  by_cases hm : d.length % 64 = 0
  ·rw [if_neg (fun hh => hh hm)] at hwh
   have hE : fH frm d x = mayE frm (d.length / 64 : Nat) 1 x.sup.size := by unfold fH; rw [if_neg (fun hh => hh hm)]
   rw [hE]
   by_cases hc : mayE frm (d.length / 64 : Nat) 1 x.sup.size = 0
   ·rw [if_neg (fun hh => hh hc)]
    rw [hc] at hwh
    obtain ⟨a, n, rfl, hn, h1, h2⟩ := aM hc hsz (by decide)
    have hn : d.length / 64 = n := by omega
    have hdn : d.length = 64 * n := by omega
    have hn1 : 1 ≤ n := by
     unfold mayE at hc
     split at hc
     ·omega
     ·rename_i hh; omega
    obtain rfl : s = 1 := hs.resolve_right (by rintro rfl; simp at hdn; omega)
    have hst := fun H (hs : StAt H (Ii x)) => Atb (k - 1) (by omega) hs t f2 d hdl a n h2 hdn
    have hwS : kI a d x = (Ii x).write a d n := by unfold kI; rw [hn]; rfl
    have hmk := fun H (hs : StAt H ((Ii x).write a d n)) => tG (k - 1) (by omega) hs (f := f) hx (hM _ (hS0.write a n h2 (by omega)))
    rw [hwS]
    obtain ⟨uf, us, ues, ue, hut⟩ := Mu (Qb l x ((Ii x).write a d n))
    rw [hut] at hmk ⊢
    repeat' (first
     | refine qS ?_ | refine Dl hlk rfl rfl rfl (fun u H3 hR => ?_) | (obtain ⟨⟨h0, h1, h2, hl⟩, rfl⟩ := hR) | refine Bd ?_ (hr := by exact h2) | refine Aa hwh ?_
     | refine Dl (hst _ ⟨h0, h1, h2, hl⟩) rfl rfl rfl (fun u H4 hR => ?_) | refine Dl (hmk _ ⟨h0, h1, h2, hl⟩) rfl rfl rfl (fun u H5 hR => ?_) | (obtain rfl := hR)
     | refine qQb ?_ | fail)
    exact ⟨Or.inr rfl, _, rfl, rfl⟩
   ·rw [if_pos hc]
    have hc' : (mayE frm (d.length / 64 : Nat) 1 x.sup.size : Int) ≠ 0 := by omega
    generalize mayE frm (d.length / 64 : Nat) 1 x.sup.size = e at *
    repeat' (first | refine qS ?_ | refine Dl hlk rfl rfl rfl (fun u H3 hR => ?_) | (obtain ⟨⟨h0, h1, h2, hl⟩, rfl⟩ := hR) | refine Bd ?_ (hr := by exact h2) | refine Aa hwh ?_ | refine qQb ?_ | fail)
    exact ⟨Or.inr rfl, _, rfl, rfl⟩
  ·rw [if_pos hm] at hwh
   have hE : fH frm d x = 1 := by unfold fH; rw [if_pos hm]
   rw [hE, if_pos (by decide)]
   repeat' (first | refine qS ?_ | refine Dl hlk rfl rfl rfl (fun u H3 hR => ?_) | (obtain ⟨⟨h0, h1, h2, hl⟩, rfl⟩ := hR) | refine Bd ?_ (hr := by exact h2) | refine Aa hwh ?_ | refine qQb ?_ | fail)
   exact ⟨Or.inr rfl, _, rfl, rfl⟩
end Go.Proofs.YtkaiiopoilpjeaaGreat
set_option maxRecDepth 10000
namespace Go.Proofs.YtkaiiopoilpjeaaGreat
open Go.AI
structure StIn (s : St) : Prop where
 zero : ∀ i, s.size ≤ i → s.m.getD i 0 = 0
 keys : ∀ p ∈ s.nw, p.1 < s.size
theorem beyond_iff {m : List Nat} {n : Nat} : Pe m n = false ↔ ∀ i, n ≤ i → m.getD i 0 = 0 := by
 unfold Pe
 rw [any_zeros]
 constructor
 ·intro h i hi
  by_cases hl : i < m.length
  ·rw [Af, Ab hl]
   refine h _ ?_
   rw [List.mem_iff_getElem]
   exact ⟨i - n, by rw [Bj]; omega, by rw [Yb]; simp [show n + (i - n) = i by omega]⟩
  ·rw [Af, Ew (by omega)]; rfl
 ·intro h b hb
  obtain ⟨j, hj, rfl⟩ := List.getElem_of_mem hb
  rw [Bj] at hj
  have := h (n + j) (by omega)
  rw [Af, Ab (by omega)] at this
  rw [Yb]
  exact this
theorem Zc (m : List Nat) (i j a : Nat) : (m.set i a).getD j 0 = if j = i ∧ i < m.length then a else m.getD j 0 := by
 rw [Af, List.getElem?_set]
 by_cases h : i = j
 ·subst h
  rw [if_pos rfl]
  by_cases hl : i < m.length
  ·rw [if_pos hl, if_pos ⟨rfl, hl⟩]; rfl
  ·rw [if_neg hl, if_neg (fun hh => hl hh.2), Af, Ew (by omega)]
 ·rw [if_neg h, if_neg (fun hh => h hh.1.symm), Af]
section
variable {s : St}
theorem StIn.put (h : StIn s) {i a : Nat} (hi : i < s.size) : StIn (s.put i a) :=
 ⟨fun j hj => by
  show (s.m.set i a).getD j 0 = 0
  have hj : s.size ≤ j := hj
  rw [Zc, if_neg (by omega)]; exact h.zero j hj, fun p hp => h.keys p (lH hp)⟩
theorem Adl (s : St) (frm : Nat) : ∀ n, (s.zero frm n).size = s.size
 | 0 => rfl
 | n + 1 => Adl s frm n
theorem uU (s : St) (frm : Nat) (ps : List Nat) : ∀ n, (s.clone frm ps n).size = s.size
 | 0 => rfl
 | n + 1 => uU s frm ps n
theorem iC (s : St) (frm : Nat) (d : List UInt8) : ∀ n, (s.write frm d n).size = s.size
 | 0 => rfl
 | n + 1 => iC s frm d n
theorem StIn.zeros (h : StIn s) (frm : Nat) : ∀ n, frm + n ≤ s.size → StIn (s.zero frm n)
 | 0, _ => h
 | n + 1, hn => (h.zeros frm n (by omega)).put (by rw [Adl]; omega)
theorem StIn.clone (h : StIn s) (frm : Nat) (ps : List Nat) : ∀ n, frm + n ≤ s.size → StIn (s.clone frm ps n)
 | 0, _ => h
 | n + 1, hn => (h.clone frm ps n (by omega)).put (by rw [uU]; omega)
theorem Akn {k : Nat} {v : List UInt8} : ∀ {l : List (Nat × List UInt8)} {p : Nat × List UInt8}, p ∈ nSet k v l → p.1 = k ∨ p ∈ l
 | [], p, h => by simp [nSet] at h; exact .inl (by rw [h])
 | (a, u) :: r, p, h => by
  unfold nSet at h
  split at h
  ·rename_i he
   rcases Ar.1 h with h | h
   ·exact .inl (by rw [h, he])
   ·exact .inr (Bu _ h)
  ·rcases Ar.1 h with h | h
   ·exact .inr (by rw [h]; simp)
   ·exact (Akn h).imp id fun h => Bu _ h
theorem StIn.write (h : StIn s) (frm : Nat) (d : List UInt8) : ∀ n, frm + n ≤ s.size → StIn (s.write frm d n)
 | 0, _ => h
 | n + 1, hn => by
  have hp := (h.write frm d n (by omega)).put (i := frm + n) (a := 0) (by rw [iC]; omega)
  refine ⟨hp.zero, fun p hpp => ?_⟩
  rcases Akn hpp with he | hm
  ·rw [he]; show frm + n < (s.write frm d n).size; rw [iC]; omega
  ·exact hp.keys p hm
theorem Akz (s : St) (hl : s.m.length = 512) (frm : Nat) : ∀ n j, frm + n ≤ 512 → (s.zero frm n).m.length = 512 ∧ (s.zero frm n).m.getD j 0 = if frm ≤ j ∧ j < frm + n then 0 else s.m.getD j 0
 | 0, j, _ => ⟨hl, by rw [if_neg (by omega)]; rfl⟩
 | n + 1, j, hn => by
  obtain ⟨h1, h2⟩ := Akz s hl frm n j (by omega)
  refine ⟨by show ((s.zero frm n).m.set (frm + n) 0).length = 512; rw [Er]; exact h1, ?_⟩
  show ((s.zero frm n).m.set (frm + n) 0).getD j 0 = _
  rw [Zc, h1, h2]
  by_cases hj : j = frm + n
  ·rw [if_pos ⟨hj, by omega⟩, if_pos ⟨by omega, by omega⟩]
  ·rw [if_neg (fun hh => hj hh.1)]
   by_cases hk : frm ≤ j ∧ j < frm + n
   ·rw [if_pos hk, if_pos ⟨hk.1, by omega⟩]
   ·rw [if_neg hk, if_neg (by omega)]
theorem Apl (s : St) (hn : s.nw = []) (frm : Nat) : ∀ n, (s.zero frm n).nw = []
 | 0 => hn
 | n + 1 => by show nDel (frm + n) (s.zero frm n).nw = []; rw [Apl s hn frm n]; rfl
theorem StIn.resize (hl : s.m.length = 512) (hn : s.nw = []) {z : Nat} (hz : z ≤ 512) : StIn { s.zero z (512 - z) with size := z } :=
 ⟨fun j hj => by
  have hj : z ≤ j := hj
  show (s.zero z (512 - z)).m.getD j 0 = 0
  have := Akz s hl z (512 - z) j (by omega)
  rw [this.2]
  by_cases hj2 : j < 512
  ·rw [if_pos ⟨hj, by omega⟩]
  ·rw [if_neg (by omega), Af, Ew (by omega)]; rfl, fun p hp => by
  have hp : p ∈ (s.zero z (512 - z)).nw := hp
  rw [Apl s hn] at hp; cases hp⟩
theorem Aum (s : St) (tk : List Nat) : ∀ i, (lyS s tk i).2.2 ≤ tk.length → (lyS s tk i).2.1.map IoV.at0 = tk.take (lyS s tk i).2.2
 | 0, _ => rfl
 | i + 1, hc => by
  have ih := Aum s tk i
  unfold lyS at hc ⊢
  cases hg : nGet i s.nw with
  | none => rw [hg] at hc; exact ih hc
  | some d =>
   rw [hg] at hc
   simp only at hc ⊢
   rw [Bn, ih (by omega), Ax (by omega)]
   show _ ++ [tk.getD _ 0] = _
   rw [Af, Ab (by omega)]; rfl
theorem Adw (s : St) (hl : s.m.length = 512) (tk : List Nat) : ∀ i j, (nGet j s.nw = none ∨ i ≤ j) → (lyS s tk i).1.getD j 0 = s.m.getD j 0
 | 0, j, _ => rfl
 | i + 1, j, h => by
  have ih := Adw s hl tk i j (h.imp id fun h => by omega)
  unfold lyS
  cases hg : nGet i s.nw with
  | none => exact ih
  | some d =>
   show ((lyS s tk i).1.set i _).getD j 0 = _
   rw [Zc, if_neg (fun hh => ?_), ih]
   rcases h with h | h
   ·rw [hh.1, hg] at h; cases h
   ·omega
theorem Agh (s : St) (hl : s.m.length = 512) (tk : List Nat) : ∀ i j d, i ≤ 512 → j < i → nGet j s.nw = some d → (lyS s tk i).2.2 ≤ tk.length → ∃ y ∈ (lyS s tk i).2.1, y.data = d ∧ (lyS s tk i).1.getD j 0 = y.at0
 | 0, j, d, _, hj, _, _ => by omega
 | i + 1, j, d, hi, hj, hg, hc => by
  have hlen := (Uo s tk i).1
  unfold lyS at hc ⊢
  cases hq : nGet i s.nw with
  | none =>
   rw [hq] at hc
   have hne : j ≠ i := fun h => by rw [h, hq] at hg; cases hg
   exact Agh s hl tk i j d (by omega) (by omega) hg hc
  | some d' =>
   rw [hq] at hc
   simp only at hc ⊢
   by_cases hji : j = i
   ·subst hji
    rw [hq] at hg
    have hdd : d' = d := eR hg
    refine ⟨wIo (tk.getD (lyS s tk j).2.2 0) d', Ro _ (Bz.2 rfl), hdd, ?_⟩
    rw [Zc, if_pos ⟨rfl, by omega⟩]; rfl
   ·obtain ⟨y, hy, h1, h2⟩ := Agh s hl tk i j d (by omega) (by omega) hg (by omega)
    refine ⟨y, Ha _ hy, h1, ?_⟩
    rw [Zc, if_neg (fun h => hji h.1), h2]
end
def Bau (l : List UInt8) (s : St) (i : Nat) : List UInt8 := (nGet i s.nw).getD (secB l (s.m.getD i 0))
def Age (l : List UInt8) (s : St) : List (List UInt8) := (List.range s.size).map (Bau l s)
theorem Awp {l l' : List UInt8} {x : Img} {w : WS} {s : St} {tk : List Nat} (hI : IsImg l x) (hs : StOk w s) (hw : w ∈ x.trees) (hcnt : (lyS s tk 512).2.2 ≤ tk.length) (htk : ∀ a ∈ tk, a ≠ 0) (hst : ∀ a, 2 ≤ a → reached l x a → blk l' a = blk l a) (hput : ∀ y ∈ (lyS s tk 512).2.1, blk l' y.at0 = y.data) :
  Nn l' (lyS s tk 512).1 s.size = Age l s := by
 have hl : (lyS s tk 512).1.length = 512 := by rw [(Uo s _ 512).1, hs.len]
 have hsz := hs.size
 unfold Nn Age
 refine sZ (by rw [Ag, Ba, Ag, List.length_range]; omega) fun i h1 h2 => ?_
 have hi : i < 512 := by rw [Ag, List.length_range] at h2; omega
 simp only [List.getElem_map, List.getElem_take, Aod]
 have e : (lyS s tk 512).1[i]'(by omega) = (lyS s tk 512).1.getD i 0 := by rw [Af, Ab (by omega)]; rfl
 rw [e]
 unfold Bau
 cases hg : nGet i s.nw with
 | none =>
  rw [Adw s hs.len tk 512 i (.inl hg)]
  show _ = secB l (s.m.getD i 0)
  have hm : s.m.getD i 0 ∈ s.m := by
   rw [Af, Ab (by rw [hs.len]; omega)]
   exact Bs _
  unfold secB
  by_cases h0 : s.m.getD i 0 = 0
  ·rw [if_pos h0, if_pos h0]
  ·rw [if_neg h0, if_neg h0]
   have hwm := (hs.mem _ hm).resolve_left h0
   obtain ⟨p, hp, hgp⟩ := Trees.mem hI.trees w hw
   exact hst _ (((cU hgp).2 _ hwm).resolve_left h0).1 (((Iz hI w hw).2 _ hwm).resolve_left h0)
 | some d =>
  obtain ⟨y, hy, hyd, hya⟩ := Agh s hs.len tk 512 i d (Au _) hi hg hcnt
  rw [hya]
  show secB l' y.at0 = d
  unfold secB
  rw [if_neg (htk _ (Aek hs.dat 512 hcnt y hy).2.1), hput y hy, hyd]
theorem Asf {l l' : List UInt8} {x : Img} (hI : IsImg l x) (hs : ∀ a, 2 ≤ a → reached l x a → blk l' a = blk l a) {s : Sup} {slot : Nat} {bs : List Nat} {w' : WS} {hd : List (List UInt8)} (h : Nn l' w'.m s.size = hd) :
  Cv l' ⟨s, slot, x.recs, bs, w' :: x.trees.tail⟩ = ⟨hd, (Cv l x).snaps, (Cv l x).opens⟩ := by
 have hws : ∀ w ∈ x.trees.tail, w ∈ x.trees := fun w hw => List.mem_of_mem_tail hw
 unfold Cv
 simp only [Py, Ahg]
 rw [h, aA hI hs hws, aA hI hs hws]
theorem Aul {l : List UInt8} {x : Img} {s : St} {ios : List IoV} (hd : Dev l) (hI : IsImg l x) (hs : StOk (Oj x) s) (hin : StIn s) (h : Qb l x s = .ok ios) : ∃ x', Opd l ios x x' ∧ Cv (Bl l ios) x' = ⟨Age l s, (Cv l x).snaps, (Cv l x).opens⟩ := by
 have hx := La hd hI
 have hlk := (Sj hd).2 hI
 have hF := Abr hd hlk hs
 obtain ⟨w, ws, ht, hg, _, _⟩ := Mg hI
 have hw : Oj x = w := by unfold Oj; rw [ht]; rfl
 have hw0 : x.trees.headD ws0 = w := by rw [ht]; rfl
 have hw' : x.trees.headD ⟨[], [], false⟩ = w := hw
 have hwm : w ∈ x.trees := by rw [ht]; simp
 unfold Qb at h
 by_cases hgen : x.sup.gen < 1099511627776
 ·rw [if_neg (fun hh => hh hgen), hw'] at h
  rw [hw] at hF hs
  unfold layP at h
  by_cases h1 : (Es (Cs l x)).length < s.nw.length
  ·rw [if_pos h1] at h; cases h
  rw [if_neg h1] at h
  by_cases h2 : ((Es (Cs l x)).drop s.nw.length).length < Dv l x.sup.root (layM s (Es (Cs l x))) w
  ·rw [if_pos h2] at h; cases h
  rw [if_neg h2] at h
  obtain ⟨f1, f2, f3, f4, f5, f6, f7⟩ := hF (by omega)
  have hfr : ∀ a ∈ Es (Cs l x), 2 ≤ a ∧ a < nb l ∧ ¬ reached l x a := fun a ha => (Vj hd hx).1 ha
  have hfn := dX (Cs l x)
  generalize Es (Cs l x) = fs at *
  rw [Te] at h2
  have hroom : Lm l x.sup.root (layM s fs) w.m ≤ (fs.drop s.nw.length).length := by omega
  rw [Ahn hroom] at h
  simp only at h
  cases h
  have hcnt0 : (lyS s (fs.take s.nw.length) 512).2.2 = s.nw.length := lK hs.keys hs.klt
  have htl : (fs.take s.nw.length).length = s.nw.length := by rw [Ba]; omega
  have hat1 := Aum s (fs.take s.nw.length) 512 (by omega)
  rw [hcnt0, Ah (l := fs.take s.nw.length) (i := s.nw.length) (by omega)] at hat1
  have hio := Aek hs.dat 512 (by omega : (lyS s (fs.take s.nw.length) 512).2.2 ≤ (fs.take s.nw.length).length)
  have hF1 : Frees l x (lyS s (fs.take s.nw.length) 512).2.1 := ⟨fun y hy => by
   obtain ⟨_, g2, g3, _, _⟩ := hio y hy
   have := hfr _ (Bi g2)
   exact ⟨this.1, this.2.1, g3⟩, fun y hy => (hfr _ (Bi (hio y hy).2.1)).2.2⟩
  have hmm : ∀ a ∈ layM s fs, a = 0 ∨ (∃ w ∈ x.trees, a ∈ w.m) ∨ a ∈ (lyS s (fs.take s.nw.length) 512).2.1.map IoV.at0 := fun a ha => by
   rcases Afw 512 (by omega) a ha with h | h
   ·exact (hs.mem a h).imp id fun h => .inl ⟨w, hwm, h⟩
   ·exact .inr (.inr (by rw [hat1]; exact h))
  have hby : Pe (layM s fs) s.size = false := beyond_iff.2 fun i hi => by
   show (lyS s (fs.take s.nw.length) 512).1.getD i 0 = 0
   rw [Adw s hs.len _ 512 i (.inl ?_)]
   ·exact hin.zero i hi
   ·cases hg : nGet i s.nw with
    | none => rfl
    | some d =>
     have : i ∈ s.nw.map Prod.fst := (uP i s.nw).1 (by rw [hg]; rfl)
     obtain ⟨p, hp, rfl⟩ := Cm.1 this
     have := hin.keys p hp
     omega
  have hI' := Avn (m := layM s fs) (fs := fs.drop s.nw.length) (size := s.size) hd hI f4 hF1 (fun a ha => hfr a (Dg ha)) (by rw [hat1, Ig]; exact hfn) hmm (by rw [hw0]; exact hroom) hgen hs.size hby rfl
  rw [hw0] at hI'
  obtain ⟨w', g1, g2, g3, g4, g5, g6, _, _⟩ := hI'
  have hroot : (lay2 l x.sup.root (layM s fs) w.m (fs.drop s.nw.length)).1.getD 0 0 = Lt l x.sup.root (layM s fs) w.m (fs.drop s.nw.length) := by
   unfold Lt
   cases (lay2 l x.sup.root (layM s fs) w.m (fs.drop s.nw.length)).1 <;> rfl
  rw [hroot]
  refine ⟨_, ⟨hd, hI, g1, g5, dL hd g6.fit, _, _, _, _, rfl, g6⟩, Asf hI g3 ?_⟩
  rw [g2]
  exact Awp hI hs hwm (by omega) (fun a ha => by have := (hfr a (Bi ha)).1; omega) g3 g4
 ·rw [if_pos hgen] at h; cases h
end Go.Proofs.YtkaiiopoilpjeaaGreat
set_option maxRecDepth 10000
set_option maxHeartbeats 16000000
namespace Go.Proofs.YtkaiiopoilpjeaaGreat
open Go.AI
def doP (l : List UInt8) (m frm count source : Int) (d : List UInt8) : Except Nat (List IoV) :=
 if m = 0 then tH l frm d else if m = 1 then Afj l frm count else if m = 2 then tO l frm count source else lF l count
theorem Azm {l : List UInt8} (hl : l.length < 1000000) {chk : Img → Nat} {st : Img → St} {ios : List IoV} (h : hdoP l chk st = .ok ios) (hst : ∀ x, x.sup.size ≤ 512 → chk x = 0 → StOk (Oj x) (Ii x) → StIn (Ii x) → StOk (Oj x) (st x) ∧ StIn (st x)) :
  (∃ x x', Opd l ios x x' ∧ chk x = 0 ∧ StOk (Oj x) (Ii x) ∧ Cv (Bl l ios) x' = ⟨Age l (st x), (Cv l x).snaps, (Cv l x).opens⟩) ∧ IosOk ios ∧ ios.length < 2000 := by
 unfold hdoP at h
 cases hq : Ff l with
 | error p => rw [hq] at h; cases h
 | ok x =>
  rw [hq] at h
  simp only at h
  split at h
  ·cases h
  ·rename_i hc
   have hc : chk x = 0 := To hc
   obtain ⟨hd, hI⟩ := (Fk hl).1 hq
   obtain ⟨_, hx, hS, hsz, hM⟩ := Vl hl hq
   obtain ⟨w, ws, ht, hg, hby, _⟩ := Mg hI
   have hm : (Ii x).m = w.m := by unfold Ii; rw [ht]; rfl
   have hIn : StIn (Ii x) := ⟨fun i hi => by rw [hm]; exact beyond_iff.1 hby i hi, fun p hp => by cases hp⟩
   obtain ⟨g1, g2⟩ := hst x hsz hc hS hIn
   refine ⟨?_, ?_⟩
   ·obtain ⟨x', hO, hv⟩ := Aul hd hI g1 g2 h
    exact ⟨x, x', hO, hc, hS, hv⟩
   ·have hmk := hM _ g1
    unfold Qb at h
    split at h
    ·cases h
    ·split at h
     ·cases h
     ·rename_i r ios0 rest heq
      cases h
      obtain ⟨o1, o2, _⟩ := hmk.out r ios0 rest heq
      exact ⟨oD _ _ _ _ _ _ (by omega) fun y hy => (o2 y hy).1.2.2, by rw [Pl]; omega⟩
theorem tT {l : List UInt8} {chk : Img → Nat} {st : Img → St} {e : Nat} (h : hdoP l chk st = .error e) : e ≠ 0 := by
 unfold hdoP at h
 cases hq : Ff l with
 | error p =>
  obtain ⟨a, e'⟩ := p
  rw [hq] at h
  have := Gr hq
  cases h
  omega
 | ok x =>
  rw [hq] at h
  simp only at h
  split at h
  ·rename_i hc; cases h; exact hc
  ·unfold Qb at h
   split at h
   ·cases h; decide
   ·split at h
    ·cases h; decide
    ·cases h
theorem oM {l : List UInt8} (hl : l.length < 1000000) {m frm count source : Int} {d : List UInt8} {ios : List IoV} (h : doP l m frm count source d = .ok ios) : (∃ x x' hd, Opd l ios x x' ∧ Cv (Bl l ios) x' = ⟨hd, (Cv l x).snaps, (Cv l x).opens⟩) ∧ IosOk ios ∧ ios.length < 2000 := by
 suffices hh : ∃ chk st, hdoP l chk st = .ok ios ∧ ∀ x, x.sup.size ≤ 512 → chk x = 0 → StOk (Oj x) (Ii x) → StIn (Ii x) → StOk (Oj x) (st x) ∧ StIn (st x) by
  obtain ⟨chk, st, h, hst⟩ := hh
  obtain ⟨⟨x, x', hO, _, _, hv⟩, hok⟩ := Azm hl h hst
  exact ⟨⟨x, x', _, hO, hv⟩, hok⟩
 unfold doP at h
 split at h
 ·refine ⟨_, _, h, fun x hsz hc hS hIn => ?_⟩
  unfold fH at hc
  split at hc
  ·cases hc
  ·rename_i hm
   have hm : d.length % 64 = 0 := To hm
   obtain ⟨a, n, rfl, hn, h1, h2⟩ := aM hc hsz (by decide)
   have hn : d.length / 64 = n := by omega
   have e : kI a d x = (Ii x).write a d n := by unfold kI; rw [hn]; rfl
   rw [e]
   exact ⟨hS.write a n h2 (by omega), hIn.write a d n h1⟩
 ·split at h
  ·refine ⟨_, _, h, fun x hsz hc hS hIn => ?_⟩
   obtain ⟨a, n, rfl, rfl, h1, h2⟩ := aM hc hsz (by decide)
   exact ⟨hS.zero a n, hIn.zeros a n h1⟩
  ·split at h
   ·refine ⟨_, _, h, fun x hsz hc hS hIn => ?_⟩
    have hc1 : mayE frm count 1 x.sup.size = 0 := by
     unfold twoE at hc
     split at hc
     ·cases hc
     ·split at hc
      ·assumption
      ·rename_i h1 h2; exact absurd hc h2
    obtain ⟨a, n, rfl, rfl, h1, h2⟩ := aM hc1 hsz (by decide)
    exact ⟨hS.clone a (fun c hc => hS.mem c (Dg (Bi hc))) n, hIn.clone a _ n h1⟩
   ·refine ⟨_, _, h, fun x hsz hc hS hIn => ?_⟩
    unfold Sy at hc
    split at hc
    ·cases hc
    ·obtain ⟨z, rfl⟩ : ∃ z : Nat, count = z := ⟨count.toNat, by omega⟩
     exact ⟨(hS.zero _ _).sized (by show z ≤ 512; omega), StIn.resize hS.len rfl (by show z ≤ 512; omega)⟩
theorem fK {l : List UInt8} {m frm count source : Int} {d : List UInt8} {e : Nat} (h : doP l m frm count source d = .error e) : e ≠ 0 := by
 unfold doP at h
 split at h
 ·exact tT h
 ·split at h
  ·exact tT h
  ·split at h
   ·exact tT h
   ·exact tT h
attribute [local irreducible] aops Bo Cn Dh aop W WO
theorem c_Do (k : Nat) (hk : 1000220 ≤ k) (f : Bool) (l : List UInt8) (hl : l.length < 1000000) (m : Int) (hm : m = 0 ∨ m = 1 ∨ m = 2 ∨ m = 3) (frm count source : Int) (t f2 : Bool) (s : Nat) (d : List UInt8) (hs : s = 1 ∨ d = []) (hdl : d.length < 100000) :
  FnV (CF k) Zq [.islc false f 1 (BL l), .int .i64 m, .int .i64 frm, .int .i64 count, .int .i64 source, .islc t f2 s (BL d)] (Ma (doP l m frm count source d)) := by
 have p0 := Avk (k - 1) (by omega) f l hl frm t f2 s d hs hdl
 have p1 := Bad (k - 1) (by omega) f l hl frm count
 have p2 := Axi (k - 1) (by omega) f l hl frm count source
 have p3 := Ata (k - 1) (by omega) f l hl count
 refine fnk (by omega) Amn rfl ?_
 unfold vK doP
 rcases hm with rfl | rfl | rfl | rfl
 ·rw [if_pos rfl]
  obtain ⟨uf, us, ues, ue, hut⟩ := Mu (tH l frm d)
  rw [hut] at p0 ⊢
  repeat' (first | refine qS ?_ | refine Aa p0 ?_ | refine qQb ?_ | fail)
  exact ⟨Or.inr rfl, _, rfl, rfl⟩
 ·rw [if_neg (by decide), if_pos rfl]
  obtain ⟨uf, us, ues, ue, hut⟩ := Mu (Afj l frm count)
  rw [hut] at p1 ⊢
  repeat' (first | refine qS ?_ | refine Aa p1 ?_ | refine qQb ?_ | fail)
  exact ⟨Or.inr rfl, _, rfl, rfl⟩
 ·rw [if_neg (by decide), if_neg (by decide), if_pos rfl]
  obtain ⟨uf, us, ues, ue, hut⟩ := Mu (tO l frm count source)
  rw [hut] at p2 ⊢
  repeat' (first | refine qS ?_ | refine Aa p2 ?_ | refine qQb ?_ | fail)
  exact ⟨Or.inr rfl, _, rfl, rfl⟩
 ·rw [if_neg (by decide), if_neg (by decide), if_neg (by decide)]
  obtain ⟨uf, us, ues, ue, hut⟩ := Mu (lF l count)
  rw [hut] at p3 ⊢
  repeat' (first | refine qS ?_ | refine Aa p3 ?_ | refine qQb ?_ | fail)
  exact ⟨Or.inr rfl, _, rfl, rfl⟩
end Go.Proofs.YtkaiiopoilpjeaaGreat
