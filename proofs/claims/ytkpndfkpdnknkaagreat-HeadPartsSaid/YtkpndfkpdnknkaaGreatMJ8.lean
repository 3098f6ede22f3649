/- Lemmas. -/
import Derived.Test.YtkpndfkpdnknkaaGreatMJ7
import Derived.Test.YtkpndfkpdnknkaaGreatMF3
import Derived.Test.YtkpndfkpdnknkaaGreatMF
import Derived.Test.YtkpndfkpdnknkaaGreatMD2
set_option linter.unusedSimpArgs false
set_option linter.unusedVariables false
set_option maxRecDepth 10000
set_option maxHeartbeats 16000000
namespace Go.Proofs.YtkpndfkpdnknkaaGreat
open Go.AI
attribute [local irreducible] aops Bp Cs Df aop W WO
theorem tO : ∀ l : List UInt8, Yg (BL l) = true
 | [] => rfl
 | a :: l => tO l
theorem Abc {k : Nat} (hk : 1000000 ≤ k) {H : Heap} {T : Tmps} {s : St} (hs : StAt H s) {t f : Bool} (d : List UInt8) (hd : d.length < 100000) (frm n : Nat) (hn : frm + n ≤ 512) (hdn : d.length = 64 * n) (hT : Has T [(0, .ptr 2 1 1 3 0 0), (1, .int .i64 frm), (2, .islc t f 1 (BL d)), (9, .int .i64 n), (10, .int .i64 0)]) :
  W (Bp (CF k) noX 3 k (.loop Py) T H) (fun ex T' H' => ex = .exit 0 ∧ StAt H' (s.write frm d n)) := by
 refine Fa n (fun i T' H' => StAt H' (s.write frm d i) ∧ Has T' [(0, .ptr 2 1 1 3 0 0), (1, .int .i64 frm), (2, .islc t f 1 (BL d)), (9, .int .i64 n), (10, .int .i64 (i : Nat))]) ⟨hs, hT⟩ (by omega) ?_
 clear hs hT
 rintro i T H2 hi ⟨hs, hT⟩
 rw [hT.eq]
 simp only [over]
 unfold Py
 by_cases hlt : i < n
 ·have hp := Asc k (by omega) 3 hs (frm + i) 0 (by omega)
  have e1 : (frm : Int) + (i : Int) = ((frm + i : Nat) : Int) := by omega
  have hof := Um k (by omega) false f d i (by omega) (by omega) 3 Heap.none
  have hbl : (BL (blk d i)).length = 64 := by rw [BL_length]; unfold blk; rw [Ay, Bl]; omega
  have hcl := Adv k (by omega) t (f && decide (64 * (i + 1) = d.length)) (BL (blk d i)) (Lh _) (fun q H => Akf true q H _) (by omega)
  repeat' (first | refine qS ?_ | (rw [e1]) | refine Dd hp rfl rfl rfl (fun u H3 hR => ?_) | refine qQb ?_ | fail)
  obtain ⟨⟨h0, h1, h2, hl⟩, rfl⟩ := hR
  repeat' (first
   | refine qS ?_ | (rw [e1]) | refine Aw ?_ (hr := by exact h2) | refine Arr rfl rfl (tO d) hof (tO _) rfl rfl ?_ | refine Ab hcl ?_
   | refine Alz rfl rfl rfl (by exact h1) rfl rfl rfl rfl rfl ?_ | refine qQb ?_ | fail)
  refine ⟨hlt, ⟨h0, ?_, h2, hl⟩, rfl, rfl, rfl, rfl, by show AV.int _ _ = AV.int _ _; congr 1, trivial⟩
  show (⟨1, false, .map (Qf ((frm + i : Nat) : Int) (encB (blk d i)) (nwE _))⟩ : Blk) = _
  rw [Alf]; rfl
 ·have hin : i = n := by omega
  subst hin
  repeat' (first | refine qQb ?_ | fail)
  exact ⟨rfl, hs⟩
theorem Anh (k : Nat) (hk : 1000001 ≤ k) {H : Heap} {s : St} (hs : StAt H s) (t f : Bool) (d : List UInt8) (hd : d.length < 100000) (frm n : Nat) (hn : frm + n ≤ 512) (hdn : d.length = 64 * n) :
  ∃ u H', CF k Qo 3 [.ptr 2 1 1 3 0 0, .int .i64 frm, .islc t f 1 (BL d)] H = some (u, H') ∧ (StAt H' (s.write frm d n) ∧ u = .tup []) := by
 have hml : (BL d).length = d.length := by simp
 have e1 : Int.tdiv (d.length : Int) 64 = (n : Int) := by rw [hdn]; show ((64 * n / 64 : Nat) : Int) = _; omega
 have e2 : (d.length : Int) / 64 = (n : Int) := by omega
 refine fni (by omega) aC rfl ?_
 unfold __head_Stage__Write
 repeat' (first | refine qS ?_ | refine Bi (n := d.length) rfl hml rfl rfl ?_ | (rw [e1]) | (rw [e2]) | refine qQ ?_ | refine Af (fun _ => ?_) (fun _ => ?_))
 refine W.mono (Abc (k := k - 1) (t := t) (f := f) (by omega) hs d hd frm n hn hdn ⟨rfl, rfl, rfl, ?_, rfl, trivial⟩) ?_
 ·show AV.int _ _ = AV.int _ _
  congr 1
 rintro ex T2 H2 ⟨rfl, hS⟩
 exact ⟨Or.inl rfl, _, rfl, hS, rfl⟩
end Go.Proofs.YtkpndfkpdnknkaaGreat
set_option maxRecDepth 10000
set_option maxHeartbeats 16000000
namespace Go.Proofs.YtkpndfkpdnknkaaGreat
open Go.AI
def hdoP (l : List UInt8) (chk : Img → Nat) (st : Img → St) : Except Nat (List IoV) := match sO l with
 | .error (_, e) => .error e
 | .ok x => if chk x ≠ 0 then .error (chk x) else Gz l x (st x)
def fE (frm count : Int) (x : Img) : St := (Bh x).zero frm.toNat count.toNat
def Jk (size : Int) (x : Img) : St := { (Bh x).zero size.toNat (512 - size.toNat) with size := size.toNat }
def Ff (frm : Int) (d : List UInt8) (x : Img) : St := (Bh x).write frm.toNat d (d.length / 64)
def Ku (frm : Int) (d : List UInt8) (x : Img) : Nat := if d.length % 64 ≠ 0 then 1 else mayE frm (d.length / 64 : Nat) 1 x.sup.size
def Km (size : Int) (x : Img) : Nat := if size < 0 ∨ size > 512 then 1 else 0
def Sv (l : List UInt8) (frm count : Int) := hdoP l (fun x => mayE frm count 1 x.sup.size) (fE frm count)
def Jw (l : List UInt8) (size : Int) := hdoP l (Km size) (Jk size)
def Kc (l : List UInt8) (frm : Int) (d : List UInt8) := hdoP l (Ku frm d) (Ff frm d)
theorem Kd {frm count least : Int} {size : Nat} (h : mayE frm count least size = 0) (hs : size ≤ 512) (hl : 0 ≤ least) : ∃ a n : Nat, frm = a ∧ count = n ∧ a + n ≤ size ∧ a + n ≤ 512 := by
 unfold mayE at h
 split at h
 ·omega
 ·split at h
  ·omega
  ·rename_i h1 h2
   have h2 : Sy frm count size := Dm fun hh => h2 hh
   unfold Sy at h2
   exact ⟨frm.toNat, count.toNat, by omega, by omega, by omega, by omega⟩
section
variable {l : List UInt8} {x : Img}
theorem Ju (hl : l.length < 1000000) (h : sO l = .ok x) : Dev l ∧ x.fit l ∧ StOk (Ez x) (Bh x) ∧ x.sup.size ≤ 512 ∧ ∀ s, StOk (Ez x) s → MakeH l x s := by
 obtain ⟨hd, hI⟩ := (Iy hl).1 h
 have hx := (jN hl h).2
 have hsz := hx.sup.2.2.1
 obtain ⟨w, ws, ht, hg, _, _⟩ := Gg hI
 have hw : Ez x = w := by unfold Ez; rw [ht]; rfl
 have hm : (Bh x).m = w.m := by unfold Bh; rw [ht]; rfl
 have hlk := (Ot hd).2 hI
 refine ⟨hd, hx, ⟨by rw [hm]; exact (Us hg).1, fun a ha => .inr (by rw [hw]; rw [hm] at ha; exact ha), by simp [Bh], by simp [Bh], by simp [Bh], hsz⟩, hsz, fun s hs => Avm hd hlk hs⟩
end
attribute [local irreducible] aops Bp Cs Df aop W WO
theorem qU (k : Nat) (hk : 1000210 ≤ k) (f : Bool) (l : List UInt8) (hl : l.length < 1000000) (frm count : Int) : FnV (CF k) oL [.islc false f 1 (BL l), .int .i64 frm, .int .i64 count] (Ly (Sv l frm count)) := by
 refine fnk (by omega) Agx rfl ?_
 unfold mU Sv hdoP
 cases h : sO l with
 | error p =>
  obtain ⟨a, e⟩ := p
  have hlk := Se (k - 1) (by omega) f l hl h
  have he := Jr h
  have he0 : (e : Int) ≠ 0 := by omega
  simp only
  repeat' (first | refine qS ?_ | refine Dd hlk rfl rfl rfl (fun u H3 hR => ?_) | (obtain rfl := hR) | refine qQb ?_ | fail)
  exact ⟨Or.inr rfl, _, rfl, rfl⟩
 | ok x =>
  have hlk := hG (k - 1) (by omega) f l hl h
  obtain ⟨hd, hx, hS0, hsz, hM⟩ := Ju hl h
  have hmay := Agi (k - 1) (by omega) frm count 1 x.sup.size (by omega)
  simp only
  by_cases hc : mayE frm count 1 x.sup.size = 0
  ·rw [if_neg (fun hh => hh hc)]
   obtain ⟨a, n, rfl, rfl, h1, h2⟩ := Kd hc hsz (by decide)
   rw [hc] at hmay
   have e1 : (a : Int) + (n : Int) = ((a + n : Nat) : Int) := by omega
   have hst := fun H (hs : StAt H (Bh x)) => Afc (k - 1) (by omega) hs a n h2
   have hmk := fun H (hs : StAt H (fE a n x)) => qO (k - 1) (by omega) hs (f := f) hx (hM _ (hS0.zero _ _))
   obtain ⟨uf, us, ues, ue, hut⟩ := On (Gz l x (fE a n x))
   rw [hut] at hmk ⊢
   repeat' (first
    | refine qS ?_ | (rw [e1]) | refine Dd hlk rfl rfl rfl (fun u H3 hR => ?_) | (obtain ⟨⟨h0, h1, h2, hl⟩, rfl⟩ := hR) | refine Aw ?_ (hr := by exact h2) | refine Ab hmay ?_
    | refine Dd (hst _ ⟨h0, h1, h2, hl⟩) rfl rfl rfl (fun u H4 hR => ?_) | refine Dd (hmk _ ⟨h0, h1, h2, hl⟩) rfl rfl rfl (fun u H5 hR => ?_) | (obtain rfl := hR) | refine qQb ?_
    | fail)
   exact ⟨Or.inr rfl, _, rfl, rfl⟩
  ·rw [if_pos hc]
   have hc' : (mayE frm count 1 x.sup.size : Int) ≠ 0 := by omega
   generalize mayE frm count 1 x.sup.size = e at *
   repeat' (first | refine qS ?_ | refine Dd hlk rfl rfl rfl (fun u H3 hR => ?_) | (obtain ⟨⟨h0, h1, h2, hl⟩, rfl⟩ := hR) | refine Aw ?_ (hr := by exact h2) | refine Ab hmay ?_ | refine qQb ?_ | fail)
   exact ⟨Or.inr rfl, _, rfl, rfl⟩
end Go.Proofs.YtkpndfkpdnknkaaGreat
set_option maxRecDepth 10000
set_option maxHeartbeats 16000000
namespace Go.Proofs.YtkpndfkpdnknkaaGreat
open Go.AI
attribute [local irreducible] aops Bp Cs Df aop W WO
theorem Rb (k : Nat) (hk : 1000210 ≤ k) (f : Bool) (l : List UInt8) (hl : l.length < 1000000) (size : Int) : FnV (CF k) dX [.islc false f 1 (BL l), .int .i64 size] (Ly (Jw l size)) := by
 refine fnk (by omega) wT rfl ?_
 unfold aT Jw hdoP
 cases h : sO l with
 | error p =>
  obtain ⟨a, e⟩ := p
  have hlk := Se (k - 1) (by omega) f l hl h
  have he := Jr h
  have he0 : (e : Int) ≠ 0 := by omega
  simp only
  repeat' (first | refine qS ?_ | refine qN ?_ | refine Dd hlk rfl rfl rfl (fun u H3 hR => ?_) | (obtain rfl := hR) | refine qQb ?_ | fail)
  exact ⟨Or.inr rfl, _, rfl, rfl⟩
 | ok x =>
  have hlk := hG (k - 1) (by omega) f l hl h
  obtain ⟨hd, hx, hS0, hsz, hM⟩ := Ju hl h
  simp only
  by_cases h1 : size < 0
  ·have hE : Km size x = 1 := by unfold Km; rw [if_pos (.inl h1)]
   rw [hE, if_pos (by decide)]
   repeat' (first | refine qS ?_ | refine qN ?_ | refine Dd hlk rfl rfl rfl (fun u H3 hR => ?_) | (obtain ⟨hS, rfl⟩ := hR) | refine qQb ?_ | fail)
   exact ⟨Or.inr rfl, _, rfl, rfl⟩
  by_cases h2 : size > 512
  ·have hE : Km size x = 1 := by unfold Km; rw [if_pos (.inr h2)]
   rw [hE, if_pos (by decide)]
   repeat' (first | refine qS ?_ | refine qN ?_ | refine Dd hlk rfl rfl rfl (fun u H3 hR => ?_) | (obtain ⟨hS, rfl⟩ := hR) | refine qQb ?_ | fail)
   exact ⟨Or.inr rfl, _, rfl, rfl⟩
  have hE : Km size x = 0 := by unfold Km; rw [if_neg (fun hh => hh.elim h1 h2)]
  rw [hE, if_neg (fun hh => hh rfl)]
  obtain ⟨z, rfl⟩ : ∃ z : Nat, size = z := ⟨size.toNat, by omega⟩
  have hz : z ≤ 512 := by omega
  have hst := fun H (hs : StAt H (Bh x)) => Ajv (k - 1) (by omega) hs z hz
  have hmk := fun H (hs : StAt H (Jk z x)) => qO (k - 1) (by omega) hs (f := f) hx (hM _ ((hS0.zero _ _).sized hz))
  obtain ⟨uf, us, ues, ue, hut⟩ := On (Gz l x (Jk z x))
  rw [hut] at hmk ⊢
  repeat' (first
   | refine qS ?_ | refine qN ?_ | refine Dd hlk rfl rfl rfl (fun u H3 hR => ?_) | (obtain ⟨hS, rfl⟩ := hR) | refine Dd (hst _ hS) rfl rfl rfl (fun u H4 hR => ?_)
   | refine Dd (hmk _ hS) rfl rfl rfl (fun u H5 hR => ?_) | (obtain rfl := hR) | refine qQb ?_ | fail)
  exact ⟨Or.inr rfl, _, rfl, rfl⟩
theorem Xp (k : Nat) (hk : 1000210 ≤ k) (f : Bool) (l : List UInt8) (hl : l.length < 1000000) (frm : Int) (t f2 : Bool) (s : Nat) (d : List UInt8) (hs : s = 1 ∨ d = []) (hdl : d.length < 100000) : FnV (CF k) iP [.islc false f 1 (BL l), .int .i64 frm, .islc t f2 s (BL d)] (Ly (Kc l frm d)) := by
 refine fnk (by omega) Aae rfl ?_
 unfold fZ Kc hdoP
 cases h : sO l with
 | error p =>
  obtain ⟨a, e⟩ := p
  have hlk := Se (k - 1) (by omega) f l hl h
  have he := Jr h
  have he0 : (e : Int) ≠ 0 := by omega
  simp only
  repeat' (first | refine qS ?_ | refine Dd hlk rfl rfl rfl (fun u H3 hR => ?_) | (obtain rfl := hR) | refine qQb ?_ | fail)
  exact ⟨Or.inr rfl, _, rfl, rfl⟩
 | ok x =>
  have hlk := hG (k - 1) (by omega) f l hl h
  obtain ⟨hd, hx, hS0, hsz, hM⟩ := Ju hl h
  have hwh := Atn (k - 1) (by omega) t f2 s frm d x.sup.size (by omega) (by omega)
  simp only
  by_cases hm : d.length % 64 = 0
  ·rw [if_neg (fun hh => hh hm)] at hwh
   have hE : Ku frm d x = mayE frm (d.length / 64 : Nat) 1 x.sup.size := by unfold Ku; rw [if_neg (fun hh => hh hm)]
   rw [hE]
   by_cases hc : mayE frm (d.length / 64 : Nat) 1 x.sup.size = 0
   ·rw [if_neg (fun hh => hh hc)]
    rw [hc] at hwh
    obtain ⟨a, n, rfl, hn, h1, h2⟩ := Kd hc hsz (by decide)
    have hn : d.length / 64 = n := by omega
    have hdn : d.length = 64 * n := by omega
    have hn1 : 1 ≤ n := by
     unfold mayE at hc
     split at hc
     ·omega
     ·rename_i hh; omega
    obtain rfl : s = 1 := hs.resolve_right (by rintro rfl; simp at hdn; omega)
    have hst := fun H (hs : StAt H (Bh x)) => Anh (k - 1) (by omega) hs t f2 d hdl a n h2 hdn
    have hwS : Ff a d x = (Bh x).write a d n := by unfold Ff; rw [hn]; rfl
    have hmk := fun H (hs : StAt H ((Bh x).write a d n)) => qO (k - 1) (by omega) hs (f := f) hx (hM _ (hS0.write a n h2 (by omega)))
    rw [hwS]
    obtain ⟨uf, us, ues, ue, hut⟩ := On (Gz l x ((Bh x).write a d n))
    rw [hut] at hmk ⊢
    repeat' (first
     | refine qS ?_ | refine Dd hlk rfl rfl rfl (fun u H3 hR => ?_) | (obtain ⟨⟨h0, h1, h2, hl⟩, rfl⟩ := hR) | refine Aw ?_ (hr := by exact h2) | refine Ab hwh ?_
     | refine Dd (hst _ ⟨h0, h1, h2, hl⟩) rfl rfl rfl (fun u H4 hR => ?_) | refine Dd (hmk _ ⟨h0, h1, h2, hl⟩) rfl rfl rfl (fun u H5 hR => ?_) | (obtain rfl := hR)
     | refine qQb ?_ | fail)
    exact ⟨Or.inr rfl, _, rfl, rfl⟩
   ·rw [if_pos hc]
    have hc' : (mayE frm (d.length / 64 : Nat) 1 x.sup.size : Int) ≠ 0 := by omega
    generalize mayE frm (d.length / 64 : Nat) 1 x.sup.size = e at *
    repeat' (first | refine qS ?_ | refine Dd hlk rfl rfl rfl (fun u H3 hR => ?_) | (obtain ⟨⟨h0, h1, h2, hl⟩, rfl⟩ := hR) | refine Aw ?_ (hr := by exact h2) | refine Ab hwh ?_ | refine qQb ?_ | fail)
    exact ⟨Or.inr rfl, _, rfl, rfl⟩
  ·rw [if_pos hm] at hwh
   have hE : Ku frm d x = 1 := by unfold Ku; rw [if_pos hm]
   rw [hE, if_pos (by decide)]
   repeat' (first | refine qS ?_ | refine Dd hlk rfl rfl rfl (fun u H3 hR => ?_) | (obtain ⟨⟨h0, h1, h2, hl⟩, rfl⟩ := hR) | refine Aw ?_ (hr := by exact h2) | refine Ab hwh ?_ | refine qQb ?_ | fail)
   exact ⟨Or.inr rfl, _, rfl, rfl⟩
end Go.Proofs.YtkpndfkpdnknkaaGreat
set_option maxRecDepth 10000
namespace Go.Proofs.YtkpndfkpdnknkaaGreat
open Go.AI
structure StIn (s : St) : Prop where
 zero : ∀ i, s.size ≤ i → s.m.getD i 0 = 0
 keys : ∀ p ∈ s.nw, p.1 < s.size
theorem beyond_iff {m : List Nat} {n : Nat} : Nb m n = false ↔ ∀ i, n ≤ i → m.getD i 0 = 0 := by
 unfold Nb
 rw [any_zeros]
 constructor
 ·intro h i hi
  by_cases hl : i < m.length
  ·rw [Ae, Aa hl]
   refine h _ ?_
   rw [List.mem_iff_getElem]
   exact ⟨i - n, by rw [Bl]; omega, by rw [Qm]; simp [show n + (i - n) = i by omega]⟩
  ·rw [Ae, Dp (by omega)]; rfl
 ·intro h b hb
  obtain ⟨j, hj, rfl⟩ := List.getElem_of_mem hb
  rw [Bl] at hj
  have := h (n + j) (by omega)
  rw [Ae, Aa (by omega)] at this
  rw [Qm]
  exact this
theorem Oq (m : List Nat) (i j a : Nat) : (m.set i a).getD j 0 = if j = i ∧ i < m.length then a else m.getD j 0 := by
 rw [Ae, List.getElem?_set]
 by_cases h : i = j
 ·subst h
  rw [if_pos rfl]
  by_cases hl : i < m.length
  ·rw [if_pos hl, if_pos ⟨rfl, hl⟩]; rfl
  ·rw [if_neg hl, if_neg (fun hh => hl hh.2), Ae, Dp (by omega)]
 ·rw [if_neg h, if_neg (fun hh => h hh.1.symm), Ae]
section
variable {s : St}
theorem StIn.put (h : StIn s) {i a : Nat} (hi : i < s.size) : StIn (s.put i a) :=
 ⟨fun j hj => by
  show (s.m.set i a).getD j 0 = 0
  have hj : s.size ≤ j := hj
  rw [Oq, if_neg (by omega)]; exact h.zero j hj, fun p hp => h.keys p (jZ hp)⟩
theorem Ul (s : St) (frm : Nat) (d : List UInt8) : ∀ n, (s.write frm d n).size = s.size
 | 0 => rfl
 | n + 1 => Ul s frm d n
theorem Aga {k : Nat} {v : List UInt8} : ∀ {l : List (Nat × List UInt8)} {p : Nat × List UInt8}, p ∈ nSet k v l → p.1 = k ∨ p ∈ l
 | [], p, h => by simp [nSet] at h; exact .inl (by rw [h])
 | (a, u) :: r, p, h => by
  unfold nSet at h
  split at h
  ·rename_i he
   rcases Ar.1 h with h | h
   ·exact .inl (by rw [h, he])
   ·exact .inr (Cb _ h)
  ·rcases Ar.1 h with h | h
   ·exact .inr (by rw [h]; simp)
   ·exact (Aga h).imp id fun h => Cb _ h
theorem StIn.write (h : StIn s) (frm : Nat) (d : List UInt8) : ∀ n, frm + n ≤ s.size → StIn (s.write frm d n)
 | 0, _ => h
 | n + 1, hn => by
  have hp := (h.write frm d n (by omega)).put (i := frm + n) (a := 0) (by rw [Ul]; omega)
  refine ⟨hp.zero, fun p hpp => ?_⟩
  rcases Aga hpp with he | hm
  ·rw [he]; show frm + n < (s.write frm d n).size; rw [Ul]; omega
  ·exact hp.keys p hm
theorem Xi (s : St) (hl : s.m.length = 512) (frm : Nat) : ∀ n j, frm + n ≤ 512 → (s.zero frm n).m.length = 512 ∧ (s.zero frm n).m.getD j 0 = if frm ≤ j ∧ j < frm + n then 0 else s.m.getD j 0
 | 0, j, _ => ⟨hl, by rw [if_neg (by omega)]; rfl⟩
 | n + 1, j, hn => by
  obtain ⟨h1, h2⟩ := Xi s hl frm n j (by omega)
  refine ⟨by show ((s.zero frm n).m.set (frm + n) 0).length = 512; rw [Ee]; exact h1, ?_⟩
  show ((s.zero frm n).m.set (frm + n) 0).getD j 0 = _
  rw [Oq, h1, h2]
  by_cases hj : j = frm + n
  ·rw [if_pos ⟨hj, by omega⟩, if_pos ⟨by omega, by omega⟩]
  ·rw [if_neg (fun hh => hj hh.1)]
   by_cases hk : frm ≤ j ∧ j < frm + n
   ·rw [if_pos hk, if_pos ⟨hk.1, by omega⟩]
   ·rw [if_neg hk, if_neg (by omega)]
theorem dJ (s : St) (hn : s.nw = []) (frm : Nat) : ∀ n, (s.zero frm n).nw = []
 | 0 => hn
 | n + 1 => by show nDel (frm + n) (s.zero frm n).nw = []; rw [dJ s hn frm n]; rfl
theorem StIn.resize (hl : s.m.length = 512) (hn : s.nw = []) {z : Nat} (hz : z ≤ 512) : StIn { s.zero z (512 - z) with size := z } :=
 ⟨fun j hj => by
  have hj : z ≤ j := hj
  show (s.zero z (512 - z)).m.getD j 0 = 0
  have := Xi s hl z (512 - z) j (by omega)
  rw [this.2]
  by_cases hj2 : j < 512
  ·rw [if_pos ⟨hj, by omega⟩]
  ·rw [if_neg (by omega), Ae, Dp (by omega)]; rfl, fun p hp => by
  have hp : p ∈ (s.zero z (512 - z)).nw := hp
  rw [dJ s hn] at hp; cases hp⟩
theorem Apq (s : St) (tk : List Nat) : ∀ i, (lyS s tk i).2.2 ≤ tk.length → (lyS s tk i).2.1.map IoV.at0 = tk.take (lyS s tk i).2.2
 | 0, _ => rfl
 | i + 1, hc => by
  have ih := Apq s tk i
  unfold lyS at hc ⊢
  cases hg : nGet i s.nw with
  | none => rw [hg] at hc; exact ih hc
  | some d =>
   rw [hg] at hc
   simp only at hc ⊢
   rw [Br, ih (by omega), Au (by omega)]
   show _ ++ [tk.getD _ 0] = _
   rw [Ae, Aa (by omega)]; rfl
theorem qR (s : St) (hl : s.m.length = 512) (tk : List Nat) : ∀ i j, (nGet j s.nw = none ∨ i ≤ j) → (lyS s tk i).1.getD j 0 = s.m.getD j 0
 | 0, j, _ => rfl
 | i + 1, j, h => by
  have ih := qR s hl tk i j (h.imp id fun h => by omega)
  unfold lyS
  cases hg : nGet i s.nw with
  | none => exact ih
  | some d =>
   show ((lyS s tk i).1.set i _).getD j 0 = _
   rw [Oq, if_neg (fun hh => ?_), ih]
   rcases h with h | h
   ·rw [hh.1, hg] at h; cases h
   ·omega
theorem qH (s : St) (hl : s.m.length = 512) (tk : List Nat) : ∀ i j d, i ≤ 512 → j < i → nGet j s.nw = some d → (lyS s tk i).2.2 ≤ tk.length → ∃ y ∈ (lyS s tk i).2.1, y.data = d ∧ (lyS s tk i).1.getD j 0 = y.at0
 | 0, j, d, _, hj, _, _ => by omega
 | i + 1, j, d, hi, hj, hg, hc => by
  have hlen := (Rx s tk i).1
  unfold lyS at hc ⊢
  cases hq : nGet i s.nw with
  | none =>
   rw [hq] at hc
   have hne : j ≠ i := fun h => by rw [h, hq] at hg; cases hg
   exact qH s hl tk i j d (by omega) (by omega) hg hc
  | some d' =>
   rw [hq] at hc
   simp only at hc ⊢
   by_cases hji : j = i
   ·subst hji
    rw [hq] at hg
    have hdd : d' = d := wG hg
    refine ⟨wIo (tk.getD (lyS s tk j).2.2 0) d', Lv _ (Bo.2 rfl), hdd, ?_⟩
    rw [Oq, if_pos ⟨rfl, by omega⟩]; rfl
   ·obtain ⟨y, hy, h1, h2⟩ := qH s hl tk i j d (by omega) (by omega) hg (by omega)
    refine ⟨y, Gs _ hy, h1, ?_⟩
    rw [Oq, if_neg (fun h => hji h.1), h2]
end
def Pt (l : List UInt8) (s : St) (i : Nat) : List UInt8 := (nGet i s.nw).getD (secB l (s.m.getD i 0))
def Pu (l : List UInt8) (s : St) : List (List UInt8) := (List.range s.size).map (Pt l s)
theorem Arq {l l' : List UInt8} {x : Img} {w : WS} {s : St} {tk : List Nat} (hI : IsImg l x) (hs : StOk w s) (hw : w ∈ x.trees) (hcnt : (lyS s tk 512).2.2 ≤ tk.length) (htk : ∀ a ∈ tk, a ≠ 0) (hst : ∀ a, 2 ≤ a → reached l x a → blk l' a = blk l a) (hput : ∀ y ∈ (lyS s tk 512).2.1, blk l' y.at0 = y.data) :
  Ji l' (lyS s tk 512).1 s.size = Pu l s := by
 have hl : (lyS s tk 512).1.length = 512 := by rw [(Rx s _ 512).1, hs.len]
 have hsz := hs.size
 unfold Ji Pu
 refine Zn (by rw [Ah, Ay, Ah, Ek]; omega) fun i h1 h2 => ?_
 have hi : i < 512 := by rw [Ah, Ek] at h2; omega
 simp only [Jz, List.getElem_take, Vl]
 have e : (lyS s tk 512).1[i]'(by omega) = (lyS s tk 512).1.getD i 0 := by rw [Ae, Aa (by omega)]; rfl
 rw [e]
 unfold Pt
 cases hg : nGet i s.nw with
 | none =>
  rw [qR s hs.len tk 512 i (.inl hg)]
  show _ = secB l (s.m.getD i 0)
  have hm : s.m.getD i 0 ∈ s.m := by
   rw [Ae, Aa (by rw [hs.len]; omega)]
   exact Bx _
  unfold secB
  by_cases h0 : s.m.getD i 0 = 0
  ·rw [if_pos h0, if_pos h0]
  ·rw [if_neg h0, if_neg h0]
   have hwm := (hs.mem _ hm).resolve_left h0
   obtain ⟨p, hp, hgp⟩ := Trees.mem hI.trees w hw
   exact hst _ (((Us hgp).2 _ hwm).resolve_left h0).1 (((Ig hI w hw).2 _ hwm).resolve_left h0)
 | some d =>
  obtain ⟨y, hy, hyd, hya⟩ := qH s hs.len tk 512 i d (Bc _) hi hg hcnt
  rw [hya]
  show secB l' y.at0 = d
  unfold secB
  rw [if_neg (htk _ (rU hs.dat 512 hcnt y hy).2.1), hput y hy, hyd]
theorem Anx {l l' : List UInt8} {x : Img} (hI : IsImg l x) (hs : ∀ a, 2 ≤ a → reached l x a → blk l' a = blk l a) {s : Sup} {slot : Nat} {bs : List Nat} {w' : WS} {hd : List (List UInt8)} (h : Ji l' w'.m s.size = hd) :
  Ci l' ⟨s, slot, x.recs, bs, w' :: x.trees.tail⟩ = ⟨hd, (Ci l x).snaps, (Ci l x).opens⟩ := by
 have hws : ∀ w ∈ x.trees.tail, w ∈ x.trees := fun w hw => List.mem_of_mem_tail hw
 unfold Ci
 simp only [Oy, Adn]
 rw [h, Yb hI hs hws, Yb hI hs hws]
theorem vX {l : List UInt8} {root : Nat} {m m0 fs : List Nat} (hz : Mr m) : Jq l root m m0 fs = 0 := by
 have hp : (part m 2 0).any (fun b => decide (b ≠ 0)) = false := any_zeros.2 fun b hb => hz b (Cc (As hb))
 have hk : Cu l root m m0 2 = [some 0] := by
  unfold Cu
  rw [show List.range (8 ^ (2 - 2)) = [0] from rfl]
  show [Fq m m0 (wasL l root (2 - 2)) 2 0] = _
  unfold Fq
  rw [if_pos hp]
 unfold Jq lay2
 rw [hk]; rfl
theorem Agu {l : List UInt8} {x : Img} {s : St} {ios : List IoV} (hd : Dev l) (hI : IsImg l x) (hs : StOk (Ez x) s) (hin : StIn s) (h : Gz l x s = .ok ios) : ∃ x', Opd l ios x x' ∧ Ci (Bs l ios) x' = ⟨Pu l s, (Ci l x).snaps, (Ci l x).opens⟩  ∧ (∃ (io0 : List IoV) (root size first : Nat), ios = Eu x.sup x.slot io0 root size first ∧ Frees l x io0 ∧ (io0.map IoV.at0).Nodup) ∧
  ∃ w' : WS, x'.trees = w' :: x.trees.tail ∧ x'.recs = x.recs ∧ x'.sup.gen = x.sup.gen + 1 ∧ x'.sup.size = s.size ∧ w'.m = layM s (Cm (Bn l x)) ∧ (Mr (layM s (Cm (Bn l x))) → x'.sup.root = 0) := by
 have hx := Sa hd hI
 have hlk := (Ot hd).2 hI
 have hF := zP hd hlk hs
 obtain ⟨w, ws, ht, hg, _, _⟩ := Gg hI
 have hw : Ez x = w := by unfold Ez; rw [ht]; rfl
 have hw0 : x.trees.headD ws0 = w := by rw [ht]; rfl
 have hw' : x.trees.headD ⟨[], [], false⟩ = w := hw
 have hwm : w ∈ x.trees := by rw [ht]; simp
 unfold Gz at h
 by_cases hgen : x.sup.gen < 1099511627776
 ·rw [if_neg (fun hh => hh hgen), hw'] at h
  rw [hw] at hF hs
  unfold layP at h
  by_cases h1 : (Cm (Bn l x)).length < s.nw.length
  ·rw [if_pos h1] at h; cases h
  rw [if_neg h1] at h
  by_cases h2 : ((Cm (Bn l x)).drop s.nw.length).length < Dq l x.sup.root (layM s (Cm (Bn l x))) w
  ·rw [if_pos h2] at h; cases h
  rw [if_neg h2] at h
  obtain ⟨f1, f2, f3, f4, f5, f6, f7⟩ := hF (by omega)
  have hfr : ∀ a ∈ Cm (Bn l x), 2 ≤ a ∧ a < nb l ∧ ¬ reached l x a := fun a ha => (Qi hd hx).1 ha
  have hfn := aS (Bn l x)
  generalize Cm (Bn l x) = fs at *
  rw [Om] at h2
  have hroom : Ho l x.sup.root (layM s fs) w.m ≤ (fs.drop s.nw.length).length := by omega
  rw [Ago hroom] at h
  simp only at h
  cases h
  have hcnt0 : (lyS s (fs.take s.nw.length) 512).2.2 = s.nw.length := cO hs.keys hs.klt
  have htl : (fs.take s.nw.length).length = s.nw.length := by rw [Ay]; omega
  have hat1 := Apq s (fs.take s.nw.length) 512 (by omega)
  rw [hcnt0, Aj (l := fs.take s.nw.length) (i := s.nw.length) (by omega)] at hat1
  have hio := rU hs.dat 512 (by omega : (lyS s (fs.take s.nw.length) 512).2.2 ≤ (fs.take s.nw.length).length)
  have hF1 : Frees l x (lyS s (fs.take s.nw.length) 512).2.1 := ⟨fun y hy => by
   obtain ⟨_, g2, g3, _, _⟩ := hio y hy
   have := hfr _ (As g2)
   exact ⟨this.1, this.2.1, g3⟩, fun y hy => (hfr _ (As (hio y hy).2.1)).2.2⟩
  have hmm : ∀ a ∈ layM s fs, a = 0 ∨ (∃ w ∈ x.trees, a ∈ w.m) ∨ a ∈ (lyS s (fs.take s.nw.length) 512).2.1.map IoV.at0 := fun a ha => by
   rcases Abe 512 (by omega) a ha with h | h
   ·exact (hs.mem a h).imp id fun h => .inl ⟨w, hwm, h⟩
   ·exact .inr (.inr (by rw [hat1]; exact h))
  have hby : Nb (layM s fs) s.size = false := beyond_iff.2 fun i hi => by
   show (lyS s (fs.take s.nw.length) 512).1.getD i 0 = 0
   rw [qR s hs.len _ 512 i (.inl ?_)]
   ·exact hin.zero i hi
   ·cases hg : nGet i s.nw with
    | none => rfl
    | some d =>
     have : i ∈ s.nw.map Prod.fst := (iU i s.nw).1 (by rw [hg]; rfl)
     obtain ⟨p, hp, rfl⟩ := Bt.1 this
     have := hin.keys p hp
     omega
  have hI' := Aqd (m := layM s fs) (fs := fs.drop s.nw.length) (size := s.size) hd hI f4 hF1 (fun a ha => hfr a (Cc ha)) (by rw [hat1, Js]; exact hfn) hmm (by rw [hw0]; exact hroom) hgen hs.size hby rfl
  rw [hw0] at hI'
  obtain ⟨w', g1, g2, g3, g4, g5, g6, g7, _⟩ := hI'
  have hroot : (lay2 l x.sup.root (layM s fs) w.m (fs.drop s.nw.length)).1.getD 0 0 = Jq l x.sup.root (layM s fs) w.m (fs.drop s.nw.length) := by
   unfold Jq
   cases (lay2 l x.sup.root (layM s fs) w.m (fs.drop s.nw.length)).1 <;> rfl
  rw [hroot]
  refine ⟨_, ⟨hd, hI, g1, g5, nU hd g6.fit, _, _, _, _, rfl, g6⟩, Anx hI g3 ?_, ⟨_, _, _, _, rfl, g6, g7⟩, w', rfl, rfl, rfl, rfl, g2, fun hz => vX hz⟩
  rw [g2]
  exact Arq hI hs hwm (by omega) (fun a ha => by have := (hfr a (As ha)).1; omega) g3 g4
 ·rw [if_pos hgen] at h; cases h
end Go.Proofs.YtkpndfkpdnknkaaGreat
set_option maxRecDepth 10000
set_option maxHeartbeats 16000000
namespace Go.Proofs.YtkpndfkpdnknkaaGreat
open Go.AI
theorem jS {l : List UInt8} (hl : l.length < 1000000) {chk : Img → Nat} {st : Img → St} {ios : List IoV} (h : hdoP l chk st = .ok ios) (hst : ∀ x, x.sup.size ≤ 512 → chk x = 0 → StOk (Ez x) (Bh x) → StIn (Bh x) → StOk (Ez x) (st x) ∧ StIn (st x)) :
  (∃ x x', Opd l ios x x' ∧ chk x = 0 ∧ StOk (Ez x) (Bh x) ∧ Ci (Bs l ios) x' = ⟨Pu l (st x), (Ci l x).snaps, (Ci l x).opens⟩ ∧ ∃ (io0 : List IoV) (root size first : Nat), ios = Eu x.sup x.slot io0 root size first ∧ Frees l x io0 ∧ (io0.map IoV.at0).Nodup) ∧ Sn ios ∧ ios.length < 2000 := by
 unfold hdoP at h
 cases hq : sO l with
 | error p => rw [hq] at h; cases h
 | ok x =>
  rw [hq] at h
  simp only at h
  split at h
  ·cases h
  ·rename_i hc
   have hc : chk x = 0 := Dm hc
   obtain ⟨hd, hI⟩ := (Iy hl).1 hq
   obtain ⟨_, hx, hS, hsz, hM⟩ := Ju hl hq
   obtain ⟨w, ws, ht, hg, hby, _⟩ := Gg hI
   have hm : (Bh x).m = w.m := by unfold Bh; rw [ht]; rfl
   have hIn : StIn (Bh x) := ⟨fun i hi => by rw [hm]; exact beyond_iff.1 hby i hi, fun p hp => by cases hp⟩
   obtain ⟨g1, g2⟩ := hst x hsz hc hS hIn
   refine ⟨?_, ?_⟩
   ·obtain ⟨x', hO, hv, hsp, _⟩ := Agu hd hI g1 g2 h
    exact ⟨x, x', hO, hc, hS, hv, hsp⟩
   ·have hmk := hM _ g1
    unfold Gz at h
    split at h
    ·cases h
    ·split at h
     ·cases h
     ·rename_i r ios0 rest heq
      cases h
      obtain ⟨o1, o2, _⟩ := hmk.out r ios0 rest heq
      exact ⟨yC _ _ _ _ _ _ (by omega) fun y hy => (o2 y hy).1.2.2, by rw [rH]; omega⟩
theorem qP {l : List UInt8} {chk : Img → Nat} {st : Img → St} {e : Nat} (h : hdoP l chk st = .error e) : e ≠ 0 := by
 unfold hdoP at h
 cases hq : sO l with
 | error p =>
  obtain ⟨a, e'⟩ := p
  rw [hq] at h
  have := Jr hq
  cases h
  omega
 | ok x =>
  rw [hq] at h
  simp only at h
  split at h
  ·rename_i hc; cases h; exact hc
  ·unfold Gz at h
   split at h
   ·cases h; decide
   ·split at h
    ·cases h; decide
    ·cases h
attribute [local irreducible] aops Bp Cs Df aop W WO
end Go.Proofs.YtkpndfkpdnknkaaGreat
