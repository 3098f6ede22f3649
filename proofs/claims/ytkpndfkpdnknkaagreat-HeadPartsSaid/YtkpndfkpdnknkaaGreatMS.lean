/- Lemmas. -/
import Derived.Test.YtkpndfkpdnknkaaGreatT
import Derived.Test.YtkpndfkpdnknkaaGreatMC
set_option linter.unusedSimpArgs false
set_option linter.unusedVariables false
set_option maxRecDepth 10000
namespace Go.Proofs.YtkpndfkpdnknkaaGreat
open Go.AI
attribute [local irreducible] aops Bp Cs Df aop W WO
variable {xf : ExtF} {gf : Dh}
theorem Adp (k : Nat) (t f : Bool) (l : List UInt8) (a s : Int) (hl : l.length < 4611686018427387904) (hs : 0 ≤ s ∧ s < 4611686018427387904) :
  FnV (Cs B xf gf (k + 1)) oR [.islc t f 1 (BL l), .int .i64 a, .int .i64 s] (.bool (decide (0 ≤ a ∧ a ≤ l.length - s))) := by
 refine eN Ahj rfl ?_
 unfold nD
 repeat' (first
  | refine q_s ?_ | refine q_z ?_ | refine q_n ?_ | refine q_nn ?_ | refine q_mv ?_ | refine Lg ?_ | refine Af (fun _ => ?_) (fun _ => ?_) | refine zR ?_ | refine Wd ?_
  | refine Vs ?_ | refine Vw ?_ | refine Pl ?_ | refine Qj ?_)
 all_goals (refine ⟨Or.inr rfl, _, rfl, ?_⟩; show AV.bool _ = _; simp [cmpP, *] at *; try omega)
theorem Ahu (k : Nat) (a : Int) : FnV (Cs B xf gf (k + 1)) tY [.int .i64 a] (.bool (decide (a = 1 ∨ a = 2 ∨ a = 4 ∨ a = 8))) := by
 refine eN Ahz rfl ?_
 unfold tB
 repeat' (first | refine q_s ?_ | refine q_z ?_ | refine q_n ?_ | refine q_nn ?_ | refine q_mv ?_ | refine Lg ?_ | refine Af (fun _ => ?_) (fun _ => ?_) | refine Wd ?_ | refine Vs ?_)
 all_goals (refine ⟨Or.inr rfl, _, rfl, ?_⟩; show AV.bool _ = _; simp [cmpP, *] at *; try omega)
def fA (n : Nat) : Nat := if n % 2 = 1 then (n / 2) ^^^ 2197175160 else n / 2
def cW : Nat → Nat → Nat
 | 0, n => n
 | k + 1, n => cW k (fA n)
def Akj (n : Nat) (c : UInt8) : Nat := cW 8 (n ^^^ c.toNat)
def fY (n : Nat) (l : List UInt8) : Nat := l.foldl Akj n
theorem mP {n : Nat} (h : n < 4294967296) : fA n < 4294967296 := by
 unfold fA
 split
 ·exact gS (n := 32) (by omega) (by omega)
 ·omega
theorem tK : ∀ (k : Nat) {n : Nat}, n < 4294967296 → cW k n < 4294967296
 | 0, _, h => h
 | k + 1, _, h => tK k (mP h)
theorem Adw (c : UInt8) : c.toNat < 256 := UInt8.toNat_lt c
theorem Alg (c : UInt8) : c.toNat < 4294967296 := by have := Adw c; omega
theorem tG {n : Nat} (c : UInt8) (h : n < 4294967296) : Akj n c < 4294967296 := tK 8 (gS (n := 32) (by omega) (by have := Adw c; omega))
theorem kU : ∀ (l : List UInt8) {n : Nat}, n < 4294967296 → fY n l < 4294967296
 | [], _, h => h
 | c :: l, _, h => kU l (tG c h)
theorem Arc {cf : Dh} {base fuel : Nat} {H : Heap} {T : Tmps} {n : Nat} (hn : n < 4294967296) (hk : 8 < fuel) {v13 v14 v15 : AV} (hT : Has T [(5, .int .u32 n), (23, .int .i64 0), (13, v13), (14, v14), (15, v15)]) :
  W (Bp cf xf base fuel (.loop nY) T H) (fun ex T' H' => ex = .exit 2 ∧ H' = H ∧ Has T' [(5, .int .u32 (cW 8 n)), (13, v13), (14, v14), (15, v15)]) := by
 refine gG (fun m T' H' => m ≤ 8 ∧ H' = H ∧ ∃ n' : Nat, n' < 4294967296 ∧ cW m n' = cW 8 n ∧ Has T' [(5, .int .u32 n'), (23, .int .i64 (8 - m : Int)), (13, v13), (14, v14), (15, v15)]) 8 ⟨by omega, rfl, n, hn, rfl, by simpa using hT⟩ hk ?_
 rintro m T H hm ⟨_, rfl, n', hn', hg, hT⟩
 rw [hT.eq]
 simp only [over]
 unfold nY
 repeat' (first
  | refine q_s ?_ | refine q_z ?_ | refine q_b ?_ | refine Ato rfl hn' rfl rfl ?_ | refine Aty rfl hn' rfl rfl ?_ | refine Aun rfl (by omega) (by decide) rfl rfl ?_
  | refine q_mv ?_ | refine Lg ?_ | refine Af (fun _ => ?_) (fun _ => ?_) | refine Nh ?_ | refine Xc ?_)
 ·refine ⟨by omega, by omega, rfl, fA n', mP hn', ?_, ?_, by show AV.int _ _ = _; congr 1; omega, rfl, rfl, rfl, trivial⟩
  ·rw [← hg]; obtain ⟨m', rfl⟩ : ∃ m', m = m' + 1 := ⟨m - 1, by omega⟩; rfl
  ·rename_i h1
   simp only [cmpP] at h1
   show AV.int _ _ = AV.int _ _
   rw [fA, if_pos (by omega)]; rfl
 ·refine ⟨by omega, by omega, rfl, fA n', mP hn', ?_, ?_, by show AV.int _ _ = _; congr 1; omega, rfl, rfl, rfl, trivial⟩
  ·rw [← hg]; obtain ⟨m', rfl⟩ : ∃ m', m = m' + 1 := ⟨m - 1, by omega⟩; rfl
  ·rename_i h1
   simp only [cmpP] at h1
   show AV.int _ _ = AV.int _ _
   rw [fA, if_neg (by omega)]
 ·rename_i h1
  simp only [cmpP] at h1
  obtain rfl : m = 0 := by omega
  exact ⟨rfl, rfl, by rw [← hg]; rfl, rfl, rfl, rfl, trivial⟩
def Lo (sum : Int) (l : List UInt8) : Int := 4294967295 - (fY (4294967295 - (sum % 4294967296).toNat) l : Nat)
theorem Aon {cf : Dh} {base fuel : Nat} {H : Heap} {T : Tmps} {n : Nat} {t f : Bool} {l : List UInt8} (hn : n < 4294967296) (hl : l.length < 1000000) (hk : 1000000 ≤ fuel)
  (hT : Has T [(5, .int .u32 n), (13, .islc t f 1 (BL l)), (14, .int .i64 l.length), (15, .int .i64 0)]) :
  W (Bp cf xf base fuel (.loop nQ) T H) (fun ex T' H' => ex = .exit 0 ∧ H' = H ∧ T' 5 = .int .u32 (fY n l)) := by
 refine gG (fun m T' H' => m ≤ l.length ∧ H' = H ∧ ∃ n' : Nat, n' < 4294967296 ∧ fY n' (l.drop (l.length - m)) = fY n l ∧ Has T' [(5, .int .u32 n'), (13, .islc t f 1 (BL l)), (14, .int .i64 l.length), (15, .int .i64 (l.length - m : Int))])
  l.length ⟨by omega, rfl, n, hn, by simp, by simpa using hT⟩ (by omega) ?_
 rintro m T H hm ⟨_, rfl, n', hn', hg, hT⟩
 rw [hT.eq]
 simp only [over]
 unfold nQ
 repeat' (first
  | refine q_s ?_ | refine q_z ?_ | refine q_b ?_ | refine Ake rfl (Alg _) rfl rfl ?_ | refine Ads rfl rfl hn' (Alg _) rfl rfl ?_ | refine q_mv ?_ | refine Kv ?_
  | refine Gb ?_ | refine Aw ?_ | refine Lg ?_ | refine Af (fun _ => ?_) (fun _ => ?_) | refine Nh ?_ | refine Xc ?_ | refine Uz ?_ | refine q_at ?_)
 ·refine (Arc (gS (n := 32) (by omega) (by have := Adw (bAt l (l.length - m)); omega)) (by omega) ⟨rfl, rfl, rfl, rfl, rfl, trivial⟩).mono ?_
  rintro ex T2 H2 ⟨rfl, rfl, h2⟩
  rw [h2.eq]
  simp only [over]
  show W _ _
  repeat' (first
   | refine q_s ?_ | refine q_z ?_ | refine q_b ?_ | refine q_mv ?_ | refine Kv ?_ | refine Gb ?_ | refine Aw ?_ | refine Lg ?_ | refine Af (fun _ => ?_) (fun _ => ?_)
   | refine Nh ?_ | refine Xc ?_ | refine Uz ?_ | refine q_at ?_)
  have hd : l.drop (l.length - m) = bAt l (l.length - m) :: l.drop (l.length - (m - 1)) := by
   have hlt : l.length - m < l.length := by omega
   have e1 : ((l.length : Int) - m).toNat = l.length - m := by omega
   rw [show l.length - (m - 1) = l.length - m + 1 by omega, Dl hlt]
   simp [bAt, e1, hlt]
  refine ⟨by omega, by omega, rfl, _, tG (bAt l (l.length - m)) hn', ?_, rfl, rfl, rfl, by show AV.int _ _ = _; congr 1; omega, trivial⟩
  rw [← hg, hd]; rfl
 ·obtain rfl : m = 0 := by omega
  refine ⟨rfl, rfl, ?_⟩
  show AV.int _ _ = _
  rw [← hg]; simp [fY]
theorem uU (k : Nat) (hk : 1000000 ≤ k) (t f : Bool) (l : List UInt8) (sum : Int) (hl : l.length < 1000000) (hs : 0 ≤ sum ∧ sum ≤ 4294967295) :
  FnV (Cs B xf gf (k + 1)) rS [.int .i64 sum, .islc t f 1 (BL l)] (.int .i64 (Lo sum l)) := by
 obtain ⟨s, rfl⟩ : ∃ s : Nat, sum = s := ⟨sum.toNat, by omega⟩
 refine eN Air rfl ?_
 unfold crc_More
 repeat' (first
  | refine q_s ?_ | refine q_z ?_ | refine q_b ?_ | refine Ake rfl (by omega) rfl rfl ?_ | refine Adu rfl (by omega) rfl rfl ?_ | refine q_mv ?_ | refine Kv ?_
  | refine Gb ?_ | refine Aw ?_ | refine Lg ?_ | refine Af (fun _ => ?_) (fun _ => ?_) | refine Nh ?_ | refine Xc ?_ | refine Xz ?_ | refine Ye ?_
  | refine Vw ?_ | refine Pl ?_ | refine Qj ?_ | refine Yw ?_ | refine Pz ?_ | refine aY ?_ | refine Uz ?_ | refine q_at ?_)
 refine (Aon (n := 4294967295 - s) (by omega) hl hk ⟨rfl, rfl, rfl, rfl, trivial⟩).mono ?_
 rintro ex T2 H2 ⟨rfl, rfl, h2⟩
 have hr : fY (4294967295 - s) l < 4294967296 := kU l (by omega)
 rw [Has.eq (T := T2) (ps := [(5, _)]) ⟨h2, trivial⟩]
 simp only [over]
 show W _ _
 repeat' (first
  | refine q_s ?_ | refine q_z ?_ | refine q_b ?_ | refine Adu rfl hr rfl rfl ?_ | refine q_mv ?_ | refine Kv ?_ | refine Gb ?_ | refine Aw ?_ | refine Lg ?_
  | refine Af (fun _ => ?_) (fun _ => ?_) | refine Nh ?_ | refine Xc ?_ | refine Xz ?_ | refine Ye ?_ | refine Vw ?_ | refine Pl ?_ | refine Qj ?_
  | refine Yw ?_ | refine Pz ?_ | refine aY ?_ | refine Uz ?_ | refine q_at ?_)
 refine ⟨Or.inr rfl, _, rfl, ?_⟩
 show AV.int _ _ = AV.int _ _
 congr 1
 have e : ((s : Int) % 4294967296).toNat = s := by omega
 rw [Lo, e]; omega
theorem xV (k : Nat) (hk : 1000000 ≤ k) (t f : Bool) (l : List UInt8) (hl : l.length < 1000000) :
  FnV (Cs B xf gf (k + 2)) lJ [.islc t f 1 (BL l)] (.int .i64 (Lo 0 l)) := by
 refine eN Aoo rfl ?_
 unfold Abv
 repeat' (first | refine q_s ?_ | refine q_z ?_ | refine q_mv ?_ | refine Bf (uU k hk t f l 0 hl (by omega)) (fun _ => ?_) (fun _ => ?_) | refine Ab (uU k hk t f l 0 hl (by omega)) ?_)
 refine ⟨Or.inr rfl, _, rfl, rfl⟩
end Go.Proofs.YtkpndfkpdnknkaaGreat
set_option maxRecDepth 10000
set_option maxHeartbeats 16000000
namespace Go.Proofs.YtkpndfkpdnknkaaGreat
open Go.AI
attribute [local irreducible] aops Bp Cs Df aop W WO
variable {xf : ExtF} {gf : Dh}
def leAt (n : Int) (i : Nat) : UInt8 := UInt8.ofNat ((n / 2 ^ (8 * i)) % 256).toNat
def leB (s : Nat) (n : Int) : List UInt8 := (List.range s).map (leAt n)
@[simp] theorem leB_length (s : Nat) (n : Int) : (leB s n).length = s := by simp [leB]
def putB (s : Nat) (l : List Int) : List UInt8 := l.flatMap (leB s)
@[simp] theorem putB_length (s : Nat) : ∀ l : List Int, (putB s l).length = l.length * s
 | [] => by simp [putB]
 | n :: l => by
  have := putB_length s l
  simp [putB] at this ⊢
  rw [this, De]; omega
theorem vO (n : Int) (i : Nat) : ((leAt n i).toNat : Int) = (n / 2 ^ (8 * i)) % 256 := by
 have h0 : 0 ≤ (n / 2 ^ (8 * i)) % 256 := Int.emod_nonneg _ (by decide)
 have h1 : (n / 2 ^ (8 * i)) % 256 < 256 := Int.emod_lt_of_pos _ (by decide)
 simp only [leAt, UInt8.toNat_ofNat']
 omega
theorem Aen {cf : Dh} {base fuel : Nat} {H : Heap} {T : Tmps} {j gn : Nat} {a z : List UInt8} {n : Int} {s : Nat} (hs : s ≤ 8) (hz : s ≤ z.length) (ha : a.length < 1000000) (hlz : z.length < 1000000) (hk : 8 < fuel)
  (hT : Has T [(0, .slc j gn (a.length + z.length) 1 0 (a.length + z.length) .none), (1, .int .i64 a.length), (2, .int .i64 s), (3, .int .i64 n), (9, .int .i64 s), (10, .int .i64 0)]) :
  W (Bp cf xf base fuel (.loop zO) T (H.upd j ⟨gn, false, .row 1 (BL (a ++ z))⟩)) (fun ex T' H' => ex = .exit 0 ∧ H' = H.upd j ⟨gn, false, .row 1 (BL (a ++ leB s n ++ z.drop s))⟩) := by
 refine gG (fun m T' H' => m ≤ s ∧ H' = H.upd j ⟨gn, false, .row 1 (BL (a ++ leB (s - m) n ++ z.drop (s - m)))⟩ ∧ Has T' [(0, .slc j gn (a.length + z.length) 1 0 (a.length + z.length) .none), (1, .int .i64 a.length), (3, .int .i64 n), (9, .int .i64 s), (10, .int .i64 (s - m : Int))])
  s ⟨by omega, by simp [leB], ?_⟩ (by omega) ?_
 ·obtain ⟨h0, h1, h2, h3, h4, h5, _⟩ := hT
  exact ⟨h0, h1, h3, h4, by rw [h5]; congr 1; omega, trivial⟩
 rintro m T H1 hm ⟨_, rfl, hT⟩
 rw [hT.eq]
 simp only [over]
 unfold zO
 repeat' (first
  | refine q_s ?_ | refine q_z ?_ | refine q_b ?_ | refine Axz rfl rfl (by omega) (by simp only [IntKind.bits]; omega) rfl rfl ?_ | refine Avb rfl rfl rfl ?_
  | refine Eb rfl rfl (Heap.upd_same _ _ _) (by simp; omega) (by omega) (by simp; omega) (by omega) rfl rfl ?_
  | refine Aoh (c := leAt n (s - m)) rfl rfl ?_ (Heap.upd_same _ _ _) (by simp; omega) (by omega) rfl rfl ?_ | refine q_mv ?_ | refine Lg ?_
  | refine Af (fun _ => ?_) (fun _ => ?_) | refine Nh ?_ | refine bX ?_ | refine Xc ?_ | refine Vu ?_ | refine Cn ?_ | refine Uz ?_ | refine q_at ?_)
 ·rw [vO]
  have : (8 * ((s : Int) - m)).toNat = 8 * (s - m) := by omega
  rw [this]
 ·refine ⟨by omega, by omega, ?_, rfl, rfl, rfl, rfl, by show AV.int _ _ = _; congr 1; omega, trivial⟩
  rw [Heap.upd_upd]
  congr 4
  have e : 0 + ((a.length : Int) + (s - m)).toNat = a.length + (s - m) := by omega
  have e1 : s - (m - 1) = s - m + 1 := by omega
  have hd : z.drop (s - m) = z[s - m]'(by omega) :: z.drop (s - m + 1) := Dl (by omega)
  rw [e, e1, hd, Ce, Jt _ _ (by omega), Nat.add_sub_cancel_left, Jt _ _ (by simp), leB_length, Mo, Vj]
  simp only [leB, Jl, Br, Bb, Lj, Ce, Jx, Dc]
 ·obtain rfl : m = 0 := by omega
  exact ⟨rfl, rfl⟩
theorem Asf (k : Nat) (hk : 8 < k) (base : Nat) (H : Heap) (j gn v : Nat) (a z : List UInt8) (n at0 : Int) (s : Nat) (hs : s ≤ 8) (hz : s ≤ z.length) (ha : a.length < 1000000) (hlz : z.length < 1000000) (hat : at0 = a.length) (hv : a.length + z.length = v) (hr : H j = ⟨gn, false, .row 1 (BL (a ++ z))⟩) :
  Cs B xf gf (k + 1) kP base [.slc j gn v 1 0 v .none, .int .i64 at0, .int .i64 s, .int .i64 n] H = some (.tup [], H.upd j ⟨gn, false, .row 1 (BL (a ++ leB s n ++ z.drop s))⟩) := by
 subst hat hv
 have hw : W (Bp (Cs B xf gf k) xf base k le_Set.code (Zu [.slc j gn (a.length + z.length) 1 0 (a.length + z.length) .none, .int .i64 a.length, .int .i64 s, .int .i64 n]) H) (fun ex T' H' => ex = .normal ∧ H' = H.upd j ⟨gn, false, .row 1 (BL (a ++ leB s n ++ z.drop s))⟩) := by
  unfold le_Set
  repeat' (first
   | refine q_s ?_ | refine q_z ?_ | refine q_b ?_ | refine q_mv ?_ | refine Lg ?_ | refine Af (fun _ => ?_) (fun _ => ?_) | refine Nh ?_ | refine bX ?_ | refine Xc ?_
   | refine Vu ?_ | refine Cn ?_ | refine Uz ?_ | refine q_at ?_)
  rw [← Heap.upd_self hr]
  refine (Aen hs hz ha hlz hk ⟨rfl, rfl, rfl, rfl, rfl, rfl, trivial⟩).mono ?_
  rintro ex T2 H2 ⟨rfl, rfl⟩
  exact ⟨rfl, by rw [Heap.upd_self hr]⟩
 obtain ⟨ex, T', H', h1, rfl, rfl⟩ := hw.out
 rw [iG Aqr rfl h1 (.inl rfl)]
 rfl
abbrev IL (ns : List Int) : List AV := ns.map (AV.int .i64)
end Go.Proofs.YtkpndfkpdnknkaaGreat
set_option maxRecDepth 10000
set_option maxHeartbeats 16000000
namespace Go.Proofs.YtkpndfkpdnknkaaGreat
open Go.AI
attribute [local irreducible] aops Bp Cs Df aop W WO
variable {xf : ExtF} {gf : Dh}
def leN : List UInt8 → Nat
 | [] => 0
 | c :: l => c.toNat + 256 * leN l
theorem vA : ∀ a b : List UInt8, leN (a ++ b) = leN a + 256 ^ a.length * leN b
 | [], b => by simp [leN]
 | c :: a, b => by
  have := vA a b
  simp only [Jx, leN, this, Ao, Fw, Nat.mul_add]
  rw [Gl (256 ^ a.length) 256, Nat.mul_assoc]; omega
theorem Adc : ∀ a : List UInt8, leN a < 256 ^ a.length
 | [] => by simp [leN]
 | c :: a => by
  have h1 := Adc a
  have h2 := Adw c
  simp only [leN, Ao, Fw]
  omega
theorem tE {l : List UInt8} {a i : Nat} (h : a + i < l.length) : (l.drop a).take (i + 1) = (l.drop a).take i ++ [bAt l (a + i : Nat)] := by
 have h2 : i < (l.drop a).length := by simp; omega
 rw [Au h2]
 congr 2
 simp only [Qm, bAt, Ax, List.getD, Aa h, Asw]
def getP (l : List UInt8) (a : Int) (s : Nat) : Int × Int :=
 if 0 ≤ a ∧ a ≤ l.length - s then
  if leN ((l.drop a.toNat).take s) ≤ 4611686018427387903 then (leN ((l.drop a.toNat).take s), 0) else (0, 1)
 else (0, 3)
theorem Agm {cf : Dh} {base fuel : Nat} {H : Heap} {T : Tmps} {t f : Bool} {l : List UInt8} {a s : Nat} (hs : s ≤ 8) (ha : a + s ≤ l.length) (hl : l.length < 1000000) (hk : 8 < fuel)
  (hT : Has T [(0, .islc t f 1 (BL l)), (1, .int .i64 a), (8, .int .u64 0), (20, .int .i64 s), (21, .int .i64 0)]) :
  W (Bp cf xf base fuel (.loop lC) T H) (fun ex T' H' => ex = .exit 1 ∧ H' = H ∧ T' 8 = .int .u64 (leN ((l.drop a).take s) : Nat)) := by
 refine gG (fun m T' H' => m ≤ s ∧ H' = H ∧ Has T' [(0, .islc t f 1 (BL l)), (1, .int .i64 a), (8, .int .u64 (leN ((l.drop a).take (s - m)) : Nat)), (20, .int .i64 s), (21, .int .i64 ((s - m : Nat) : Int))])
  s ⟨by omega, rfl, ?_⟩ (by omega) ?_
 ·obtain ⟨h0, h1, h2, h3, h4, _⟩ := hT
  exact ⟨h0, h1, by rw [h2]; simp [leN], h3, by rw [h4]; simp, trivial⟩
 rintro m T H1 hm ⟨_, rfl, hT⟩
 obtain ⟨i, hi⟩ : ∃ i, i = s - m := ⟨_, rfl⟩
 rw [← hi] at hT
 by_cases hm0 : m = 0
 ·have his : i = s := by omega
  rw [hT.eq]
  simp only [over]
  unfold lC
  repeat' (first
   | refine q_s ?_ | refine q_z ?_ | refine q_b ?_ | refine q_mv ?_ | refine Kv ?_ | refine Gb ?_ | refine Aw ?_ | refine Lg ?_ | refine Af (fun _ => ?_) (fun _ => ?_)
   | refine Nh ?_ | refine bX ?_ | refine Xc ?_ | refine Pz ?_ | refine aY ?_ | refine Uz ?_ | refine q_at ?_)
  exact ⟨rfl, rfl, by rw [his]; rfl⟩
 have hlen : ((l.drop a).take i).length = i := by simp; omega
 have hlt := Adc ((l.drop a).take i)
 rw [hlen] at hlt
 have hp : 256 ^ i = 2 ^ (8 * i) := by rw [Nat.pow_mul]
 rw [hp] at hlt
 have hc := Adw (bAt l (a + i : Nat))
 have h8 : 2 ^ (8 * i) * 256 ≤ 18446744073709551616 := by
  have : 2 ^ (8 * i) ≤ 2 ^ 56 := Nat.pow_le_pow_right (by decide) (by omega)
  omega
 have hb1 : (bAt l (a + i : Nat)).toNat * 2 ^ (8 * i) + 2 ^ (8 * i) ≤ 2 ^ (8 * i) * 256 := by
  have : ((bAt l (a + i : Nat)).toNat + 1) * 2 ^ (8 * i) ≤ 256 * 2 ^ (8 * i) := Fs _ (by omega)
  rw [De] at this; omega
 have e8 : ((8 : Int) * i).toNat = 8 * i := by omega
 have ea : ((a : Int) + i) = ((a + i : Nat) : Int) := by omega
 rw [hT.eq]
 simp only [over]
 unfold lC
 repeat' (first
  | refine q_s ?_ | refine q_z ?_ | refine q_b ?_ | (refine Avl rfl (n := (a + i : Nat)) (by show AV.int _ _ = AV.int _ _; rw [ea]) (by omega) (by omega) rfl rfl ?_)
  | (refine Aek rfl (by omega) rfl rfl ?_) | (refine Are (a := (bAt l (a + i : Nat)).toNat) (b := 8 * (i : Int)) rfl rfl (by omega) (by rw [e8]; omega) rfl rfl ?_)
  | (refine Apw (a := leN ((l.drop a).take i)) (c := (bAt l (a + i : Nat)).toNat) (i := 8 * i) rfl (by show AV.int _ _ = AV.int _ _; rw [e8]) hlt (by omega) rfl rfl ?_) | refine q_mv ?_
  | refine Kv ?_ | refine Gb ?_ | refine Aw ?_ | refine Lg ?_ | refine Af (fun _ => ?_) (fun _ => ?_) | refine Nh ?_ | refine bX ?_ | refine Pz ?_
  | refine aY ?_ | refine Uz ?_ | refine q_at ?_)
 refine ⟨by omega, by omega, rfl, rfl, rfl, ?_, rfl, by show AV.int _ _ = AV.int _ _; congr 1; omega, trivial⟩
 show AV.int _ _ = AV.int _ _
 congr 2
 have e1 : s - (m - 1) = i + 1 := by omega
 rw [e1, tE (by omega), vA, hlen, hp]
 simp only [leN, Ol, Et]
 rw [Gl]; omega
theorem Agz (k : Nat) (hk : 8 < k) (t f : Bool) (l : List UInt8) (a : Int) (s : Nat) (hs : s = 1 ∨ s = 2 ∨ s = 4 ∨ s = 8) (hl : l.length < 1000000) :
  FnV (Cs B xf gf (k + 1)) iJ [.islc t f 1 (BL l), .int .i64 a, .int .i64 s] (.tup [.int .i64 (getP l a s).1, .int .i64 (getP l a s).2]) := by
 obtain ⟨k, rfl⟩ : ∃ k', k = k' + 1 := ⟨k - 1, by omega⟩
 have hr := Ahu (xf := xf) (gf := gf) k s
 rw [An (by omega)] at hr
 have hw := Adp (xf := xf) (gf := gf) k t f l a s (by omega) (by omega)
 refine eN Apn rfl ?_
 unfold le_Get
 by_cases hin : 0 ≤ a ∧ a ≤ l.length - s
 ·rw [An hin] at hw
  obtain ⟨a, rfl⟩ : ∃ a' : Nat, a = a' := ⟨a.toNat, by omega⟩
  repeat' (first
   | refine q_s ?_ | refine q_z ?_ | refine q_b ?_ | refine cS hr rfl rfl rfl ?_ | refine cS hw rfl rfl rfl ?_ | refine q_mv ?_ | refine Kv ?_ | refine Gb ?_
   | refine Aw ?_ | refine Lg ?_ | refine Af (fun _ => ?_) (fun _ => ?_) | refine Nh ?_ | refine bX ?_ | refine Xc ?_ | refine Xz ?_ | refine Ye ?_
   | refine Yw ?_ | refine Pz ?_ | refine aY ?_ | refine Uz ?_ | refine q_at ?_)
  refine (Agm (t := t) (f := f) (l := l) (a := a) (s := s) (by omega) (by omega) hl hk ?_).mono ?_
  ·exact ⟨rfl, rfl, rfl, rfl, rfl, trivial⟩
  rintro ex T2 H2 ⟨rfl, rfl, h0⟩
  have hlt := Adc ((l.drop a).take s)
  have hlen : ((l.drop a).take s).length = s := by simp; omega
  have hp : 256 ^ s = 2 ^ (8 * s) := by rw [Nat.pow_mul]
  have hp2 : 2 ^ (8 * s) ≤ 2 ^ 64 := Nat.pow_le_pow_right (by decide) (by omega)
  rw [hlen, hp] at hlt
  rw [Has.eq (T := T2) (ps := [(8, _)]) ⟨h0, trivial⟩]
  simp only [over]
  show W _ _
  repeat' (first
   | refine q_s ?_ | refine q_z ?_ | refine q_b ?_ | refine q_mv ?_ | refine Kv ?_ | refine Gb ?_ | refine Aw ?_ | refine Lg ?_ | refine Af (fun _ => ?_) (fun _ => ?_)
   | refine Nh ?_ | refine bX ?_ | refine Xc ?_ | refine Xz ?_ | refine Ye ?_ | refine Yw ?_ | refine Pz ?_ | refine aY ?_ | refine Uz ?_ | refine q_at ?_)
  ·rename_i h1
   refine ⟨Or.inr rfl, _, rfl, ?_⟩
   simp only [cmpP] at h1
   rw [getP, if_pos hin, Ax, if_neg (by omega)]; rfl
  ·rename_i h1
   refine ⟨Or.inr rfl, _, rfl, ?_⟩
   simp only [cmpP] at h1
   rw [getP, if_pos hin, Ax, if_pos (by omega)]; rfl
 ·rw [Ba hin] at hw
  repeat' (first
   | refine q_s ?_ | refine q_z ?_ | refine q_b ?_ | refine cS hr rfl rfl rfl ?_ | refine cS hw rfl rfl rfl ?_ | refine q_mv ?_ | refine Kv ?_ | refine Gb ?_
   | refine Aw ?_ | refine Lg ?_ | refine Af (fun _ => ?_) (fun _ => ?_) | refine Nh ?_ | refine bX ?_ | refine Xc ?_ | refine Xz ?_ | refine Ye ?_
   | refine Yw ?_ | refine Pz ?_ | refine aY ?_ | refine Uz ?_ | refine q_at ?_)
  refine ⟨Or.inr rfl, _, rfl, ?_⟩
  rw [getP, if_neg hin]; rfl
end Go.Proofs.YtkpndfkpdnknkaaGreat
set_option maxRecDepth 10000
set_option maxHeartbeats 16000000
namespace Go.Proofs.YtkpndfkpdnknkaaGreat
open Go.AI
attribute [local irreducible] aops Bp Cs Df aop W WO
variable {xf : ExtF} {gf : Dh}
def oU (l : List UInt8) : Bool := decide (4 ≤ l.length ∧ (leN (l.drop (l.length - 4)) : Int) = Lo 0 (l.take (l.length - 4)))
theorem Ayq {l : List UInt8} {a : Int} (h0 : 0 ≤ a) (h1 : a + 4 ≤ l.length) : getP l a 4 = ((leN ((l.drop a.toNat).take 4) : Int), 0) := by
 have hlt := Adc ((l.drop a.toNat).take 4)
 have hlen : ((l.drop a.toNat).take 4).length = 4 := by simp; omega
 rw [hlen] at hlt
 unfold getP
 rw [if_pos ⟨h0, by omega⟩, if_pos (by omega)]
theorem Aib (k : Nat) (hk : 1000000 ≤ k) (t f : Bool) (l : List UInt8) (hl : l.length < 1000000) : FnV (Cs B xf gf (k + 3)) fP [.islc t f 1 (BL l)] (.bool (oU l)) := by
 have hg := Agz (xf := xf) (gf := gf) (k + 1) (by omega) t f l (l.length - 4) 4 (by omega) hl
 have hs := xV (xf := xf) (gf := gf) k hk t
 refine eN Ajn rfl ?_
 unfold uE
 repeat' (first
  | refine q_s ?_ | refine q_z ?_ | refine q_b ?_ | (refine cS (hs _ (l.take ((l.length : Int) - 4).toNat) (by simp; omega)) rfl rfl rfl ?_) | refine q_mv ?_ | refine Lg ?_
  | refine Af (fun _ => ?_) (fun _ => ?_) | refine zR ?_ | refine Vw ?_ | refine Pl ?_ | refine Qj ?_ | refine q_ex ?_ | refine aK ?_ | refine aE ?_
  | refine cJ ?_ | refine Bf (hg) (fun _ => ?_) (fun _ => ?_) | refine Ab (hg) ?_)
 all_goals (refine ⟨Or.inr rfl, _, rfl, ?_⟩)
 all_goals (show AV.bool _ = AV.bool _; congr 1)
 all_goals simp only [cmpP] at *
 ·symm
  exact Ba (by omega)
 all_goals
  have hL : (getP l (l.length - 4) 4).1 = (leN (l.drop (l.length - 4)) : Int) := by
   have e : ((l.length : Int) - 4).toNat = l.length - 4 := by omega
   rw [Ayq (by omega) (by omega), e, Aj (by simp; omega)]
  have e : ((l.length : Int) - 4).toNat = l.length - 4 := by omega
  rename_i h1 h2
  rw [e, hL] at h2
  symm
 ·exact An ⟨by omega, h2⟩
 ·exact Ba (fun h => h2 h.2)
theorem Abr {n j gn v : Nat} {H : Heap} {ro : Bool} {cap : Option Nat} {l : List UInt8} (hr : H j = ⟨gn, ro, .row 1 (BL l)⟩) (hv : l.length = v) : fz true (n + 2) H (.slc j gn v 1 0 v cap) = .islc false false 1 (BL l) := by
 rw [Acj (Ev hr (by simpa using hv)) (by omega), Cd, ← hv, Ch]
 rfl
def Mb (l : List UInt8) : Nat → List Nat → Option (List Int × Nat)
 | a, [] => some ([], a)
 | a, s :: r => if (getP l a s).2 = 0 then (Mb l (a + s) r).map fun (o, e) => ((getP l a s).1 :: o, e) else none
theorem Ayk (out : Bool) (n : Nat) (H : Heap) (l : List Int) : (IL l).map (fz out (n + 1) H) = IL l := by
 induction l with
 | nil => rfl
 | cons c l ih =>
  show _ :: List.map _ (IL l) = _
  rw [ih]; rfl
theorem Auq {n j gn v : Nat} {H : Heap} {ro : Bool} {cap : Option Nat} {l : List Int} (hr : H j = ⟨gn, ro, .row 1 (IL l)⟩) (hv : l.length = v) : fz true (n + 2) H (.slc j gn v 1 0 v cap) = .islc false false 1 (IL l) := by
 rw [Oi (Ev hr (by simpa using hv)) (by omega), Cd, ← hv, Aj (by simp), Ayk]
 rfl
theorem Amk (a b : List Int) : IL (a ++ b) = IL a ++ IL b := Br
theorem Asl {a : List UInt8} {i : Nat} (h : i < a.length) : bAt a (i : Int) = a[i] := by
 simp [bAt, h]
theorem pG {cf : Dh} {base fuel : Nat} {H : Heap} {T : Tmps} {t f t' f' : Bool} {a b : List UInt8} (hab : a.length = b.length) (ha : a.length < 1000000) (hk : 1000000 ≤ fuel)
  (hT : Has T [(0, .islc t f 1 (BL a)), (1, .islc t' f' 1 (BL b)), (5, .int .i64 0)]) :
  W (Bp cf xf base fuel (.loop eJ) T H) (fun ex T' H' => (ex = .ret ∧ a ≠ b ∧ T' 4 = .bool false) ∨ (ex = .exit 0 ∧ a = b)) := by
 refine gG (fun m T' H' => m ≤ a.length ∧ a.take (a.length - m) = b.take (a.length - m) ∧ Has T' [(0, .islc t f 1 (BL a)), (1, .islc t' f' 1 (BL b)), (5, .int .i64 ((a.length - m : Nat) : Int))])
  a.length ⟨Bc _, by simp, ?_⟩ (by omega) ?_
 ·obtain ⟨h0, h1, h2, _⟩ := hT
  exact ⟨h0, h1, by rw [h2]; simp, trivial⟩
 rintro m T H hm ⟨_, heq, hT⟩
 obtain ⟨i, hi⟩ : ∃ i, i = a.length - m := ⟨_, rfl⟩
 rw [← hi] at hT heq
 rw [hT.eq]
 simp only [over]
 unfold eJ
 repeat' (first
  | refine q_s ?_ | refine q_z ?_ | refine q_b ?_ | refine q_mv ?_ | refine Kv ?_ | refine Gb ?_ | refine Aw ?_ | refine Lg ?_ | refine Af (fun _ => ?_) (fun _ => ?_)
  | refine Nh ?_ | refine Vw ?_ | refine Pl ?_ | refine Qj ?_ | refine q_at ?_)
 ·rename_i h1 h2
  simp only [cmpP] at h1 h2
  refine .inl ⟨rfl, fun h => h2 ?_, rfl⟩
  subst h; rfl
 ·rename_i h1 h2
  simp only [cmpP] at h1 h2
  have hia : i < a.length := by omega
  have e : a[i] = b[i]'(by omega) := by
   rw [Asl hia, Asl (by omega)] at h2
   have := Ed.1 h2
   exact UInt8.toNat_inj.1 (by omega)
  refine ⟨by omega, by omega, ?_, rfl, rfl, by show AV.int _ _ = AV.int _ _; congr 1; omega, trivial⟩
  rw [show a.length - (m - 1) = i + 1 by omega, Au hia, Au (by omega), heq, e]
 ·rename_i h1
  simp only [cmpP] at h1
  refine .inr ⟨rfl, ?_⟩
  have : i = a.length := by omega
  rw [this, Ch, hab, Ch] at heq
  exact heq
theorem Abl (k : Nat) (hk : 1000000 ≤ k) (t f t' f' : Bool) (s s' : Nat) (a b : List UInt8) (ha : a.length < 1000000) (hb : b.length < 1000000) (hs : s = 1 ∨ a = []) (hs' : s' = 1 ∨ b = []) :
  FnV (Cs B xf gf (k + 1)) Yj [.islc t f s (BL a), .islc t' f' s' (BL b)] (.bool (decide (a = b))) := by
 refine eN Abq rfl ?_
 unfold keep_Bytes
 by_cases hab : a.length = b.length
 ·by_cases hn : a = []
  ·have hbn : b = [] := by
    subst hn; exact Hm hab.symm
   subst hn hbn
   repeat' (first
    | refine q_s ?_ | refine q_z ?_ | refine q_b ?_ | refine Bi (n := 0) rfl rfl rfl rfl ?_ | refine q_mv ?_ | refine Kv ?_ | refine Gb ?_ | refine Aw ?_
    | refine Lg ?_ | refine Af (fun _ => ?_) (fun _ => ?_) | refine Nh ?_ | refine Vw ?_ | refine Pl ?_ | refine Qj ?_ | refine q_at ?_)
   refine Nz ?_
   obtain ⟨k', rfl⟩ : ∃ k', k = k' + 1 := ⟨k - 1, by omega⟩
   refine Ada ?_
   repeat' (first
    | refine q_s ?_ | refine q_z ?_ | refine q_b ?_ | refine Bi (n := 0) rfl rfl rfl rfl ?_ | refine q_mv ?_ | refine Kv ?_ | refine Gb ?_ | refine Aw ?_
    | refine Lg ?_ | refine Af (fun _ => ?_) (fun _ => ?_) | refine Nh ?_ | refine Vw ?_ | refine Pl ?_ | refine Qj ?_ | refine q_at ?_)
   exact ⟨Or.inr rfl, _, rfl, rfl⟩
  ·have h1 : s = 1 := by rcases hs with h | h; exact h; exact absurd h hn
   have h2 : s' = 1 := by
    rcases hs' with h | h
    ·exact h
    ·subst h; exact absurd (Hm hab) hn
   subst h1 h2
   repeat' (first
    | refine q_s ?_ | refine q_z ?_ | refine q_b ?_ | refine q_mv ?_ | refine Kv ?_ | refine Gb ?_ | refine Aw ?_ | refine Lg ?_ | refine Af (fun _ => ?_) (fun _ => ?_)
    | refine Nh ?_ | refine Vw ?_ | refine Pl ?_ | refine Qj ?_ | refine q_at ?_)
   refine (pG (a := a) (b := b) (t := t) (f := f) (t' := t') (f' := f') hab ha hk ?_).mono ?_
   ·exact ⟨rfl, rfl, rfl, trivial⟩
   rintro ex T2 H2 (⟨rfl, h, h4⟩ | ⟨rfl, h⟩)
   ·refine ⟨Or.inr rfl, T2 4, rfl, ?_⟩
    rw [h4, Ba h]; rfl
   ·show W _ _
    repeat' (first
     | refine q_s ?_ | refine q_z ?_ | refine q_b ?_ | refine q_mv ?_ | refine Kv ?_ | refine Gb ?_ | refine Aw ?_ | refine Lg ?_
     | refine Af (fun _ => ?_) (fun _ => ?_) | refine Nh ?_ | refine Vw ?_ | refine Pl ?_ | refine Qj ?_ | refine q_at ?_)
    refine ⟨Or.inr rfl, _, rfl, ?_⟩
    rw [An h]; rfl
 ·skip
  repeat' (first
   | refine q_s ?_ | refine q_z ?_ | refine q_b ?_ | refine q_mv ?_ | refine Kv ?_ | refine Gb ?_ | refine Aw ?_ | refine Lg ?_ | refine Af (fun _ => ?_) (fun _ => ?_)
   | refine Nh ?_ | refine Vw ?_ | refine Pl ?_ | refine Qj ?_ | refine q_at ?_)
  refine ⟨Or.inr rfl, _, rfl, ?_⟩
  rw [Ba (fun h => hab (by rw [h]))]
  rfl
end Go.Proofs.YtkpndfkpdnknkaaGreat
set_option maxRecDepth 10000
set_option maxHeartbeats 4000000
namespace Go.Proofs.YtkpndfkpdnknkaaGreat
open Go.AI
attribute [local irreducible] aops Bp Cs Df aop W WO
variable {xf : ExtF} {gf : Dh}
structure Cmd where
 kind : Int
 id : Int
 parent : Int
 size : Int
 frm : Int
 count : Int
 source : Int
 digest : Int
 data : List UInt8
def Cmd.av (t f : Bool) (s : Nat) (c : Cmd) : AV := .agg [.int .i64 c.kind, .int .i64 c.id, .int .i64 c.parent, .int .i64 c.size, .int .i64 c.frm, .int .i64 c.count, .int .i64 c.source, .int .i64 c.digest, .islc t f s (BL c.data)]
def gU (id parent : Int) : Bool := decide ((1 ≤ id ∧ id ≤ 4611686018427387903) ∧ parent ≠ id ∧ (parent = 0 ∨ (1 ≤ parent ∧ parent ≤ 4611686018427387903)))
theorem Vq (k : Nat) (a : Int) : FnV (Cs B xf gf (k + 1)) nS [.int .i64 a] (.int .i64 (if 1 ≤ a ∧ a ≤ 4611686018427387903 then 0 else 1)) := by
 refine eN Aff rfl ?_
 unfold mT
 repeat' (first | refine q_s ?_ | refine q_z ?_ | refine q_b ?_ | refine q_n ?_ | refine q_nn ?_ | refine q_mv ?_ | refine Lg ?_ | refine Af (fun _ => ?_) (fun _ => ?_) | refine Wd ?_ | refine Vs ?_)
 all_goals (refine ⟨Or.inr rfl, _, rfl, ?_⟩; show AV.int _ _ = AV.int _ _; congr 1; first | rw [if_pos (by omega)] | rw [if_neg (by omega)])
theorem mZ (k : Nat) (a b : Int) : FnV (Cs B xf gf (k + 2)) Qz [.int .i64 a, .int .i64 b] (.bool (gU a b)) := by
 refine eN kW rfl ?_
 unfold Ur
 repeat' (first
  | refine q_s ?_ | refine q_z ?_ | refine q_n ?_ | refine q_nn ?_ | refine q_mv ?_ | refine Lg ?_ | refine Af (fun _ => ?_) (fun _ => ?_) | refine Wd ?_ | refine Vs ?_
  | refine Bf (Vq k a) (fun _ => ?_) (fun _ => ?_) | refine Ab (Vq k a) ?_ | refine Bf (Vq k b) (fun _ => ?_) (fun _ => ?_)
  | refine Ab (Vq k b) ?_)
 all_goals (refine ⟨Or.inr rfl, _, rfl, ?_⟩; show AV.bool _ = AV.bool _; congr 1; simp only [gU, cmpP, ite_eq_left_iff] at *; first | (symm; rw [Dg]; omega) | (symm; rw [decide_eq_false_iff_not]; omega))
end Go.Proofs.YtkpndfkpdnknkaaGreat
