/- Lemmas. -/
import Derived.Test.YtkaiiopoilpjeaaT
import Derived.Test.YtkaiiopoilpjeaaMC
set_option linter.unusedSimpArgs false
set_option linter.unusedVariables false
set_option maxRecDepth 10000
namespace Go.Proofs.Ytkaiiopoilpjeaa
open Go.AI
attribute [local irreducible] aops Bb Cj Dm aop W WO
variable {xf : ExtF} {gf : Cx}
theorem pM (k : Nat) (t f : Bool) (l : List UInt8) (a s : Int) (hl : l.length < 4611686018427387904) (hs : 0 ≤ s ∧ s < 4611686018427387904) :
  FnV (Cj B xf gf (k + 1)) cK [.islc t f 1 (BL l), .int .i64 a, .int .i64 s] (.bool (decide (0 ≤ a ∧ a ≤ l.length - s))) := by
 refine Yj rK rfl ?_
 unfold bN
 repeat' (first
  | refine q_s ?_ | refine q_z ?_ | refine q_n ?_ | refine q_nn ?_ | refine q_mv ?_ | refine Ky ?_ | refine Ab (fun _ => ?_) (fun _ => ?_) | refine pN ?_ | refine Rr ?_
  | refine Rm ?_ | refine hJ ?_ | refine Hk ?_ | refine Ws ?_)
 all_goals (refine ⟨Or.inr rfl, _, rfl, ?_⟩; show AV.bool _ = _; simp [cmpP, *] at *; try omega)
theorem tT (k : Nat) (a : Int) : FnV (Cj B xf gf (k + 1)) eI [.int .i64 a] (.bool (decide (a = 1 ∨ a = 2 ∨ a = 4 ∨ a = 8))) := by
 refine Yj tY rfl ?_
 unfold iN
 repeat' (first | refine q_s ?_ | refine q_z ?_ | refine q_n ?_ | refine q_nn ?_ | refine q_mv ?_ | refine Ky ?_ | refine Ab (fun _ => ?_) (fun _ => ?_) | refine Rr ?_ | refine Rm ?_)
 all_goals (refine ⟨Or.inr rfl, _, rfl, ?_⟩; show AV.bool _ = _; simp [cmpP, *] at *; try omega)
def Wt (n : Nat) : Nat := if n % 2 = 1 then (n / 2) ^^^ 2197175160 else n / 2
def Uu : Nat → Nat → Nat
 | 0, n => n
 | k + 1, n => Uu k (Wt n)
def wU (n : Nat) (c : UInt8) : Nat := Uu 8 (n ^^^ c.toNat)
def Wx (n : Nat) (l : List UInt8) : Nat := l.foldl wU n
theorem bO {n : Nat} (h : n < 4294967296) : Wt n < 4294967296 := by
 unfold Wt
 split
 ·exact Xr (n := 32) (by omega) (by omega)
 ·omega
theorem iT : ∀ (k : Nat) {n : Nat}, n < 4294967296 → Uu k n < 4294967296
 | 0, _, h => h
 | k + 1, _, h => iT k (bO h)
theorem sP (c : UInt8) : c.toNat < 256 := UInt8.toNat_lt c
theorem wO (c : UInt8) : c.toNat < 4294967296 := by have := sP c; omega
theorem gG {n : Nat} (c : UInt8) (h : n < 4294967296) : wU n c < 4294967296 := iT 8 (Xr (n := 32) (by omega) (by have := sP c; omega))
theorem aZ : ∀ (l : List UInt8) {n : Nat}, n < 4294967296 → Wx n l < 4294967296
 | [], _, h => h
 | c :: l, _, h => aZ l (gG c h)
theorem Abw {cf : Cx} {base fuel : Nat} {H : Heap} {T : Tmps} {n : Nat} (hn : n < 4294967296) (hk : 8 < fuel) {v13 v14 v15 : AV} (hT : Has T [(5, .int .u32 n), (23, .int .i64 0), (13, v13), (14, v14), (15, v15)]) :
  W (Bb cf xf base fuel (.loop cL) T H) (fun ex T' H' => ex = .exit 2 ∧ H' = H ∧ Has T' [(5, .int .u32 (Uu 8 n)), (13, v13), (14, v14), (15, v15)]) := by
 refine aY (fun m T' H' => m ≤ 8 ∧ H' = H ∧ ∃ n' : Nat, n' < 4294967296 ∧ Uu m n' = Uu 8 n ∧ Has T' [(5, .int .u32 n'), (23, .int .i64 (8 - m : Int)), (13, v13), (14, v14), (15, v15)]) 8 ⟨by omega, rfl, n, hn, rfl, by simpa using hT⟩ hk ?_
 rintro m T H hm ⟨_, rfl, n', hn', hg, hT⟩
 rw [hT.eq]
 simp only [over]
 unfold cL
 repeat' (first
  | refine q_s ?_ | refine q_z ?_ | refine q_b ?_ | refine Afc rfl hn' rfl rfl ?_ | refine Aey rfl hn' rfl rfl ?_ | refine Afi rfl (by omega) (by decide) rfl rfl ?_
  | refine q_mv ?_ | refine Ky ?_ | refine Ab (fun _ => ?_) (fun _ => ?_) | refine Np ?_ | refine Sm ?_)
 ·refine ⟨by omega, by omega, rfl, Wt n', bO hn', ?_, ?_, by show AV.int _ _ = _; congr 1; omega, rfl, rfl, rfl, trivial⟩
  ·rw [← hg]; obtain ⟨m', rfl⟩ : ∃ m', m = m' + 1 := ⟨m - 1, by omega⟩; rfl
  ·rename_i h1
   simp only [cmpP] at h1
   show AV.int _ _ = AV.int _ _
   rw [Wt, if_pos (by omega)]; rfl
 ·refine ⟨by omega, by omega, rfl, Wt n', bO hn', ?_, ?_, by show AV.int _ _ = _; congr 1; omega, rfl, rfl, rfl, trivial⟩
  ·rw [← hg]; obtain ⟨m', rfl⟩ : ∃ m', m = m' + 1 := ⟨m - 1, by omega⟩; rfl
  ·rename_i h1
   simp only [cmpP] at h1
   show AV.int _ _ = AV.int _ _
   rw [Wt, if_neg (by omega)]
 ·rename_i h1
  simp only [cmpP] at h1
  obtain rfl : m = 0 := by omega
  exact ⟨rfl, rfl, by rw [← hg]; rfl, rfl, rfl, rfl, trivial⟩
def Iv (sum : Int) (l : List UInt8) : Int := 4294967295 - (Wx (4294967295 - (sum % 4294967296).toNat) l : Nat)
theorem zF {cf : Cx} {base fuel : Nat} {H : Heap} {T : Tmps} {n : Nat} {t f : Bool} {l : List UInt8} (hn : n < 4294967296) (hl : l.length < 1000000) (hk : 1000000 ≤ fuel)
  (hT : Has T [(5, .int .u32 n), (13, .islc t f 1 (BL l)), (14, .int .i64 l.length), (15, .int .i64 0)]) :
  W (Bb cf xf base fuel (.loop cI) T H) (fun ex T' H' => ex = .exit 0 ∧ H' = H ∧ T' 5 = .int .u32 (Wx n l)) := by
 refine aY (fun m T' H' => m ≤ l.length ∧ H' = H ∧ ∃ n' : Nat, n' < 4294967296 ∧ Wx n' (l.drop (l.length - m)) = Wx n l ∧ Has T' [(5, .int .u32 n'), (13, .islc t f 1 (BL l)), (14, .int .i64 l.length), (15, .int .i64 (l.length - m : Int))])
  l.length ⟨by omega, rfl, n, hn, by simp, by simpa using hT⟩ (by omega) ?_
 rintro m T H hm ⟨_, rfl, n', hn', hg, hT⟩
 rw [hT.eq]
 simp only [over]
 unfold cI
 repeat' (first
  | refine q_s ?_ | refine q_z ?_ | refine q_b ?_ | refine wP rfl (wO _) rfl rfl ?_ | refine rR rfl rfl hn' (wO _) rfl rfl ?_ | refine q_mv ?_ | refine Lh ?_
  | refine Gp ?_ | refine Bj ?_ | refine Ky ?_ | refine Ab (fun _ => ?_) (fun _ => ?_) | refine Np ?_ | refine Sm ?_ | refine Pi ?_ | refine q_at ?_)
 ·refine (Abw (Xr (n := 32) (by omega) (by have := sP (bAt l (l.length - m)); omega)) (by omega) ⟨rfl, rfl, rfl, rfl, rfl, trivial⟩).mono ?_
  rintro ex T2 H2 ⟨rfl, rfl, h2⟩
  rw [h2.eq]
  simp only [over]
  show W _ _
  repeat' (first
   | refine q_s ?_ | refine q_z ?_ | refine q_b ?_ | refine q_mv ?_ | refine Lh ?_ | refine Gp ?_ | refine Bj ?_ | refine Ky ?_ | refine Ab (fun _ => ?_) (fun _ => ?_)
   | refine Np ?_ | refine Sm ?_ | refine Pi ?_ | refine q_at ?_)
  have hd : l.drop (l.length - m) = bAt l (l.length - m) :: l.drop (l.length - (m - 1)) := by
   have hlt : l.length - m < l.length := by omega
   have e1 : ((l.length : Int) - m).toNat = l.length - m := by omega
   rw [show l.length - (m - 1) = l.length - m + 1 by omega, Cg hlt]
   simp [bAt, e1, hlt]
  refine ⟨by omega, by omega, rfl, _, gG (bAt l (l.length - m)) hn', ?_, rfl, rfl, rfl, by show AV.int _ _ = _; congr 1; omega, trivial⟩
  rw [← hg, hd]; rfl
 ·obtain rfl : m = 0 := by omega
  refine ⟨rfl, rfl, ?_⟩
  show AV.int _ _ = _
  rw [← hg]; simp [Wx]
theorem iW (k : Nat) (hk : 1000000 ≤ k) (t f : Bool) (l : List UInt8) (sum : Int) (hl : l.length < 1000000) (hs : 0 ≤ sum ∧ sum ≤ 4294967295) :
  FnV (Cj B xf gf (k + 1)) iC [.int .i64 sum, .islc t f 1 (BL l)] (.int .i64 (Iv sum l)) := by
 obtain ⟨s, rfl⟩ : ∃ s : Nat, sum = s := ⟨sum.toNat, by omega⟩
 refine Yj tR rfl ?_
 unfold crc_More
 repeat' (first
  | refine q_s ?_ | refine q_z ?_ | refine q_b ?_ | refine wP rfl (by omega) rfl rfl ?_ | refine rM rfl (by omega) rfl rfl ?_ | refine q_mv ?_ | refine Lh ?_
  | refine Gp ?_ | refine Bj ?_ | refine Ky ?_ | refine Ab (fun _ => ?_) (fun _ => ?_) | refine Np ?_ | refine Sm ?_ | refine Ty ?_ | refine Tt ?_
  | refine hJ ?_ | refine Hk ?_ | refine Ws ?_ | refine Tg ?_ | refine Nf ?_ | refine Vp ?_ | refine Pi ?_ | refine q_at ?_)
 refine (zF (n := 4294967295 - s) (by omega) hl hk ⟨rfl, rfl, rfl, rfl, trivial⟩).mono ?_
 rintro ex T2 H2 ⟨rfl, rfl, h2⟩
 have hr : Wx (4294967295 - s) l < 4294967296 := aZ l (by omega)
 rw [Has.eq (T := T2) (ps := [(5, _)]) ⟨h2, trivial⟩]
 simp only [over]
 show W _ _
 repeat' (first
  | refine q_s ?_ | refine q_z ?_ | refine q_b ?_ | refine rM rfl hr rfl rfl ?_ | refine q_mv ?_ | refine Lh ?_ | refine Gp ?_ | refine Bj ?_ | refine Ky ?_
  | refine Ab (fun _ => ?_) (fun _ => ?_) | refine Np ?_ | refine Sm ?_ | refine Ty ?_ | refine Tt ?_ | refine hJ ?_ | refine Hk ?_ | refine Ws ?_
  | refine Tg ?_ | refine Nf ?_ | refine Vp ?_ | refine Pi ?_ | refine q_at ?_)
 refine ⟨Or.inr rfl, _, rfl, ?_⟩
 show AV.int _ _ = AV.int _ _
 congr 1
 have e : ((s : Int) % 4294967296).toNat = s := by omega
 rw [Iv, e]; omega
theorem kP (k : Nat) (hk : 1000000 ≤ k) (t f : Bool) (l : List UInt8) (hl : l.length < 1000000) :
  FnV (Cj B xf gf (k + 2)) bE [.islc t f 1 (BL l)] (.int .i64 (Iv 0 l)) := by
 refine Yj yI rfl ?_
 unfold pB
 repeat' (first | refine q_s ?_ | refine q_z ?_ | refine q_mv ?_ | refine Ag (iW k hk t f l 0 hl (by omega)) (fun _ => ?_) (fun _ => ?_) | refine Ad (iW k hk t f l 0 hl (by omega)) ?_)
 refine ⟨Or.inr rfl, _, rfl, rfl⟩
end Go.Proofs.Ytkaiiopoilpjeaa
set_option maxRecDepth 10000
set_option maxHeartbeats 16000000
namespace Go.Proofs.Ytkaiiopoilpjeaa
open Go.AI
attribute [local irreducible] aops Bb Cj Dm aop W WO
variable {xf : ExtF} {gf : Cx}
def leAt (n : Int) (i : Nat) : UInt8 := UInt8.ofNat ((n / 2 ^ (8 * i)) % 256).toNat
def leB (s : Nat) (n : Int) : List UInt8 := (List.range s).map (leAt n)
@[simp] theorem leB_length (s : Nat) (n : Int) : (leB s n).length = s := by simp [leB]
def putB (s : Nat) (l : List Int) : List UInt8 := l.flatMap (leB s)
@[simp] theorem putB_length (s : Nat) : ∀ l : List Int, (putB s l).length = l.length * s
 | [] => by simp [putB]
 | n :: l => by
  have := putB_length s l
  simp [putB] at this ⊢
  rw [this, Cp]; omega
theorem iG (n : Int) (i : Nat) : ((leAt n i).toNat : Int) = (n / 2 ^ (8 * i)) % 256 := by
 have h0 : 0 ≤ (n / 2 ^ (8 * i)) % 256 := Int.emod_nonneg _ (by decide)
 have h1 : (n / 2 ^ (8 * i)) % 256 < 256 := Int.emod_lt_of_pos _ (by decide)
 simp only [leAt, UInt8.toNat_ofNat']
 omega
theorem rF {cf : Cx} {base fuel : Nat} {H : Heap} {T : Tmps} {j gn : Nat} {a z : List UInt8} {n : Int} {s : Nat} (hs : s ≤ 8) (hz : s ≤ z.length) (ha : a.length < 1000000) (hlz : z.length < 1000000) (hk : 8 < fuel)
  (hT : Has T [(0, .slc j gn (a.length + z.length) 1 0 (a.length + z.length) .none), (1, .int .i64 a.length), (2, .int .i64 s), (3, .int .i64 n), (9, .int .i64 s), (10, .int .i64 0)]) :
  W (Bb cf xf base fuel (.loop mB) T (H.upd j ⟨gn, false, .row 1 (BL (a ++ z))⟩)) (fun ex T' H' => ex = .exit 0 ∧ H' = H.upd j ⟨gn, false, .row 1 (BL (a ++ leB s n ++ z.drop s))⟩) := by
 refine aY (fun m T' H' => m ≤ s ∧ H' = H.upd j ⟨gn, false, .row 1 (BL (a ++ leB (s - m) n ++ z.drop (s - m)))⟩ ∧ Has T' [(0, .slc j gn (a.length + z.length) 1 0 (a.length + z.length) .none), (1, .int .i64 a.length), (3, .int .i64 n), (9, .int .i64 s), (10, .int .i64 (s - m : Int))])
  s ⟨by omega, by simp [leB], ?_⟩ (by omega) ?_
 ·obtain ⟨h0, h1, h2, h3, h4, h5, _⟩ := hT
  exact ⟨h0, h1, h3, h4, by rw [h5]; congr 1; omega, trivial⟩
 rintro m T H1 hm ⟨_, rfl, hT⟩
 rw [hT.eq]
 simp only [over]
 unfold mB
 repeat' (first
  | refine q_s ?_ | refine q_z ?_ | refine q_b ?_ | refine Agz rfl rfl (by omega) (by simp only [IntKind.bits]; omega) rfl rfl ?_ | refine Afm rfl rfl rfl ?_
  | refine Ep rfl rfl (Heap.upd_same _ _ _) (by simp; omega) (by omega) (by simp; omega) (by omega) rfl rfl ?_
  | refine xY (c := leAt n (s - m)) rfl rfl ?_ (Heap.upd_same _ _ _) (by simp; omega) (by omega) rfl rfl ?_ | refine q_mv ?_ | refine Ky ?_
  | refine Ab (fun _ => ?_) (fun _ => ?_) | refine Np ?_ | refine Vx ?_ | refine Sm ?_ | refine Ru ?_ | refine Cr ?_ | refine Pi ?_ | refine q_at ?_)
 ·rw [iG]
  have : (8 * ((s : Int) - m)).toNat = 8 * (s - m) := by omega
  rw [this]
 ·refine ⟨by omega, by omega, ?_, rfl, rfl, rfl, rfl, by show AV.int _ _ = _; congr 1; omega, trivial⟩
  rw [Heap.upd_upd]
  congr 4
  have e : 0 + ((a.length : Int) + (s - m)).toNat = a.length + (s - m) := by omega
  have e1 : s - (m - 1) = s - m + 1 := by omega
  have hd : z.drop (s - m) = z[s - m]'(by omega) :: z.drop (s - m + 1) := Cg (by omega)
  rw [e, e1, hd, Dr, kH _ _ (by omega), Nat.add_sub_cancel_left, kH _ _ (by simp), leB_length, zY, List.set_cons_zero]
  simp only [leB, jE, Br, Bc, jA, Dr, Hf, Dk]
 ·obtain rfl : m = 0 := by omega
  exact ⟨rfl, rfl⟩
theorem Abn (k : Nat) (hk : 8 < k) (base : Nat) (H : Heap) (j gn v : Nat) (a z : List UInt8) (n at0 : Int) (s : Nat) (hs : s ≤ 8) (hz : s ≤ z.length) (ha : a.length < 1000000) (hlz : z.length < 1000000) (hat : at0 = a.length) (hv : a.length + z.length = v) (hr : H j = ⟨gn, false, .row 1 (BL (a ++ z))⟩) :
  Cj B xf gf (k + 1) Ye base [.slc j gn v 1 0 v .none, .int .i64 at0, .int .i64 s, .int .i64 n] H = some (.tup [], H.upd j ⟨gn, false, .row 1 (BL (a ++ leB s n ++ z.drop s))⟩) := by
 subst hat hv
 have hw : W (Bb (Cj B xf gf k) xf base k le_Set.code (Qw [.slc j gn (a.length + z.length) 1 0 (a.length + z.length) .none, .int .i64 a.length, .int .i64 s, .int .i64 n]) H) (fun ex T' H' => ex = .normal ∧ H' = H.upd j ⟨gn, false, .row 1 (BL (a ++ leB s n ++ z.drop s))⟩) := by
  unfold le_Set
  repeat' (first
   | refine q_s ?_ | refine q_z ?_ | refine q_b ?_ | refine q_mv ?_ | refine Ky ?_ | refine Ab (fun _ => ?_) (fun _ => ?_) | refine Np ?_ | refine Vx ?_ | refine Sm ?_
   | refine Ru ?_ | refine Cr ?_ | refine Pi ?_ | refine q_at ?_)
  rw [← Heap.upd_self hr]
  refine (rF hs hz ha hlz hk ⟨rfl, rfl, rfl, rfl, rfl, rfl, trivial⟩).mono ?_
  rintro ex T2 H2 ⟨rfl, rfl⟩
  exact ⟨rfl, by rw [Heap.upd_self hr]⟩
 obtain ⟨ex, T', H', h1, rfl, rfl⟩ := hw.out
 rw [Tl Adj rfl h1 (.inl rfl)]
 rfl
abbrev IL (ns : List Int) : List AV := ns.map (AV.int .i64)
end Go.Proofs.Ytkaiiopoilpjeaa
set_option maxRecDepth 10000
set_option maxHeartbeats 16000000
namespace Go.Proofs.Ytkaiiopoilpjeaa
open Go.AI
attribute [local irreducible] aops Bb Cj Dm aop W WO
variable {xf : ExtF} {gf : Cx}
def leN : List UInt8 → Nat
 | [] => 0
 | c :: l => c.toNat + 256 * leN l
theorem hX : ∀ a b : List UInt8, leN (a ++ b) = leN a + 256 ^ a.length * leN b
 | [], b => by simp [leN]
 | c :: a, b => by
  have := hX a b
  simp only [Hf, leN, this, As, zZ, Nat.mul_add]
  rw [jC (256 ^ a.length) 256, Nat.mul_assoc]; omega
theorem nI : ∀ a : List UInt8, leN a < 256 ^ a.length
 | [] => by simp [leN]
 | c :: a => by
  have h1 := nI a
  have h2 := sP c
  simp only [leN, As, zZ]
  omega
theorem fE {l : List UInt8} {a i : Nat} (h : a + i < l.length) : (l.drop a).take (i + 1) = (l.drop a).take i ++ [bAt l (a + i : Nat)] := by
 have h2 : i < (l.drop a).length := by simp; omega
 rw [Bh h2]
 congr 2
 simp only [List.getElem_drop, bAt, Bd, List.getD, Ai h, Nr]
def getP (l : List UInt8) (a : Int) (s : Nat) : Int × Int :=
 if 0 ≤ a ∧ a ≤ l.length - s then
  if leN ((l.drop a.toNat).take s) ≤ 4611686018427387903 then (leN ((l.drop a.toNat).take s), 0) else (0, 1)
 else (0, 3)
theorem rT {cf : Cx} {base fuel : Nat} {H : Heap} {T : Tmps} {t f : Bool} {l : List UInt8} {a s : Nat} (hs : s ≤ 8) (ha : a + s ≤ l.length) (hl : l.length < 1000000) (hk : 8 < fuel)
  (hT : Has T [(0, .islc t f 1 (BL l)), (1, .int .i64 a), (8, .int .u64 0), (20, .int .i64 s), (21, .int .i64 0)]) :
  W (Bb cf xf base fuel (.loop bD) T H) (fun ex T' H' => ex = .exit 1 ∧ H' = H ∧ T' 8 = .int .u64 (leN ((l.drop a).take s) : Nat)) := by
 refine aY (fun m T' H' => m ≤ s ∧ H' = H ∧ Has T' [(0, .islc t f 1 (BL l)), (1, .int .i64 a), (8, .int .u64 (leN ((l.drop a).take (s - m)) : Nat)), (20, .int .i64 s), (21, .int .i64 ((s - m : Nat) : Int))])
  s ⟨by omega, rfl, ?_⟩ (by omega) ?_
 ·obtain ⟨h0, h1, h2, h3, h4, _⟩ := hT
  exact ⟨h0, h1, by rw [h2]; simp [leN], h3, by rw [h4]; simp, trivial⟩
 rintro m T H1 hm ⟨_, rfl, hT⟩
 obtain ⟨i, hi⟩ : ∃ i, i = s - m := ⟨_, rfl⟩
 rw [← hi] at hT
 by_cases hm0 : m = 0
 ·have his : i = s := by omega
  rw [hT.eq]
  simp only [over]
  unfold bD
  repeat' (first
   | refine q_s ?_ | refine q_z ?_ | refine q_b ?_ | refine q_mv ?_ | refine Lh ?_ | refine Gp ?_ | refine Bj ?_ | refine Ky ?_ | refine Ab (fun _ => ?_) (fun _ => ?_)
   | refine Np ?_ | refine Vx ?_ | refine Sm ?_ | refine Nf ?_ | refine Vp ?_ | refine Pi ?_ | refine q_at ?_)
  exact ⟨rfl, rfl, by rw [his]; rfl⟩
 have hlen : ((l.drop a).take i).length = i := by simp; omega
 have hlt := nI ((l.drop a).take i)
 rw [hlen] at hlt
 have hp : 256 ^ i = 2 ^ (8 * i) := by rw [Nat.pow_mul]
 rw [hp] at hlt
 have hc := sP (bAt l (a + i : Nat))
 have h8 : 2 ^ (8 * i) * 256 ≤ 18446744073709551616 := by
  have : 2 ^ (8 * i) ≤ 2 ^ 56 := Nat.pow_le_pow_right (by decide) (by omega)
  omega
 have hb1 : (bAt l (a + i : Nat)).toNat * 2 ^ (8 * i) + 2 ^ (8 * i) ≤ 2 ^ (8 * i) * 256 := by
  have : ((bAt l (a + i : Nat)).toNat + 1) * 2 ^ (8 * i) ≤ 256 * 2 ^ (8 * i) := Ef _ (by omega)
  rw [Cp] at this; omega
 have e8 : ((8 : Int) * i).toNat = 8 * i := by omega
 have ea : ((a : Int) + i) = ((a + i : Nat) : Int) := by omega
 rw [hT.eq]
 simp only [over]
 unfold bD
 repeat' (first
  | refine q_s ?_ | refine q_z ?_ | refine q_b ?_ | (refine Afu rfl (n := (a + i : Nat)) (by show AV.int _ _ = AV.int _ _; rw [ea]) (by omega) (by omega) rfl rfl ?_)
  | (refine pX rfl (by omega) rfl rfl ?_) | (refine Adq (a := (bAt l (a + i : Nat)).toNat) (b := 8 * (i : Int)) rfl rfl (by omega) (by rw [e8]; omega) rfl rfl ?_)
  | (refine Aab (a := leN ((l.drop a).take i)) (c := (bAt l (a + i : Nat)).toNat) (i := 8 * i) rfl (by show AV.int _ _ = AV.int _ _; rw [e8]) hlt (by omega) rfl rfl ?_) | refine q_mv ?_
  | refine Lh ?_ | refine Gp ?_ | refine Bj ?_ | refine Ky ?_ | refine Ab (fun _ => ?_) (fun _ => ?_) | refine Np ?_ | refine Vx ?_ | refine Nf ?_
  | refine Vp ?_ | refine Pi ?_ | refine q_at ?_)
 refine ⟨by omega, by omega, rfl, rfl, rfl, ?_, rfl, by show AV.int _ _ = AV.int _ _; congr 1; omega, trivial⟩
 show AV.int _ _ = AV.int _ _
 congr 2
 have e1 : s - (m - 1) = i + 1 := by omega
 rw [e1, fE (by omega), hX, hlen, hp]
 simp only [leN, Nat.mul_zero, El]
 rw [jC]; omega
theorem qI (k : Nat) (hk : 8 < k) (t f : Bool) (l : List UInt8) (a : Int) (s : Nat) (hs : s = 1 ∨ s = 2 ∨ s = 4 ∨ s = 8) (hl : l.length < 1000000) :
  FnV (Cj B xf gf (k + 1)) Xy [.islc t f 1 (BL l), .int .i64 a, .int .i64 s] (.tup [.int .i64 (getP l a s).1, .int .i64 (getP l a s).2]) := by
 obtain ⟨k, rfl⟩ : ∃ k', k = k' + 1 := ⟨k - 1, by omega⟩
 have hr := tT (xf := xf) (gf := gf) k s
 rw [Az (by omega)] at hr
 have hw := pM (xf := xf) (gf := gf) k t f l a s (by omega) (by omega)
 refine Yj Acs rfl ?_
 unfold le_Get
 by_cases hin : 0 ≤ a ∧ a ≤ l.length - s
 ·rw [Az hin] at hw
  obtain ⟨a, rfl⟩ : ∃ a' : Nat, a = a' := ⟨a.toNat, by omega⟩
  repeat' (first
   | refine q_s ?_ | refine q_z ?_ | refine q_b ?_ | refine Uv hr rfl rfl rfl ?_ | refine Uv hw rfl rfl rfl ?_ | refine q_mv ?_ | refine Lh ?_ | refine Gp ?_
   | refine Bj ?_ | refine Ky ?_ | refine Ab (fun _ => ?_) (fun _ => ?_) | refine Np ?_ | refine Vx ?_ | refine Sm ?_ | refine Ty ?_ | refine Tt ?_
   | refine Tg ?_ | refine Nf ?_ | refine Vp ?_ | refine Pi ?_ | refine q_at ?_)
  refine (rT (t := t) (f := f) (l := l) (a := a) (s := s) (by omega) (by omega) hl hk ?_).mono ?_
  ·exact ⟨rfl, rfl, rfl, rfl, rfl, trivial⟩
  rintro ex T2 H2 ⟨rfl, rfl, h0⟩
  have hlt := nI ((l.drop a).take s)
  have hlen : ((l.drop a).take s).length = s := by simp; omega
  have hp : 256 ^ s = 2 ^ (8 * s) := by rw [Nat.pow_mul]
  have hp2 : 2 ^ (8 * s) ≤ 2 ^ 64 := Nat.pow_le_pow_right (by decide) (by omega)
  rw [hlen, hp] at hlt
  rw [Has.eq (T := T2) (ps := [(8, _)]) ⟨h0, trivial⟩]
  simp only [over]
  show W _ _
  repeat' (first
   | refine q_s ?_ | refine q_z ?_ | refine q_b ?_ | refine q_mv ?_ | refine Lh ?_ | refine Gp ?_ | refine Bj ?_ | refine Ky ?_ | refine Ab (fun _ => ?_) (fun _ => ?_)
   | refine Np ?_ | refine Vx ?_ | refine Sm ?_ | refine Ty ?_ | refine Tt ?_ | refine Tg ?_ | refine Nf ?_ | refine Vp ?_ | refine Pi ?_ | refine q_at ?_)
  ·rename_i h1
   refine ⟨Or.inr rfl, _, rfl, ?_⟩
   simp only [cmpP] at h1
   rw [getP, if_pos hin, Bd, if_neg (by omega)]; rfl
  ·rename_i h1
   refine ⟨Or.inr rfl, _, rfl, ?_⟩
   simp only [cmpP] at h1
   rw [getP, if_pos hin, Bd, if_pos (by omega)]; rfl
 ·rw [Bo hin] at hw
  repeat' (first
   | refine q_s ?_ | refine q_z ?_ | refine q_b ?_ | refine Uv hr rfl rfl rfl ?_ | refine Uv hw rfl rfl rfl ?_ | refine q_mv ?_ | refine Lh ?_ | refine Gp ?_
   | refine Bj ?_ | refine Ky ?_ | refine Ab (fun _ => ?_) (fun _ => ?_) | refine Np ?_ | refine Vx ?_ | refine Sm ?_ | refine Ty ?_ | refine Tt ?_
   | refine Tg ?_ | refine Nf ?_ | refine Vp ?_ | refine Pi ?_ | refine q_at ?_)
  refine ⟨Or.inr rfl, _, rfl, ?_⟩
  rw [getP, if_neg hin]; rfl
end Go.Proofs.Ytkaiiopoilpjeaa
set_option maxRecDepth 10000
set_option maxHeartbeats 16000000
namespace Go.Proofs.Ytkaiiopoilpjeaa
open Go.AI
attribute [local irreducible] aops Bb Cj Dm aop W WO
variable {xf : ExtF} {gf : Cx}
def cC (l : List UInt8) : Bool := decide (4 ≤ l.length ∧ (leN (l.drop (l.length - 4)) : Int) = Iv 0 (l.take (l.length - 4)))
theorem Aif {l : List UInt8} {a : Int} (h0 : 0 ≤ a) (h1 : a + 4 ≤ l.length) : getP l a 4 = ((leN ((l.drop a.toNat).take 4) : Int), 0) := by
 have hlt := nI ((l.drop a.toNat).take 4)
 have hlen : ((l.drop a.toNat).take 4).length = 4 := by simp; omega
 rw [hlen] at hlt
 unfold getP
 rw [if_pos ⟨h0, by omega⟩, if_pos (by omega)]
theorem uN (k : Nat) (hk : 1000000 ≤ k) (t f : Bool) (l : List UInt8) (hl : l.length < 1000000) : FnV (Cj B xf gf (k + 3)) Xh [.islc t f 1 (BL l)] (.bool (cC l)) := by
 have hg := qI (xf := xf) (gf := gf) (k + 1) (by omega) t f l (l.length - 4) 4 (by omega) hl
 have hs := kP (xf := xf) (gf := gf) k hk t
 refine Yj uK rfl ?_
 unfold iY
 repeat' (first
  | refine q_s ?_ | refine q_z ?_ | refine q_b ?_ | (refine Uv (hs _ (l.take ((l.length : Int) - 4).toNat) (by simp; omega)) rfl rfl rfl ?_) | refine q_mv ?_ | refine Ky ?_
  | refine Ab (fun _ => ?_) (fun _ => ?_) | refine pN ?_ | refine hJ ?_ | refine Hk ?_ | refine Ws ?_ | refine q_ex ?_ | refine Yw ?_ | refine Zc ?_
  | refine Yr ?_ | refine Ag (hg) (fun _ => ?_) (fun _ => ?_) | refine Ad (hg) ?_)
 all_goals (refine ⟨Or.inr rfl, _, rfl, ?_⟩)
 all_goals (show AV.bool _ = AV.bool _; congr 1)
 all_goals simp only [cmpP] at *
 ·symm
  exact Bo (by omega)
 all_goals
  have hL : (getP l (l.length - 4) 4).1 = (leN (l.drop (l.length - 4)) : Int) := by
   have e : ((l.length : Int) - 4).toNat = l.length - 4 := by omega
   rw [Aif (by omega) (by omega), e, Aj (by simp; omega)]
  have e : ((l.length : Int) - 4).toNat = l.length - 4 := by omega
  rename_i h1 h2
  rw [e, hL] at h2
  symm
 ·exact Az ⟨by omega, h2⟩
 ·exact Bo (fun h => h2 h.2)
theorem uP {n j gn v : Nat} {H : Heap} {ro : Bool} {cap : Option Nat} {l : List UInt8} (hr : H j = ⟨gn, ro, .row 1 (BL l)⟩) (hv : l.length = v) : fz true (n + 2) H (.slc j gn v 1 0 v cap) = .islc false false 1 (BL l) := by
 rw [mR (Ek hr (by simpa using hv)) (by omega), Cc, ← hv, Bp]
 rfl
def Jc (l : List UInt8) : Nat → List Nat → Option (List Int × Nat)
 | a, [] => some ([], a)
 | a, s :: r => if (getP l a s).2 = 0 then (Jc l (a + s) r).map fun (o, e) => ((getP l a s).1 :: o, e) else none
theorem Aid (out : Bool) (n : Nat) (H : Heap) (l : List Int) : (IL l).map (fz out (n + 1) H) = IL l := by
 induction l with
 | nil => rfl
 | cons c l ih =>
  show _ :: List.map _ (IL l) = _
  rw [ih]; rfl
theorem Aeq {n j gn v : Nat} {H : Heap} {ro : Bool} {cap : Option Nat} {l : List Int} (hr : H j = ⟨gn, ro, .row 1 (IL l)⟩) (hv : l.length = v) : fz true (n + 2) H (.slc j gn v 1 0 v cap) = .islc false false 1 (IL l) := by
 rw [Ph (Ek hr (by simpa using hv)) (by omega), Cc, ← hv, Aj (by simp), Aid]
 rfl
theorem yT (a b : List Int) : IL (a ++ b) = IL a ++ IL b := Br
end Go.Proofs.Ytkaiiopoilpjeaa
set_option maxRecDepth 10000
set_option maxHeartbeats 4000000
namespace Go.Proofs.Ytkaiiopoilpjeaa
open Go.AI
attribute [local irreducible] aops Bb Cj Dm aop W WO
variable {xf : ExtF} {gf : Cx}
structure Cmd where
 kind : Int
 id : Int
 parent : Int
 size : Int
 frm : Int
 count : Int
 source : Int
 digest : Int
 data : List UInt8
def Cmd.av (t f : Bool) (s : Nat) (c : Cmd) : AV := .agg [.int .i64 c.kind, .int .i64 c.id, .int .i64 c.parent, .int .i64 c.size, .int .i64 c.frm, .int .i64 c.count, .int .i64 c.source, .int .i64 c.digest, .islc t f s (BL c.data)]
def Ya (id parent : Int) : Bool := decide ((1 ≤ id ∧ id ≤ 4611686018427387903) ∧ parent ≠ id ∧ (parent = 0 ∨ (1 ≤ parent ∧ parent ≤ 4611686018427387903)))
theorem Nm (k : Nat) (a : Int) : FnV (Cj B xf gf (k + 1)) Te [.int .i64 a] (.int .i64 (if 1 ≤ a ∧ a ≤ 4611686018427387903 then 0 else 1)) := by
 refine Yj qK rfl ?_
 unfold aA
 repeat' (first | refine q_s ?_ | refine q_z ?_ | refine q_b ?_ | refine q_n ?_ | refine q_nn ?_ | refine q_mv ?_ | refine Ky ?_ | refine Ab (fun _ => ?_) (fun _ => ?_) | refine Rr ?_ | refine Rm ?_)
 all_goals (refine ⟨Or.inr rfl, _, rfl, ?_⟩; show AV.int _ _ = AV.int _ _; congr 1; first | rw [if_pos (by omega)] | rw [if_neg (by omega)])
theorem bI (k : Nat) (a b : Int) : FnV (Cj B xf gf (k + 2)) Mz [.int .i64 a, .int .i64 b] (.bool (Ya a b)) := by
 refine Yj aE rfl ?_
 unfold Pb
 repeat' (first
  | refine q_s ?_ | refine q_z ?_ | refine q_n ?_ | refine q_nn ?_ | refine q_mv ?_ | refine Ky ?_ | refine Ab (fun _ => ?_) (fun _ => ?_) | refine Rr ?_ | refine Rm ?_
  | refine Ag (Nm k a) (fun _ => ?_) (fun _ => ?_) | refine Ad (Nm k a) ?_ | refine Ag (Nm k b) (fun _ => ?_) (fun _ => ?_)
  | refine Ad (Nm k b) ?_)
 all_goals (refine ⟨Or.inr rfl, _, rfl, ?_⟩; show AV.bool _ = AV.bool _; congr 1; simp only [Ya, cmpP, ite_eq_left_iff] at *; first | (symm; rw [Dj]; omega) | (symm; rw [decide_eq_false_iff_not]; omega))
end Go.Proofs.Ytkaiiopoilpjeaa
