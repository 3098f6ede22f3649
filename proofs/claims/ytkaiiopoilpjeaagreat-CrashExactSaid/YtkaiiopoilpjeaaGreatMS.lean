/- Lemmas. -/
import Derived.Test.YtkaiiopoilpjeaaGreatT
import Derived.Test.YtkaiiopoilpjeaaGreatMC
set_option linter.unusedSimpArgs false
set_option linter.unusedVariables false
set_option maxRecDepth 10000
namespace Go.Proofs.YtkaiiopoilpjeaaGreat
open Go.AI
attribute [local irreducible] aops Br Cp Dp aop W WO
variable {xf : ExtF} {gf : Dk}
theorem Adm (k : Nat) (t f : Bool) (l : List UInt8) (a s : Int) (hl : l.length < 4611686018427387904) (hs : 0 ≤ s ∧ s < 4611686018427387904) :
  FnV (Cp B xf gf (k + 1)) lZ [.islc t f 1 (BL l), .int .i64 a, .int .i64 s] (.bool (decide (0 ≤ a ∧ a ≤ l.length - s))) := by
 refine dA Acy rfl ?_
 unfold jQ
 repeat' (first
  | refine q_s ?_ | refine q_z ?_ | refine q_n ?_ | refine q_nn ?_ | refine q_mv ?_ | refine Lj ?_ | refine Ac (fun _ => ?_) (fun _ => ?_) | refine Adp ?_ | refine Yb ?_
  | refine Yf ?_ | refine Wc ?_ | refine Hw ?_ | refine Qt ?_)
 all_goals (refine ⟨Or.inr rfl, _, rfl, ?_⟩; show AV.bool _ = _; simp [cmpP, *] at *; try omega)
theorem Afo (k : Nat) (a : Int) : FnV (Cp B xf gf (k + 1)) sK [.int .i64 a] (.bool (decide (a = 1 ∨ a = 2 ∨ a = 4 ∨ a = 8))) := by
 refine dA Ags rfl ?_
 unfold tR
 repeat' (first | refine q_s ?_ | refine q_z ?_ | refine q_n ?_ | refine q_nn ?_ | refine q_mv ?_ | refine Lj ?_ | refine Ac (fun _ => ?_) (fun _ => ?_) | refine Yb ?_ | refine Yf ?_)
 all_goals (refine ⟨Or.inr rfl, _, rfl, ?_⟩; show AV.bool _ = _; simp [cmpP, *] at *; try omega)
def Azm (n : Nat) : Nat := if n % 2 = 1 then (n / 2) ^^^ 2197175160 else n / 2
def bX : Nat → Nat → Nat
 | 0, n => n
 | k + 1, n => bX k (Azm n)
def Aix (n : Nat) (c : UInt8) : Nat := bX 8 (n ^^^ c.toNat)
def dZ (n : Nat) (l : List UInt8) : Nat := l.foldl Aix n
theorem kN {n : Nat} (h : n < 4294967296) : Azm n < 4294967296 := by
 unfold Azm
 split
 ·exact fG (n := 32) (by omega) (by omega)
 ·omega
theorem rL : ∀ (k : Nat) {n : Nat}, n < 4294967296 → bX k n < 4294967296
 | 0, _, h => h
 | k + 1, _, h => rL k (kN h)
theorem Abw (c : UInt8) : c.toNat < 256 := UInt8.toNat_lt c
theorem Aiq (c : UInt8) : c.toNat < 4294967296 := by have := Abw c; omega
theorem sT {n : Nat} (c : UInt8) (h : n < 4294967296) : Aix n c < 4294967296 := rL 8 (fG (n := 32) (by omega) (by have := Abw c; omega))
theorem kF : ∀ (l : List UInt8) {n : Nat}, n < 4294967296 → dZ n l < 4294967296
 | [], _, h => h
 | c :: l, _, h => kF l (sT c h)
theorem Apz {cf : Dk} {base fuel : Nat} {H : Heap} {T : Tmps} {n : Nat} (hn : n < 4294967296) (hk : 8 < fuel) {v13 v14 v15 : AV} (hT : Has T [(5, .int .u32 n), (23, .int .i64 0), (13, v13), (14, v14), (15, v15)]) :
  W (Br cf xf base fuel (.loop mU) T H) (fun ex T' H' => ex = .exit 2 ∧ H' = H ∧ Has T' [(5, .int .u32 (bX 8 n)), (13, v13), (14, v14), (15, v15)]) := by
 refine eP (fun m T' H' => m ≤ 8 ∧ H' = H ∧ ∃ n' : Nat, n' < 4294967296 ∧ bX m n' = bX 8 n ∧ Has T' [(5, .int .u32 n'), (23, .int .i64 (8 - m : Int)), (13, v13), (14, v14), (15, v15)]) 8 ⟨by omega, rfl, n, hn, rfl, by simpa using hT⟩ hk ?_
 rintro m T H hm ⟨_, rfl, n', hn', hg, hT⟩
 rw [hT.eq]
 simp only [over]
 unfold mU
 repeat' (first
  | refine q_s ?_ | refine q_z ?_ | refine q_b ?_ | refine Att rfl hn' rfl rfl ?_ | refine Asz rfl hn' rfl rfl ?_ | refine Atv rfl (by omega) (by decide) rfl rfl ?_
  | refine q_mv ?_ | refine Lj ?_ | refine Ac (fun _ => ?_) (fun _ => ?_) | refine Mu ?_ | refine Ym ?_)
 ·refine ⟨by omega, by omega, rfl, Azm n', kN hn', ?_, ?_, by show AV.int _ _ = _; congr 1; omega, rfl, rfl, rfl, trivial⟩
  ·rw [← hg]; obtain ⟨m', rfl⟩ : ∃ m', m = m' + 1 := ⟨m - 1, by omega⟩; rfl
  ·rename_i h1
   simp only [cmpP] at h1
   show AV.int _ _ = AV.int _ _
   rw [Azm, if_pos (by omega)]; rfl
 ·refine ⟨by omega, by omega, rfl, Azm n', kN hn', ?_, ?_, by show AV.int _ _ = _; congr 1; omega, rfl, rfl, rfl, trivial⟩
  ·rw [← hg]; obtain ⟨m', rfl⟩ : ∃ m', m = m' + 1 := ⟨m - 1, by omega⟩; rfl
  ·rename_i h1
   simp only [cmpP] at h1
   show AV.int _ _ = AV.int _ _
   rw [Azm, if_neg (by omega)]
 ·rename_i h1
  simp only [cmpP] at h1
  obtain rfl : m = 0 := by omega
  exact ⟨rfl, rfl, by rw [← hg]; rfl, rfl, rfl, rfl, trivial⟩
def Ln (sum : Int) (l : List UInt8) : Int := 4294967295 - (dZ (4294967295 - (sum % 4294967296).toNat) l : Nat)
theorem Akf {cf : Dk} {base fuel : Nat} {H : Heap} {T : Tmps} {n : Nat} {t f : Bool} {l : List UInt8} (hn : n < 4294967296) (hl : l.length < 1000000) (hk : 1000000 ≤ fuel)
  (hT : Has T [(5, .int .u32 n), (13, .islc t f 1 (BL l)), (14, .int .i64 l.length), (15, .int .i64 0)]) :
  W (Br cf xf base fuel (.loop lW) T H) (fun ex T' H' => ex = .exit 0 ∧ H' = H ∧ T' 5 = .int .u32 (dZ n l)) := by
 refine eP (fun m T' H' => m ≤ l.length ∧ H' = H ∧ ∃ n' : Nat, n' < 4294967296 ∧ dZ n' (l.drop (l.length - m)) = dZ n l ∧ Has T' [(5, .int .u32 n'), (13, .islc t f 1 (BL l)), (14, .int .i64 l.length), (15, .int .i64 (l.length - m : Int))])
  l.length ⟨by omega, rfl, n, hn, by simp, by simpa using hT⟩ (by omega) ?_
 rintro m T H hm ⟨_, rfl, n', hn', hg, hT⟩
 rw [hT.eq]
 simp only [over]
 unfold lW
 repeat' (first
  | refine q_s ?_ | refine q_z ?_ | refine q_b ?_ | refine Ajf rfl (Aiq _) rfl rfl ?_ | refine Adk rfl rfl hn' (Aiq _) rfl rfl ?_ | refine q_mv ?_ | refine Lb ?_
  | refine Gj ?_ | refine Be ?_ | refine Lj ?_ | refine Ac (fun _ => ?_) (fun _ => ?_) | refine Mu ?_ | refine Ym ?_ | refine Ug ?_ | refine q_at ?_)
 ·refine (Apz (fG (n := 32) (by omega) (by have := Abw (bAt l (l.length - m)); omega)) (by omega) ⟨rfl, rfl, rfl, rfl, rfl, trivial⟩).mono ?_
  rintro ex T2 H2 ⟨rfl, rfl, h2⟩
  rw [h2.eq]
  simp only [over]
  show W _ _
  repeat' (first
   | refine q_s ?_ | refine q_z ?_ | refine q_b ?_ | refine q_mv ?_ | refine Lb ?_ | refine Gj ?_ | refine Be ?_ | refine Lj ?_ | refine Ac (fun _ => ?_) (fun _ => ?_)
   | refine Mu ?_ | refine Ym ?_ | refine Ug ?_ | refine q_at ?_)
  have hd : l.drop (l.length - m) = bAt l (l.length - m) :: l.drop (l.length - (m - 1)) := by
   have hlt : l.length - m < l.length := by omega
   have e1 : ((l.length : Int) - m).toNat = l.length - m := by omega
   rw [show l.length - (m - 1) = l.length - m + 1 by omega, Cm hlt]
   simp [bAt, e1, hlt]
  refine ⟨by omega, by omega, rfl, _, sT (bAt l (l.length - m)) hn', ?_, rfl, rfl, rfl, by show AV.int _ _ = _; congr 1; omega, trivial⟩
  rw [← hg, hd]; rfl
 ·obtain rfl : m = 0 := by omega
  refine ⟨rfl, rfl, ?_⟩
  show AV.int _ _ = _
  rw [← hg]; simp [dZ]
theorem rM (k : Nat) (hk : 1000000 ≤ k) (t f : Bool) (l : List UInt8) (sum : Int) (hl : l.length < 1000000) (hs : 0 ≤ sum ∧ sum ≤ 4294967295) :
  FnV (Cp B xf gf (k + 1)) oM [.int .i64 sum, .islc t f 1 (BL l)] (.int .i64 (Ln sum l)) := by
 obtain ⟨s, rfl⟩ : ∃ s : Nat, sum = s := ⟨sum.toNat, by omega⟩
 refine dA Ago rfl ?_
 unfold crc_More
 repeat' (first
  | refine q_s ?_ | refine q_z ?_ | refine q_b ?_ | refine Ajf rfl (by omega) rfl rfl ?_ | refine Aen rfl (by omega) rfl rfl ?_ | refine q_mv ?_ | refine Lb ?_
  | refine Gj ?_ | refine Be ?_ | refine Lj ?_ | refine Ac (fun _ => ?_) (fun _ => ?_) | refine Mu ?_ | refine Ym ?_ | refine bD ?_ | refine aT ?_
  | refine Wc ?_ | refine Hw ?_ | refine Qt ?_ | refine aF ?_ | refine Rm ?_ | refine dQ ?_ | refine Ug ?_ | refine q_at ?_)
 refine (Akf (n := 4294967295 - s) (by omega) hl hk ⟨rfl, rfl, rfl, rfl, trivial⟩).mono ?_
 rintro ex T2 H2 ⟨rfl, rfl, h2⟩
 have hr : dZ (4294967295 - s) l < 4294967296 := kF l (by omega)
 rw [Has.eq (T := T2) (ps := [(5, _)]) ⟨h2, trivial⟩]
 simp only [over]
 show W _ _
 repeat' (first
  | refine q_s ?_ | refine q_z ?_ | refine q_b ?_ | refine Aen rfl hr rfl rfl ?_ | refine q_mv ?_ | refine Lb ?_ | refine Gj ?_ | refine Be ?_ | refine Lj ?_
  | refine Ac (fun _ => ?_) (fun _ => ?_) | refine Mu ?_ | refine Ym ?_ | refine bD ?_ | refine aT ?_ | refine Wc ?_ | refine Hw ?_ | refine Qt ?_
  | refine aF ?_ | refine Rm ?_ | refine dQ ?_ | refine Ug ?_ | refine q_at ?_)
 refine ⟨Or.inr rfl, _, rfl, ?_⟩
 show AV.int _ _ = AV.int _ _
 congr 1
 have e : ((s : Int) % 4294967296).toNat = s := by omega
 rw [Ln, e]; omega
theorem xH (k : Nat) (hk : 1000000 ≤ k) (t f : Bool) (l : List UInt8) (hl : l.length < 1000000) :
  FnV (Cp B xf gf (k + 2)) kL [.islc t f 1 (BL l)] (.int .i64 (Ln 0 l)) := by
 refine dA Alo rfl ?_
 unfold zI
 repeat' (first | refine q_s ?_ | refine q_z ?_ | refine q_mv ?_ | refine Al (rM k hk t f l 0 hl (by omega)) (fun _ => ?_) (fun _ => ?_) | refine Ae (rM k hk t f l 0 hl (by omega)) ?_)
 refine ⟨Or.inr rfl, _, rfl, rfl⟩
end Go.Proofs.YtkaiiopoilpjeaaGreat
set_option maxRecDepth 10000
set_option maxHeartbeats 16000000
namespace Go.Proofs.YtkaiiopoilpjeaaGreat
open Go.AI
attribute [local irreducible] aops Br Cp Dp aop W WO
variable {xf : ExtF} {gf : Dk}
def leAt (n : Int) (i : Nat) : UInt8 := UInt8.ofNat ((n / 2 ^ (8 * i)) % 256).toNat
def leB (s : Nat) (n : Int) : List UInt8 := (List.range s).map (leAt n)
@[simp] theorem leB_length (s : Nat) (n : Int) : (leB s n).length = s := by simp [leB]
def putB (s : Nat) (l : List Int) : List UInt8 := l.flatMap (leB s)
@[simp] theorem putB_length (s : Nat) : ∀ l : List Int, (putB s l).length = l.length * s
 | [] => by simp [putB]
 | n :: l => by
  have := putB_length s l
  simp [putB] at this ⊢
  rw [this, Dj]; omega
theorem sA (n : Int) (i : Nat) : ((leAt n i).toNat : Int) = (n / 2 ^ (8 * i)) % 256 := by
 have h0 : 0 ≤ (n / 2 ^ (8 * i)) % 256 := Int.emod_nonneg _ (by decide)
 have h1 : (n / 2 ^ (8 * i)) % 256 < 256 := Int.emod_lt_of_pos _ (by decide)
 simp only [leAt, UInt8.toNat_ofNat']
 omega
theorem Abo {cf : Dk} {base fuel : Nat} {H : Heap} {T : Tmps} {j gn : Nat} {a z : List UInt8} {n : Int} {s : Nat} (hs : s ≤ 8) (hz : s ≤ z.length) (ha : a.length < 1000000) (hlz : z.length < 1000000) (hk : 8 < fuel)
  (hT : Has T [(0, .slc j gn (a.length + z.length) 1 0 (a.length + z.length) .none), (1, .int .i64 a.length), (2, .int .i64 s), (3, .int .i64 n), (9, .int .i64 s), (10, .int .i64 0)]) :
  W (Br cf xf base fuel (.loop vI) T (H.upd j ⟨gn, false, .row 1 (BL (a ++ z))⟩)) (fun ex T' H' => ex = .exit 0 ∧ H' = H.upd j ⟨gn, false, .row 1 (BL (a ++ leB s n ++ z.drop s))⟩) := by
 refine eP (fun m T' H' => m ≤ s ∧ H' = H.upd j ⟨gn, false, .row 1 (BL (a ++ leB (s - m) n ++ z.drop (s - m)))⟩ ∧ Has T' [(0, .slc j gn (a.length + z.length) 1 0 (a.length + z.length) .none), (1, .int .i64 a.length), (3, .int .i64 n), (9, .int .i64 s), (10, .int .i64 (s - m : Int))])
  s ⟨by omega, by simp [leB], ?_⟩ (by omega) ?_
 ·obtain ⟨h0, h1, h2, h3, h4, h5, _⟩ := hT
  exact ⟨h0, h1, h3, h4, by rw [h5]; congr 1; omega, trivial⟩
 rintro m T H1 hm ⟨_, rfl, hT⟩
 rw [hT.eq]
 simp only [over]
 unfold vI
 repeat' (first
  | refine q_s ?_ | refine q_z ?_ | refine q_b ?_ | refine Awu rfl rfl (by omega) (by simp only [IntKind.bits]; omega) rfl rfl ?_ | refine Asj rfl rfl rfl ?_
  | refine Ds rfl rfl (Heap.upd_same _ _ _) (by simp; omega) (by omega) (by simp; omega) (by omega) rfl rfl ?_
  | refine Amu (c := leAt n (s - m)) rfl rfl ?_ (Heap.upd_same _ _ _) (by simp; omega) (by omega) rfl rfl ?_ | refine q_mv ?_ | refine Lj ?_
  | refine Ac (fun _ => ?_) (fun _ => ?_) | refine Mu ?_ | refine cZ ?_ | refine Ym ?_ | refine Xf ?_ | refine Co ?_ | refine Ug ?_ | refine q_at ?_)
 ·rw [sA]
  have : (8 * ((s : Int) - m)).toNat = 8 * (s - m) := by omega
  rw [this]
 ·refine ⟨by omega, by omega, ?_, rfl, rfl, rfl, rfl, by show AV.int _ _ = _; congr 1; omega, trivial⟩
  rw [Heap.upd_upd]
  congr 4
  have e : 0 + ((a.length : Int) + (s - m)).toNat = a.length + (s - m) := by omega
  have e1 : s - (m - 1) = s - m + 1 := by omega
  have hd : z.drop (s - m) = z[s - m]'(by omega) :: z.drop (s - m + 1) := Cm (by omega)
  rw [e, e1, hd, Cf, Js _ _ (by omega), Nat.add_sub_cancel_left, Js _ _ (by simp), leB_length, Rx, Tz]
  simp only [leB, Kt, Bq, Aw, Jz, Cf, Jt, Dd]
 ·obtain rfl : m = 0 := by omega
  exact ⟨rfl, rfl⟩
theorem Apt (k : Nat) (hk : 8 < k) (base : Nat) (H : Heap) (j gn v : Nat) (a z : List UInt8) (n at0 : Int) (s : Nat) (hs : s ≤ 8) (hz : s ≤ z.length) (ha : a.length < 1000000) (hlz : z.length < 1000000) (hat : at0 = a.length) (hv : a.length + z.length = v) (hr : H j = ⟨gn, false, .row 1 (BL (a ++ z))⟩) :
  Cp B xf gf (k + 1) Bdh base [.slc j gn v 1 0 v .none, .int .i64 at0, .int .i64 s, .int .i64 n] H = some (.tup [], H.upd j ⟨gn, false, .row 1 (BL (a ++ leB s n ++ z.drop s))⟩) := by
 subst hat hv
 have hw : W (Br (Cp B xf gf k) xf base k le_Set.code (Wb [.slc j gn (a.length + z.length) 1 0 (a.length + z.length) .none, .int .i64 a.length, .int .i64 s, .int .i64 n]) H) (fun ex T' H' => ex = .normal ∧ H' = H.upd j ⟨gn, false, .row 1 (BL (a ++ leB s n ++ z.drop s))⟩) := by
  unfold le_Set
  repeat' (first
   | refine q_s ?_ | refine q_z ?_ | refine q_b ?_ | refine q_mv ?_ | refine Lj ?_ | refine Ac (fun _ => ?_) (fun _ => ?_) | refine Mu ?_ | refine cZ ?_ | refine Ym ?_
   | refine Xf ?_ | refine Co ?_ | refine Ug ?_ | refine q_at ?_)
  rw [← Heap.upd_self hr]
  refine (Abo hs hz ha hlz hk ⟨rfl, rfl, rfl, rfl, rfl, rfl, trivial⟩).mono ?_
  rintro ex T2 H2 ⟨rfl, rfl⟩
  exact ⟨rfl, by rw [Heap.upd_self hr]⟩
 obtain ⟨ex, T', H', h1, rfl, rfl⟩ := hw.out
 rw [Ze Arr rfl h1 (.inl rfl)]
 rfl
abbrev IL (ns : List Int) : List AV := ns.map (AV.int .i64)
end Go.Proofs.YtkaiiopoilpjeaaGreat
set_option maxRecDepth 10000
set_option maxHeartbeats 16000000
namespace Go.Proofs.YtkaiiopoilpjeaaGreat
open Go.AI
attribute [local irreducible] aops Br Cp Dp aop W WO
variable {xf : ExtF} {gf : Dk}
def leN : List UInt8 → Nat
 | [] => 0
 | c :: l => c.toNat + 256 * leN l
theorem qU : ∀ a b : List UInt8, leN (a ++ b) = leN a + 256 ^ a.length * leN b
 | [], b => by simp [leN]
 | c :: a, b => by
  have := qU a b
  simp only [Jt, leN, this, Ao, Fx, Nat.mul_add]
  rw [Gl (256 ^ a.length) 256, Nat.mul_assoc]; omega
theorem xU : ∀ a : List UInt8, leN a < 256 ^ a.length
 | [] => by simp [leN]
 | c :: a => by
  have h1 := xU a
  have h2 := Abw c
  simp only [leN, Ao, Fx]
  omega
theorem sD {l : List UInt8} {a i : Nat} (h : a + i < l.length) : (l.drop a).take (i + 1) = (l.drop a).take i ++ [bAt l (a + i : Nat)] := by
 have h2 : i < (l.drop a).length := by simp; omega
 rw [Av h2]
 congr 2
 simp only [Qg, bAt, Bd, List.getD, Aa h, Ns]
def getP (l : List UInt8) (a : Int) (s : Nat) : Int × Int :=
 if 0 ≤ a ∧ a ≤ l.length - s then
  if leN ((l.drop a.toNat).take s) ≤ 4611686018427387903 then (leN ((l.drop a.toNat).take s), 0) else (0, 1)
 else (0, 3)
theorem Aco {cf : Dk} {base fuel : Nat} {H : Heap} {T : Tmps} {t f : Bool} {l : List UInt8} {a s : Nat} (hs : s ≤ 8) (ha : a + s ≤ l.length) (hl : l.length < 1000000) (hk : 8 < fuel)
  (hT : Has T [(0, .islc t f 1 (BL l)), (1, .int .i64 a), (8, .int .u64 0), (20, .int .i64 s), (21, .int .i64 0)]) :
  W (Br cf xf base fuel (.loop kR) T H) (fun ex T' H' => ex = .exit 1 ∧ H' = H ∧ T' 8 = .int .u64 (leN ((l.drop a).take s) : Nat)) := by
 refine eP (fun m T' H' => m ≤ s ∧ H' = H ∧ Has T' [(0, .islc t f 1 (BL l)), (1, .int .i64 a), (8, .int .u64 (leN ((l.drop a).take (s - m)) : Nat)), (20, .int .i64 s), (21, .int .i64 ((s - m : Nat) : Int))])
  s ⟨by omega, rfl, ?_⟩ (by omega) ?_
 ·obtain ⟨h0, h1, h2, h3, h4, _⟩ := hT
  exact ⟨h0, h1, by rw [h2]; simp [leN], h3, by rw [h4]; simp, trivial⟩
 rintro m T H1 hm ⟨_, rfl, hT⟩
 obtain ⟨i, hi⟩ : ∃ i, i = s - m := ⟨_, rfl⟩
 rw [← hi] at hT
 by_cases hm0 : m = 0
 ·have his : i = s := by omega
  rw [hT.eq]
  simp only [over]
  unfold kR
  repeat' (first
   | refine q_s ?_ | refine q_z ?_ | refine q_b ?_ | refine q_mv ?_ | refine Lb ?_ | refine Gj ?_ | refine Be ?_ | refine Lj ?_ | refine Ac (fun _ => ?_) (fun _ => ?_)
   | refine Mu ?_ | refine cZ ?_ | refine Ym ?_ | refine Rm ?_ | refine dQ ?_ | refine Ug ?_ | refine q_at ?_)
  exact ⟨rfl, rfl, by rw [his]; rfl⟩
 have hlen : ((l.drop a).take i).length = i := by simp; omega
 have hlt := xU ((l.drop a).take i)
 rw [hlen] at hlt
 have hp : 256 ^ i = 2 ^ (8 * i) := by rw [Nat.pow_mul]
 rw [hp] at hlt
 have hc := Abw (bAt l (a + i : Nat))
 have h8 : 2 ^ (8 * i) * 256 ≤ 18446744073709551616 := by
  have : 2 ^ (8 * i) ≤ 2 ^ 56 := Nat.pow_le_pow_right (by decide) (by omega)
  omega
 have hb1 : (bAt l (a + i : Nat)).toNat * 2 ^ (8 * i) + 2 ^ (8 * i) ≤ 2 ^ (8 * i) * 256 := by
  have : ((bAt l (a + i : Nat)).toNat + 1) * 2 ^ (8 * i) ≤ 256 * 2 ^ (8 * i) := Fs _ (by omega)
  rw [Dj] at this; omega
 have e8 : ((8 : Int) * i).toNat = 8 * i := by omega
 have ea : ((a : Int) + i) = ((a + i : Nat) : Int) := by omega
 rw [hT.eq]
 simp only [over]
 unfold kR
 repeat' (first
  | refine q_s ?_ | refine q_z ?_ | refine q_b ?_ | (refine Auz rfl (n := (a + i : Nat)) (by show AV.int _ _ = AV.int _ _; rw [ea]) (by omega) (by omega) rfl rfl ?_)
  | (refine Abl rfl (by omega) rfl rfl ?_) | (refine Aqu (a := (bAt l (a + i : Nat)).toNat) (b := 8 * (i : Int)) rfl rfl (by omega) (by rw [e8]; omega) rfl rfl ?_)
  | (refine Aqt (a := leN ((l.drop a).take i)) (c := (bAt l (a + i : Nat)).toNat) (i := 8 * i) rfl (by show AV.int _ _ = AV.int _ _; rw [e8]) hlt (by omega) rfl rfl ?_) | refine q_mv ?_
  | refine Lb ?_ | refine Gj ?_ | refine Be ?_ | refine Lj ?_ | refine Ac (fun _ => ?_) (fun _ => ?_) | refine Mu ?_ | refine cZ ?_ | refine Rm ?_
  | refine dQ ?_ | refine Ug ?_ | refine q_at ?_)
 refine ⟨by omega, by omega, rfl, rfl, rfl, ?_, rfl, by show AV.int _ _ = AV.int _ _; congr 1; omega, trivial⟩
 show AV.int _ _ = AV.int _ _
 congr 2
 have e1 : s - (m - 1) = i + 1 := by omega
 rw [e1, sD (by omega), qU, hlen, hp]
 simp only [leN, Vp, Ey]
 rw [Gl]; omega
theorem Aes (k : Nat) (hk : 8 < k) (t f : Bool) (l : List UInt8) (a : Int) (s : Nat) (hs : s = 1 ∨ s = 2 ∨ s = 4 ∨ s = 8) (hl : l.length < 1000000) :
  FnV (Cp B xf gf (k + 1)) gP [.islc t f 1 (BL l), .int .i64 a, .int .i64 s] (.tup [.int .i64 (getP l a s).1, .int .i64 (getP l a s).2]) := by
 obtain ⟨k, rfl⟩ : ∃ k', k = k' + 1 := ⟨k - 1, by omega⟩
 have hr := Afo (xf := xf) (gf := gf) k s
 rw [As (by omega)] at hr
 have hw := Adm (xf := xf) (gf := gf) k t f l a s (by omega) (by omega)
 refine dA Aqh rfl ?_
 unfold le_Get
 by_cases hin : 0 ≤ a ∧ a ≤ l.length - s
 ·rw [As hin] at hw
  obtain ⟨a, rfl⟩ : ∃ a' : Nat, a = a' := ⟨a.toNat, by omega⟩
  repeat' (first
   | refine q_s ?_ | refine q_z ?_ | refine q_b ?_ | refine bN hr rfl rfl rfl ?_ | refine bN hw rfl rfl rfl ?_ | refine q_mv ?_ | refine Lb ?_ | refine Gj ?_
   | refine Be ?_ | refine Lj ?_ | refine Ac (fun _ => ?_) (fun _ => ?_) | refine Mu ?_ | refine cZ ?_ | refine Ym ?_ | refine bD ?_ | refine aT ?_
   | refine aF ?_ | refine Rm ?_ | refine dQ ?_ | refine Ug ?_ | refine q_at ?_)
  refine (Aco (t := t) (f := f) (l := l) (a := a) (s := s) (by omega) (by omega) hl hk ?_).mono ?_
  ·exact ⟨rfl, rfl, rfl, rfl, rfl, trivial⟩
  rintro ex T2 H2 ⟨rfl, rfl, h0⟩
  have hlt := xU ((l.drop a).take s)
  have hlen : ((l.drop a).take s).length = s := by simp; omega
  have hp : 256 ^ s = 2 ^ (8 * s) := by rw [Nat.pow_mul]
  have hp2 : 2 ^ (8 * s) ≤ 2 ^ 64 := Nat.pow_le_pow_right (by decide) (by omega)
  rw [hlen, hp] at hlt
  rw [Has.eq (T := T2) (ps := [(8, _)]) ⟨h0, trivial⟩]
  simp only [over]
  show W _ _
  repeat' (first
   | refine q_s ?_ | refine q_z ?_ | refine q_b ?_ | refine q_mv ?_ | refine Lb ?_ | refine Gj ?_ | refine Be ?_ | refine Lj ?_ | refine Ac (fun _ => ?_) (fun _ => ?_)
   | refine Mu ?_ | refine cZ ?_ | refine Ym ?_ | refine bD ?_ | refine aT ?_ | refine aF ?_ | refine Rm ?_ | refine dQ ?_ | refine Ug ?_ | refine q_at ?_)
  ·rename_i h1
   refine ⟨Or.inr rfl, _, rfl, ?_⟩
   simp only [cmpP] at h1
   rw [getP, if_pos hin, Bd, if_neg (by omega)]; rfl
  ·rename_i h1
   refine ⟨Or.inr rfl, _, rfl, ?_⟩
   simp only [cmpP] at h1
   rw [getP, if_pos hin, Bd, if_pos (by omega)]; rfl
 ·rw [Bb hin] at hw
  repeat' (first
   | refine q_s ?_ | refine q_z ?_ | refine q_b ?_ | refine bN hr rfl rfl rfl ?_ | refine bN hw rfl rfl rfl ?_ | refine q_mv ?_ | refine Lb ?_ | refine Gj ?_
   | refine Be ?_ | refine Lj ?_ | refine Ac (fun _ => ?_) (fun _ => ?_) | refine Mu ?_ | refine cZ ?_ | refine Ym ?_ | refine bD ?_ | refine aT ?_
   | refine aF ?_ | refine Rm ?_ | refine dQ ?_ | refine Ug ?_ | refine q_at ?_)
  refine ⟨Or.inr rfl, _, rfl, ?_⟩
  rw [getP, if_neg hin]; rfl
end Go.Proofs.YtkaiiopoilpjeaaGreat
set_option maxRecDepth 10000
set_option maxHeartbeats 16000000
namespace Go.Proofs.YtkaiiopoilpjeaaGreat
open Go.AI
attribute [local irreducible] aops Br Cp Dp aop W WO
variable {xf : ExtF} {gf : Dk}
def nA (l : List UInt8) : Bool := decide (4 ≤ l.length ∧ (leN (l.drop (l.length - 4)) : Int) = Ln 0 (l.take (l.length - 4)))
theorem Axj {l : List UInt8} {a : Int} (h0 : 0 ≤ a) (h1 : a + 4 ≤ l.length) : getP l a 4 = ((leN ((l.drop a.toNat).take 4) : Int), 0) := by
 have hlt := xU ((l.drop a.toNat).take 4)
 have hlen : ((l.drop a.toNat).take 4).length = 4 := by simp; omega
 rw [hlen] at hlt
 unfold getP
 rw [if_pos ⟨h0, by omega⟩, if_pos (by omega)]
theorem Ahh (k : Nat) (hk : 1000000 ≤ k) (t f : Bool) (l : List UInt8) (hl : l.length < 1000000) : FnV (Cp B xf gf (k + 3)) fC [.islc t f 1 (BL l)] (.bool (nA l)) := by
 have hg := Aes (xf := xf) (gf := gf) (k + 1) (by omega) t f l (l.length - 4) 4 (by omega) hl
 have hs := xH (xf := xf) (gf := gf) k hk t
 refine dA Agl rfl ?_
 unfold sU
 repeat' (first
  | refine q_s ?_ | refine q_z ?_ | refine q_b ?_ | (refine bN (hs _ (l.take ((l.length : Int) - 4).toNat) (by simp; omega)) rfl rfl rfl ?_) | refine q_mv ?_ | refine Lj ?_
  | refine Ac (fun _ => ?_) (fun _ => ?_) | refine Adp ?_ | refine Wc ?_ | refine Hw ?_ | refine Qt ?_ | refine q_ex ?_ | refine fR ?_ | refine gM ?_
  | refine fV ?_ | refine Al (hg) (fun _ => ?_) (fun _ => ?_) | refine Ae (hg) ?_)
 all_goals (refine ⟨Or.inr rfl, _, rfl, ?_⟩)
 all_goals (show AV.bool _ = AV.bool _; congr 1)
 all_goals simp only [cmpP] at *
 ·symm
  exact Bb (by omega)
 all_goals
  have hL : (getP l (l.length - 4) 4).1 = (leN (l.drop (l.length - 4)) : Int) := by
   have e : ((l.length : Int) - 4).toNat = l.length - 4 := by omega
   rw [Axj (by omega) (by omega), e, Ai (by simp; omega)]
  have e : ((l.length : Int) - 4).toNat = l.length - 4 := by omega
  rename_i h1 h2
  rw [e, hL] at h2
  symm
 ·exact As ⟨by omega, h2⟩
 ·exact Bb (fun h => h2 h.2)
theorem Afm {n j gn v : Nat} {H : Heap} {ro : Bool} {cap : Option Nat} {l : List UInt8} (hr : H j = ⟨gn, ro, .row 1 (BL l)⟩) (hv : l.length = v) : fz true (n + 2) H (.slc j gn v 1 0 v cap) = .islc false false 1 (BL l) := by
 rw [zR (Fv hr (by simpa using hv)) (by omega), Cb, ← hv, Ch]
 rfl
def Lw (l : List UInt8) : Nat → List Nat → Option (List Int × Nat)
 | a, [] => some ([], a)
 | a, s :: r => if (getP l a s).2 = 0 then (Lw l (a + s) r).map fun (o, e) => ((getP l a s).1 :: o, e) else none
theorem Axv (out : Bool) (n : Nat) (H : Heap) (l : List Int) : (IL l).map (fz out (n + 1) H) = IL l := by
 induction l with
 | nil => rfl
 | cons c l ih =>
  show _ :: List.map _ (IL l) = _
  rw [ih]; rfl
theorem Asp {n j gn v : Nat} {H : Heap} {ro : Bool} {cap : Option Nat} {l : List Int} (hr : H j = ⟨gn, ro, .row 1 (IL l)⟩) (hv : l.length = v) : fz true (n + 2) H (.slc j gn v 1 0 v cap) = .islc false false 1 (IL l) := by
 rw [Tf (Fv hr (by simpa using hv)) (by omega), Cb, ← hv, Ai (by simp), Axv]
 rfl
theorem Als (a b : List Int) : IL (a ++ b) = IL a ++ IL b := Bq
theorem Aod {a : List UInt8} {i : Nat} (h : i < a.length) : bAt a (i : Int) = a[i] := by
 simp [bAt, h]
theorem nG {cf : Dk} {base fuel : Nat} {H : Heap} {T : Tmps} {t f t' f' : Bool} {a b : List UInt8} (hab : a.length = b.length) (ha : a.length < 1000000) (hk : 1000000 ≤ fuel)
  (hT : Has T [(0, .islc t f 1 (BL a)), (1, .islc t' f' 1 (BL b)), (5, .int .i64 0)]) :
  W (Br cf xf base fuel (.loop dH) T H) (fun ex T' H' => (ex = .ret ∧ a ≠ b ∧ T' 4 = .bool false) ∨ (ex = .exit 0 ∧ a = b)) := by
 refine eP (fun m T' H' => m ≤ a.length ∧ a.take (a.length - m) = b.take (a.length - m) ∧ Has T' [(0, .islc t f 1 (BL a)), (1, .islc t' f' 1 (BL b)), (5, .int .i64 ((a.length - m : Nat) : Int))])
  a.length ⟨Au _, by simp, ?_⟩ (by omega) ?_
 ·obtain ⟨h0, h1, h2, _⟩ := hT
  exact ⟨h0, h1, by rw [h2]; simp, trivial⟩
 rintro m T H hm ⟨_, heq, hT⟩
 obtain ⟨i, hi⟩ : ∃ i, i = a.length - m := ⟨_, rfl⟩
 rw [← hi] at hT heq
 rw [hT.eq]
 simp only [over]
 unfold dH
 repeat' (first
  | refine q_s ?_ | refine q_z ?_ | refine q_b ?_ | refine q_mv ?_ | refine Lb ?_ | refine Gj ?_ | refine Be ?_ | refine Lj ?_ | refine Ac (fun _ => ?_) (fun _ => ?_)
  | refine Mu ?_ | refine Wc ?_ | refine Hw ?_ | refine Qt ?_ | refine q_at ?_)
 ·rename_i h1 h2
  simp only [cmpP] at h1 h2
  refine .inl ⟨rfl, fun h => h2 ?_, rfl⟩
  subst h; rfl
 ·rename_i h1 h2
  simp only [cmpP] at h1 h2
  have hia : i < a.length := by omega
  have e : a[i] = b[i]'(by omega) := by
   rw [Aod hia, Aod (by omega)] at h2
   have := Dm.1 h2
   exact UInt8.toNat_inj.1 (by omega)
  refine ⟨by omega, by omega, ?_, rfl, rfl, by show AV.int _ _ = AV.int _ _; congr 1; omega, trivial⟩
  rw [show a.length - (m - 1) = i + 1 by omega, Av hia, Av (by omega), heq, e]
 ·rename_i h1
  simp only [cmpP] at h1
  refine .inr ⟨rfl, ?_⟩
  have : i = a.length := by omega
  rw [this, Ch, hab, Ch] at heq
  exact heq
theorem zB (k : Nat) (hk : 1000000 ≤ k) (t f t' f' : Bool) (s s' : Nat) (a b : List UInt8) (ha : a.length < 1000000) (hb : b.length < 1000000) (hs : s = 1 ∨ a = []) (hs' : s' = 1 ∨ b = []) :
  FnV (Cp B xf gf (k + 1)) Wu [.islc t f s (BL a), .islc t' f' s' (BL b)] (.bool (decide (a = b))) := by
 refine dA zX rfl ?_
 unfold keep_Bytes
 by_cases hab : a.length = b.length
 ·by_cases hn : a = []
  ·have hbn : b = [] := by
    subst hn; exact Hp hab.symm
   subst hn hbn
   repeat' (first
    | refine q_s ?_ | refine q_z ?_ | refine q_b ?_ | refine Bh (n := 0) rfl rfl rfl rfl ?_ | refine q_mv ?_ | refine Lb ?_ | refine Gj ?_ | refine Be ?_
    | refine Lj ?_ | refine Ac (fun _ => ?_) (fun _ => ?_) | refine Mu ?_ | refine Wc ?_ | refine Hw ?_ | refine Qt ?_ | refine q_at ?_)
   refine Km ?_
   obtain ⟨k', rfl⟩ : ∃ k', k = k' + 1 := ⟨k - 1, by omega⟩
   refine Ajy ?_
   repeat' (first
    | refine q_s ?_ | refine q_z ?_ | refine q_b ?_ | refine Bh (n := 0) rfl rfl rfl rfl ?_ | refine q_mv ?_ | refine Lb ?_ | refine Gj ?_ | refine Be ?_
    | refine Lj ?_ | refine Ac (fun _ => ?_) (fun _ => ?_) | refine Mu ?_ | refine Wc ?_ | refine Hw ?_ | refine Qt ?_ | refine q_at ?_)
   exact ⟨Or.inr rfl, _, rfl, rfl⟩
  ·have h1 : s = 1 := by rcases hs with h | h; exact h; exact absurd h hn
   have h2 : s' = 1 := by
    rcases hs' with h | h
    ·exact h
    ·subst h; exact absurd (Hp hab) hn
   subst h1 h2
   repeat' (first
    | refine q_s ?_ | refine q_z ?_ | refine q_b ?_ | refine q_mv ?_ | refine Lb ?_ | refine Gj ?_ | refine Be ?_ | refine Lj ?_ | refine Ac (fun _ => ?_) (fun _ => ?_)
    | refine Mu ?_ | refine Wc ?_ | refine Hw ?_ | refine Qt ?_ | refine q_at ?_)
   refine (nG (a := a) (b := b) (t := t) (f := f) (t' := t') (f' := f') hab ha hk ?_).mono ?_
   ·exact ⟨rfl, rfl, rfl, trivial⟩
   rintro ex T2 H2 (⟨rfl, h, h4⟩ | ⟨rfl, h⟩)
   ·refine ⟨Or.inr rfl, T2 4, rfl, ?_⟩
    rw [h4, Bb h]; rfl
   ·show W _ _
    repeat' (first
     | refine q_s ?_ | refine q_z ?_ | refine q_b ?_ | refine q_mv ?_ | refine Lb ?_ | refine Gj ?_ | refine Be ?_ | refine Lj ?_
     | refine Ac (fun _ => ?_) (fun _ => ?_) | refine Mu ?_ | refine Wc ?_ | refine Hw ?_ | refine Qt ?_ | refine q_at ?_)
    refine ⟨Or.inr rfl, _, rfl, ?_⟩
    rw [As h]; rfl
 ·skip
  repeat' (first
   | refine q_s ?_ | refine q_z ?_ | refine q_b ?_ | refine q_mv ?_ | refine Lb ?_ | refine Gj ?_ | refine Be ?_ | refine Lj ?_ | refine Ac (fun _ => ?_) (fun _ => ?_)
   | refine Mu ?_ | refine Wc ?_ | refine Hw ?_ | refine Qt ?_ | refine q_at ?_)
  refine ⟨Or.inr rfl, _, rfl, ?_⟩
  rw [Bb (fun h => hab (by rw [h]))]
  rfl
end Go.Proofs.YtkaiiopoilpjeaaGreat
set_option maxRecDepth 10000
set_option maxHeartbeats 4000000
namespace Go.Proofs.YtkaiiopoilpjeaaGreat
open Go.AI
attribute [local irreducible] aops Br Cp Dp aop W WO
variable {xf : ExtF} {gf : Dk}
structure Cmd where
 kind : Int
 id : Int
 parent : Int
 size : Int
 frm : Int
 count : Int
 source : Int
 digest : Int
 data : List UInt8
def Cmd.av (t f : Bool) (s : Nat) (c : Cmd) : AV := .agg [.int .i64 c.kind, .int .i64 c.id, .int .i64 c.parent, .int .i64 c.size, .int .i64 c.frm, .int .i64 c.count, .int .i64 c.source, .int .i64 c.digest, .islc t f s (BL c.data)]
def inR (n lo hi : Int) : Bool := decide (n ≥ lo) && decide (n ≤ hi)
def gF (id parent : Int) : Bool := decide ((1 ≤ id ∧ id ≤ 4611686018427387903) ∧ parent ≠ id ∧ (parent = 0 ∨ (1 ≤ parent ∧ parent ≤ 4611686018427387903)))
theorem Rr (k : Nat) (a : Int) : FnV (Cp B xf gf (k + 1)) Zt [.int .i64 a] (.int .i64 (if 1 ≤ a ∧ a ≤ 4611686018427387903 then 0 else 1)) := by
 refine dA Aeb rfl ?_
 unfold jF
 repeat' (first | refine q_s ?_ | refine q_z ?_ | refine q_b ?_ | refine q_n ?_ | refine q_nn ?_ | refine q_mv ?_ | refine Lj ?_ | refine Ac (fun _ => ?_) (fun _ => ?_) | refine Yb ?_ | refine Yf ?_)
 all_goals (refine ⟨Or.inr rfl, _, rfl, ?_⟩; show AV.int _ _ = AV.int _ _; congr 1; first | rw [if_pos (by omega)] | rw [if_neg (by omega)])
theorem kB (k : Nat) (a b : Int) : FnV (Cp B xf gf (k + 2)) Ra [.int .i64 a, .int .i64 b] (.bool (gF a b)) := by
 refine dA kT rfl ?_
 unfold Tx
 repeat' (first
  | refine q_s ?_ | refine q_z ?_ | refine q_n ?_ | refine q_nn ?_ | refine q_mv ?_ | refine Lj ?_ | refine Ac (fun _ => ?_) (fun _ => ?_) | refine Yb ?_ | refine Yf ?_
  | refine Al (Rr k a) (fun _ => ?_) (fun _ => ?_) | refine Ae (Rr k a) ?_ | refine Al (Rr k b) (fun _ => ?_) (fun _ => ?_)
  | refine Ae (Rr k b) ?_)
 all_goals (refine ⟨Or.inr rfl, _, rfl, ?_⟩; show AV.bool _ = AV.bool _; congr 1; simp only [gF, cmpP, ite_eq_left_iff] at *; first | (symm; rw [Dl]; omega) | (symm; rw [decide_eq_false_iff_not]; omega))
end Go.Proofs.YtkaiiopoilpjeaaGreat
