import Derived.Test.YtkpndfkpdnknkaaGreatF15
import Derived.Test.YtkpndfkpdnknkaaGreatMJ8
set_option linter.unusedSimpArgs false
set_option linter.unusedVariables false
set_option maxRecDepth 10000
namespace Go.Proofs.YtkpndfkpdnknkaaGreat
open Go.AI
def Sj (V : List (List UInt8)) (size : Nat) (f : Nat → Option (List UInt8)) : List (List UInt8) := (List.range size).map fun i => (f i).getD (V.getD i Iz)
theorem Ir (V : List (List UInt8)) (size : Nat) (f : Nat → Option (List UInt8)) : (Sj V size f).length = size := by unfold Sj; rw [Ah, Ek]
theorem cY {V : List (List UInt8)} {size : Nat} {f : Nat → Option (List UInt8)} {i : Nat} (h : i < size) : (Sj V size f)[i]? = some ((f i).getD (V.getD i Iz)) := by
 unfold Sj; rw [Az, List.getElem?_range h]; rfl
section
variable {l : List UInt8} {x : Img}
theorem Akd (hI : IsImg l x) (hs : StOk (Ez x) (Bh x)) : StIn (Bh x) := by
 obtain ⟨w, ws, ht, _, hby, _⟩ := Gg hI
 have hm : (Bh x).m = w.m := by unfold Bh; rw [ht]; rfl
 exact ⟨fun i hi => by rw [hm]; exact beyond_iff.1 hby i hi, fun p hp => by cases hp⟩
theorem aQ (hI : IsImg l x) (hs : StOk (Ez x) (Bh x)) : (Ci l x).head.length = x.sup.size := by rw [← xN hI hs, qY]; rfl
theorem xS (hI : IsImg l x) (hs : StOk (Ez x) (Bh x)) (i : Nat) : (Ci l x).head.getD i Iz = Pt l (Bh x) i := by
 rw [← xN hI hs, Ae]
 by_cases h : i < (Bh x).size
 ·rw [Ajk h]; rfl
 ·rw [Dp (by rw [qY]; omega)]
  show Iz = secB l ((Bh x).m.getD i 0)
  rw [(Akd hI hs).zero i (by omega)]; rfl
theorem Rk (hI : IsImg l x) (hs : StOk (Ez x) (Bh x)) {s : St} {size : Nat} {f : Nat → Option (List UInt8)} (hz : s.size = size) (h : ∀ i, i < size → Pt l s i = (f i).getD (Pt l (Bh x) i)) : Pu l s = Sj (Ci l x).head size f := by
 unfold Pu Sj
 rw [hz]
 exact Av fun i hi => by rw [h i (Bw.1 hi), xS hI hs i]
end
def runF (a n : Nat) (g : Nat → List UInt8) (i : Nat) : Option (List UInt8) := if a ≤ i ∧ i < a + n then some (g (i - a)) else none
theorem sF {frm count : Int} {size : Nat} (h : mayE frm count 1 size = 0) : 1 ≤ count := by
 unfold mayE at h
 split at h
 ·cases h
 ·omega
theorem fG {l : List UInt8} (hl : l.length < 1000000) {frm : Int} {d : List UInt8} {ios : List IoV} (h : Kc l frm d = .ok ios) : Sn ios ∧ ios.length < 2000 ∧ ∃ (x x' : Img) (a n : Nat), Opd l ios x x' ∧ frm = a ∧ d.length = 64 * n ∧ 1 ≤ n ∧ a + n ≤ (Ci l x).head.length ∧
  Ci (Bs l ios) x' = ⟨Sj (Ci l x).head (Ci l x).head.length (runF a n (blk d)), (Ci l x).snaps, (Ci l x).opens⟩ := by
 obtain ⟨⟨x, x', hO, hc, hS, hv, _⟩, hok, hlen⟩ := jS hl h fun x hsz hc hS hIn => by
  unfold Ku at hc
  split at hc
  ·cases hc
  ·rename_i hm
   have hm : d.length % 64 = 0 := Dm hm
   obtain ⟨a, n, rfl, hn, h1, h2⟩ := Kd hc hsz (by decide)
   have hn : d.length / 64 = n := by omega
   have e : Ff a d x = (Bh x).write a d n := by unfold Ff; rw [hn]; rfl
   rw [e]
   exact ⟨hS.write a n h2 (by omega), hIn.write a d n h1⟩
 refine ⟨hok, hlen, ?_⟩
 have hsz : x.sup.size ≤ 512 := hS.size
 have hhl := aQ hO.img hS
 unfold Ku at hc
 split at hc
 ·cases hc
 ·rename_i hm
  have hm : d.length % 64 = 0 := Dm hm
  have h1c := sF hc
  obtain ⟨a, n, rfl, hn, h1, h2⟩ := Kd hc hsz (by decide)
  have hn : d.length / 64 = n := by omega
  have e : Ff a d x = (Bh x).write a d n := by unfold Ff; rw [hn]; rfl
  refine ⟨x, x', a, n, hO, rfl, by omega, by omega, by omega, ?_⟩
  rw [hv, e, Rk hO.img hS (size := (Ci l x).head.length) (f := runF a n (blk d)) (by rw [Ul, hhl]; rfl) fun i hi => ?_]
  rw [bV hS a n i h2 (by omega)]
  unfold runF
  split <;> rfl
theorem bE {l : List UInt8} (hl : l.length < 1000000) {count : Int} {ios : List IoV} (h : Jw l count = .ok ios) : Sn ios ∧ ios.length < 2000 ∧ ∃ (x x' : Img) (z : Nat), Opd l ios x x' ∧ count = z ∧ z ≤ 512 ∧ (Ci l x).head.length ≤ 512 ∧
  Ci (Bs l ios) x' = ⟨Sj (Ci l x).head z (fun _ => none), (Ci l x).snaps, (Ci l x).opens⟩ := by
 obtain ⟨⟨x, x', hO, hc, hS, hv, _⟩, hok, hlen⟩ := jS hl h fun x hsz hc hS hIn => by
  unfold Km at hc
  split at hc
  ·cases hc
  ·obtain ⟨z, rfl⟩ : ∃ z : Nat, count = z := ⟨count.toNat, by omega⟩
   exact ⟨(hS.zero _ _).sized (by show z ≤ 512; omega), StIn.resize hS.len rfl (by show z ≤ 512; omega)⟩
 refine ⟨hok, hlen, ?_⟩
 have hhl := aQ hO.img hS
 have hsz : x.sup.size ≤ 512 := hS.size
 unfold Km at hc
 split at hc
 ·cases hc
 ·obtain ⟨z, rfl⟩ : ∃ z : Nat, count = z := ⟨count.toNat, by omega⟩
  refine ⟨x, x', z, hO, rfl, by omega, by omega, ?_⟩
  have e : Jk z x = { (Bh x).zero z (512 - z) with size := z } := rfl
  rw [hv, e, Rk hO.img hS (size := z) (f := fun _ => none) rfl fun i hi => ?_]
  show Pt l ((Bh x).zero z (512 - z)) i = _
  rw [Yp hS z (512 - z) i (by omega), if_neg (by omega)]; rfl
end Go.Proofs.YtkpndfkpdnknkaaGreat

