import Derived.Test.YtkpndfkpdnknkaaGreatE15
import Derived.Test.YtkpndfkpdnknkaaGreatE4c
set_option linter.unusedSimpArgs false
set_option linter.unusedVariables false
set_option maxRecDepth 10000
set_option maxHeartbeats 16000000
namespace Go.Proofs.YtkpndfkpdnknkaaGreat
open Go.AI
theorem Pr {l : List UInt8} (hl : l.length < 1000000) {x : Img} (hq : lookQ l = .ok x) : (Ci l x).head.length = x.sup.size := by
 obtain ⟨_, _, hS, _, _⟩ := Ju hl hq
 exact aQ ((Iy hl).1 hq).2 hS
theorem Sc {l : List UInt8} (hl : l.length < 1000000) {x : Img} (hq : lookQ l = .ok x) {a n : Nat} (h : a + n ≤ (Ci l x).head.length) : Nl l a n = .ok (((Ci l x).head.drop a).take n).flatten := by
 rw [Pr hl hq] at h
 have hm : mayE (a : Int) (n : Int) 0 x.sup.size = 0 := by
  unfold mayE Sy
  rw [if_neg (by omega), if_neg (fun hh => hh (by omega))]
 unfold Nl
 rw [hq]
 simp only
 rw [if_neg (fun hh => hh hm), Ax, Ax]
theorem Agj {l : List UInt8} (hl : l.length < 1000000) {x : Img} (hq : lookQ l = .ok x) {a : Nat} (h : (Ci l x).head.length ≤ a) : Nl l a 1 = .error 3 := by
 rw [Pr hl hq] at h
 have hm : mayE (a : Int) 1 0 x.sup.size = 3 := by
  unfold mayE Sy
  rw [if_neg (by omega), if_pos (by omega)]
 unfold Nl
 rw [hq]
 simp only
 rw [hm, if_pos (by decide)]
theorem Axe {l : List UInt8} {x : Img} (hd : Dev l) (hI : IsImg l x) : ∀ r ∈ (Ci l x).head, r.length = 64 := by
 obtain ⟨w, ws, ht, hg, _, _⟩ := Gg hI
 have hlo := Us hg
 have hnb := hd.nb
 intro r hr
 have hv : (Ci l x).head = Ji l w.m x.sup.size := by unfold Ci; rw [ht]; rfl
 rw [hv] at hr
 unfold Ji at hr
 obtain ⟨b, hb, rfl⟩ := Bt.1 hr
 have hb := As hb
 exact vC fun h0 => hd.le (by rcases hlo.2 b hb with h | h <;> omega)
theorem uZ {V : List (List UInt8)} {size a n : Nat} {g : Nat → List UInt8} (h : a + n ≤ size) : ((Sj V size (runF a n g)).drop a).take n = (List.range n).map g := by
 refine List.ext_getElem? fun i => ?_
 rw [Fv, Fu, Az]
 by_cases hi : i < n
 ·rw [if_pos hi, cY (by omega), List.getElem?_range hi]
  unfold runF
  rw [if_pos (by omega), show a + i - a = i by omega]; rfl
 ·rw [if_neg hi, Dp (by rw [Ek]; omega)]; rfl
theorem zJ (d : List UInt8) : ∀ n, 64 * n ≤ d.length → ((List.range n).map (blk d)).flatten = d.take (64 * n)
 | 0, _ => by simp
 | n + 1, h => by
  rw [Jl, Br, List.flatten_append, zJ d n (by omega)]
  simp only [Bb, Lj, List.flatten_cons, List.flatten_nil, Bz]
  rw [show 64 * (n + 1) = 64 * n + 64 by omega, Zx]; rfl
theorem Zk : ∀ n, (List.replicate n Iz).flatten = List.replicate (64 * n) 0
 | 0 => rfl
 | n + 1 => by
  rw [La, List.flatten_cons, Zk n]
  show List.replicate 64 0 ++ _ = _
  rw [List.replicate_append_replicate]; congr 1; omega
theorem Vg {H : Heap} {j g n : Nat} (h : H j = ⟨g, false, .row 1 (BL (List.replicate n 0))⟩) : fz false 6 H (.slc j g n 1 0 n none) = .islc true false 1 (BL (List.replicate n 0)) := by
 have hb : (BL (List.replicate n 0)).length = n := by rw [BL_length, Ca]
 have e : (BL (List.replicate n 0)).map (fz false 5 H) = BL (List.replicate n 0) := by
  unfold BL
  rw [Fh]
  exact Av fun _ _ => rfl
 rw [Oi (Ev h (by omega)) (by omega), Cd, Aj (by omega), e]
 rfl
attribute [local irreducible] aops Bp Cs Df aop W WO
theorem xC (l : List UInt8) (hm : l.length ≤ maxLen) (kind frm count source : Int) (d : List UInt8) (hdm : d.length ≤ maxLen) : ∃ H, CF 1000700 Pm 0 [.islc false false 1 (BL l), .int .i64 kind, .int .i64 frm, .int .i64 count, .int .i64 source, .islc false false 1 (BL d)] Heap.none = some (.bool true, H) := by
 suffices h : FnV (CF 1000700) Pm [.islc false false 1 (BL l), .int .i64 kind, .int .i64 frm, .int .i64 count, .int .i64 source, .islc false false 1 (BL d)] (.bool true) by
  obtain ⟨u, H, h1, h2⟩ := h
  refine ⟨H, ?_⟩
  rw [h1, dO h2]
 have hH := jX (1000700 - 1) (by omega) false false l
 have hW := Ua (1000700 - 1) (by omega)
 have hdl : (BL d).length = d.length := BL_length d
 by_cases hl1 : l.length > 19200
 ·rw [An hl1] at hH
  refine fnk (by omega) Hj rfl ?_
  unfold Gq
  repeat' (first | refine qS ?_ | refine qN ?_ | refine Ab hH ?_ | refine qQ ?_ | fail)
  exact ⟨Or.inr rfl, _, rfl, rfl⟩
 rw [Ba hl1] at hH
 have hl : l.length < 1000000 := by omega
 by_cases hd1 : d.length > 1280
 ·have hd1' : (d.length : Int) > 1280 := by omega
  refine fnk (by omega) Hj rfl ?_
  unfold Gq
  repeat' (first | refine qS ?_ | refine qN ?_ | refine Ab hH ?_ | refine Bi (n := d.length) rfl hdl rfl rfl ?_ | refine qQ ?_ | fail)
  exact ⟨Or.inr rfl, _, rfl, rfl⟩
 have hd1' : ¬ (d.length : Int) > 1280 := by omega
 obtain ⟨m, hm3, hm4⟩ : ∃ m : Int, kind % 18446744073709551616 % 4 = m ∧ (m = 0 ∨ m = 1 ∨ m = 2 ∨ m = 3) := ⟨_, rfl, by omega⟩
 have hm0 : 0 ≤ m ∧ m < 4 := by omega
 have pO := c_Do (1000700 - 1) (by omega) false l hl m hm4 frm count source false false 1 d (.inl rfl) (by omega)
 cases h : doP l m frm count source d with
 | error e =>
  rw [h] at pO
  have he := Aaf h
  have he' : (e : Int) ≠ 0 := by omega
  unfold Ly at pO
  simp only at pO
  refine fnk (by omega) Hj rfl ?_
  unfold Gq
  repeat' (first
   | refine qS ?_ | refine qN ?_ | refine Ab hH ?_ | refine Bi (n := d.length) rfl hdl rfl rfl ?_ | refine Ab pO ?_ | refine Ab hW ?_
   | refine Bi (n := 0) rfl rfl rfl rfl ?_ | (rw [hm3]) | refine qQ ?_ | fail)
  exact ⟨Or.inr rfl, _, rfl, rfl⟩
 | ok ios =>
  rw [h] at pO
  unfold Ly at pO
  simp only at pO
  unfold doP at h
  have applies : ∀ {x x' : Img}, Opd l ios x x' → Sn ios → (Bs l ios).length < 1000000 ∧ lookQ (Bs l ios) = .ok x' ∧ lookQ l = .ok x ∧ FnV (CF (1000700 - 1)) Sb [.islc false false 1 (BL l), .islc false false 3 (ios.map IoV.av)] (.tup [.islc false false 1 (BL (Bs l ios)), .int .i64 0]) := by
   intro x x' hO hok
   have hl2 : (Bs l ios).length < 1000000 := by rw [hO.len]; exact hl
   have pA := Rv (1000700 - 1) (by omega) false false l hl false false 3 ios (.inl rfl) hok.1 (fun y hy => (hok.2 y hy).1)
   unfold Ny at pA
   rw [if_neg (fun h => h hO.right)] at pA
   exact ⟨hl2, (Iy hl2).2 ⟨uP hO.dev hO.len, hO.img'⟩, (Iy hl).2 ⟨hO.dev, hO.img⟩, pA⟩
  rcases hm4 with rfl | rfl | rfl | rfl
  ·rw [if_pos rfl] at h
   obtain ⟨hok, _, x, x', a, n, hO, rfl, hd, h1, h2, hv⟩ := fG hl h
   obtain ⟨hl2, hq2, hq, pA⟩ := applies hO hok
   have hr := Sc hl2 hq2 (a := a) (n := n) (by rw [hv]; simp only; rw [Ir]; exact h2)
   rw [hv] at hr
   simp only at hr
   rw [uZ h2, zJ d n (by omega), Aj (by omega)] at hr
   have hdn : (d.length : Int) / 64 = (n : Int) := by omega
   have pR := Qk (1000700 - 1) (by omega) false (Bs l ios) hl2 a n
   rw [hr] at pR
   unfold Ue at pR
   simp only at pR
   obtain ⟨uf, us, hue, hu1⟩ := Up d
   rw [hue] at pR
   have pB := Tr (1000700 - 1) (by omega) false uf false false us 1 d d (by omega) (by omega) hu1 (.inl rfl)
   rw [An rfl] at pB
   generalize Bs l ios = l2 at *
   refine fnk (by omega) Hj rfl ?_
   unfold Gq
   repeat' (first
    | refine qS ?_ | refine qN ?_ | refine Ab hH ?_ | refine Bi (n := d.length) rfl hdl rfl rfl ?_ | refine Ab pO ?_ | refine Ab pA ?_ | refine Ab pR ?_
    | refine Ab pB ?_ | refine Ab hW ?_ | (rw [hm3]) | (rw [hdn]) | refine qQ ?_ | fail)
   exact ⟨Or.inr rfl, _, rfl, rfl⟩
  ·rw [if_neg (by decide), if_pos rfl] at h
   obtain ⟨hok, _, x, x', a, n, hO, rfl, rfl, h1, h2, hv⟩ := xT hl h
   obtain ⟨hl2, hq2, hq, pA⟩ := applies hO hok
   have hV5 : (Ci l x).head.length ≤ 512 := by
    obtain ⟨_, _, hS, hsz, _⟩ := Ju hl hq
    rw [Pr hl hq]; exact hsz
   have hr := Sc hl2 hq2 (a := a) (n := n) (by rw [hv]; simp only; rw [Ir]; exact h2)
   rw [hv] at hr
   simp only at hr
   rw [uZ h2, show (List.range n).map (fun _ => Iz) = List.replicate n Iz by rw [List.map_const']; simp, Zk] at hr
   have pR := Qk (1000700 - 1) (by omega) false (Bs l ios) hl2 a n
   rw [hr] at pR
   unfold Ue at pR
   simp only at pR
   obtain ⟨uf, us, hue, hu1⟩ := Up (List.replicate (64 * n) 0)
   rw [hue] at pR
   have pB := Tr (1000700 - 1) (by omega) false uf true false us 1 (List.replicate (64 * n) 0) (List.replicate (64 * n) 0) (by rw [Ca]; omega) (by rw [Ca]; omega) hu1 (.inl rfl)
   rw [An rfl] at pB
   have e1 : (n : Int) * 64 = ((64 * n : Nat) : Int) := by omega
   generalize Bs l ios = l2 at *
   refine fnk (by omega) Hj rfl ?_
   unfold Gq
   repeat' (first
    | refine qS ?_ | refine qN ?_ | refine Ab hH ?_ | refine Bi (n := d.length) rfl hdl rfl rfl ?_ | refine Ab pO ?_ | refine Ab pA ?_ | refine Ab pR ?_
    | refine Ab pB ?_ rfl (by exact Bk (fun z => [_, z]) (Vg (n := 64 * n) (by rfl))) | refine Ab hW ?_ | (rw [hm3]) | (rw [e1]) | refine qQ ?_ | fail)
   exact ⟨Or.inr rfl, _, rfl, rfl⟩
  ·rw [if_neg (by decide), if_neg (by decide), if_pos rfl] at h
   obtain ⟨hok, _, x, x', a, n, b, hO, rfl, rfl, rfl, h1, h2, h3, hv⟩ := vY hl h
   obtain ⟨hl2, hq2, hq, pA⟩ := applies hO hok
   have hr := Sc hl2 hq2 (a := a) (n := n) (by rw [hv]; simp only; rw [Ir]; exact h2)
   have hr0 := Sc hl hq (a := b) (n := n) h3
   rw [hv] at hr
   simp only at hr
   have hsame : (List.range n).map (fun i => (Ci l x).head.getD (b + i) Iz) = ((Ci l x).head.drop b).take n := by
    refine List.ext_getElem? fun i => ?_
    rw [Fv, Fu, Az]
    by_cases hi : i < n
    ·rw [if_pos hi, List.getElem?_range hi, Aa (by omega)]
     show some ((Ci l x).head.getD (b + i) Iz) = _
     rw [Ae, Aa (by omega)]; rfl
    ·rw [if_neg hi, Dp (by rw [Ek]; omega)]; rfl
   rw [uZ h2, hsame] at hr
   have pR := Qk (1000700 - 1) (by omega) false (Bs l ios) hl2 a n
   have pR0 := Qk (1000700 - 1) (by omega) false l hl b n
   rw [hr] at pR
   rw [hr0] at pR0
   unfold Ue at pR pR0
   simp only at pR pR0
   have hyl : (((Ci l x).head.drop b).take n).flatten.length < 1000000 := by
    have hvo := kE hO.dev (Sa hO.dev hO.img)
    rw [Abo _ fun r hr => Axe hO.dev hO.img r (Cc (As hr)), Ay, Bl]
    obtain ⟨_, _, hS, hsz, _⟩ := Ju hl hq
    have := Pr hl hq
    omega
   generalize (((Ci l x).head.drop b).take n).flatten = y at *
   obtain ⟨uf, us, hue, hu1⟩ := Up y
   rw [hue] at pR pR0
   have pB := Tr (1000700 - 1) (by omega) false uf false uf us us y y hyl hyl hu1 hu1
   rw [An rfl] at pB
   generalize Bs l ios = l2 at *
   refine fnk (by omega) Hj rfl ?_
   unfold Gq
   repeat' (first
    | refine qS ?_ | refine qN ?_ | refine Ab hH ?_ | refine Bi (n := d.length) rfl hdl rfl rfl ?_ | refine Ab pO ?_ | refine Ab pA ?_ | refine Ab pR ?_
    | refine Ab pR0 ?_ | refine Ab pB ?_ | refine Ab hW ?_ | (rw [hm3]) | refine qQ ?_ | fail)
   exact ⟨Or.inr rfl, _, rfl, rfl⟩
  ·rw [if_neg (by decide), if_neg (by decide), if_neg (by decide)] at h
   obtain ⟨hok, _, x, x', z, hO, rfl, h1, h2, hv⟩ := bE hl h
   obtain ⟨hl2, hq2, hq, pA⟩ := applies hO hok
   have hsz := Pr hl hq
   obtain ⟨n, hn⟩ : ∃ n, n = z - x.sup.size := ⟨_, rfl⟩
   have hr := Sc hl2 hq2 (a := z - n) (n := n) (by rw [hv]; simp only; rw [Ir]; omega)
   have hr2 := Agj hl2 hq2 (a := z) (by rw [hv]; simp only; rw [Ir]; omega)
   rw [hv] at hr
   simp only at hr
   have hsame : ((Sj (Ci l x).head z fun _ => none).drop (z - n)).take n = List.replicate n Iz := by
    refine List.ext_getElem? fun i => ?_
    rw [Fv, Fu, Nr]
    by_cases hi : i < n
    ·rw [if_pos hi, if_pos hi, cY (by omega)]
     show some ((Ci l x).head.getD (z - n + i) Iz) = _
     rw [Ae, Dp (by omega)]; rfl
    ·rw [if_neg hi, if_neg hi]
   rw [hsame, Zk] at hr
   have pR := Qk (1000700 - 1) (by omega) false (Bs l ios) hl2 ((z - n : Nat) : Int) n
   have pR2 := Qk (1000700 - 1) (by omega) false (Bs l ios) hl2 z 1
   rw [hr] at pR
   rw [hr2] at pR2
   unfold Ue at pR pR2
   simp only at pR pR2
   obtain ⟨uf, us, hue, hu1⟩ := Up (List.replicate (64 * n) 0)
   rw [hue] at pR
   have pB := Tr (1000700 - 1) (by omega) false uf true false us 1 (List.replicate (64 * n) 0) (List.replicate (64 * n) 0) (by rw [Ca]; omega) (by rw [Ca]; omega) hu1 (.inl rfl)
   rw [An rfl] at pB
   have pP := Alw (1000700 - 1) (by omega) false l hl
   rw [hq] at pP
   obtain ⟨f1, s1, hrr, _⟩ := rIvF x.recs
   unfold rB stCs at pP
   simp only at pP
   rw [hrr] at pP
   have e0 : max ((z : Int) - (x.sup.size : Int)) 0 = (n : Int) := by omega
   have e1 : (n : Int) * 64 = ((64 * n : Nat) : Int) := by omega
   have e2 : (z : Int) - (n : Int) = ((z - n : Nat) : Int) := by omega
   generalize Bs l ios = l2 at *
   refine fnk (by omega) Hj rfl ?_
   unfold Gq
   repeat' (first
    | refine qS ?_ | refine qN ?_ | refine Ab hH ?_ | refine Bi (n := d.length) rfl hdl rfl rfl ?_ | refine Ab pO ?_ | refine Ab pA ?_ | refine Ab pP ?_
    | refine Ab pR ?_ | refine Ab pR2 ?_ | refine Hn ?_ (hl := by kernel_rfl) | refine Ab pB ?_ rfl (by exact Bk (fun z => [_, z]) (Vg (n := 64 * n) (by rfl)))
    | refine Ab hW ?_ | (rw [hm3]) | (rw [e0]) | (rw [e1]) | (rw [e2]) | refine qQ ?_ | fail)
   exact ⟨Or.inr rfl, _, rfl, rfl⟩
end Go.Proofs.YtkpndfkpdnknkaaGreat

