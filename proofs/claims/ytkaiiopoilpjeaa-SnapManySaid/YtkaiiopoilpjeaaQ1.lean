import Derived.Test.YtkaiiopoilpjeaaF3
import Derived.Test.YtkaiiopoilpjeaaMD2
set_option linter.unusedSimpArgs false
set_option linter.unusedVariables false
set_option maxRecDepth 10000
set_option maxHeartbeats 16000000
namespace Go.Proofs.Ytkaiiopoilpjeaa
open Go.AI
def idsUp (A i : Nat) : List Nat := ((List.range i).map (A + ·)).reverse
theorem idsUp_succ (A i : Nat) : idsUp A (i + 1) = (A + i) :: idsUp A i := by unfold idsUp; rw [List.range_succ]; simp
theorem idsUp_len (A i : Nat) : (idsUp A i).length = i := by unfold idsUp; simp
theorem idsUp_mem {A i a : Nat} : a ∈ idsUp A i ↔ A ≤ a ∧ a < A + i := by
 unfold idsUp
 rw [List.mem_reverse, List.mem_map]
 constructor
 ·rintro ⟨j, hj, rfl⟩; rw [List.mem_range] at hj; omega
 ·rintro ⟨h1, h2⟩; exact ⟨a - A, List.mem_range.2 (by omega), by omega⟩
theorem idsUp_add (A i j : Nat) : idsUp A (i + j) = idsUp (A + i) j ++ idsUp A i := by
 induction j with
 | zero => simp [idsUp]
 | succ j ih => rw [← Nat.add_assoc, idsUp_succ, ih, idsUp_succ]; simp [Nat.add_assoc]
attribute [local irreducible] aops aexec acall aiter aop W WO
theorem many_loop {k : Nat} {A : Nat} {l : List UInt8} {x : Img} {T : Tmps} {H : Heap} (hk : 1000200 ≤ k) (h1 : 1 ≤ A) (h2 : A ≤ 1000) (h0 : Row0 l x 130 1 [])
  (hT : Has T [(0, .int .i64 A), (3, .islc false false 1 (BL l)), (5, .int .i64 0)]) :
  W (aexec (CF k) noX 0 k (.loop law19_SnapMany_l0) T H) (fun ex T' H' => ex = .exit 0 ∧ ∃ l x, Row0 l x 130 61 (idsUp A 60) ∧ T' 0 = .int .i64 A ∧ T' 3 = .islc false false 1 (BL l)) := by
 refine w_for 60 (fun i T' H' => ∃ l x, Row0 l x 130 (1 + i) (idsUp A i) ∧ Has T' [(0, .int .i64 A), (3, .islc false false 1 (BL l)), (5, .int .i64 (i : Nat))]) ⟨l, x, h0, hT⟩ (by omega) ?_
 rintro i T H hi ⟨l, x, hR, hT⟩
 rw [hT.eq]
 simp only [over]
 unfold law19_SnapMany_l0
 by_cases hlt : i < 60
 ·have hlt' : (i : Int) < 60 := by omega
  obtain ⟨ios, x', hc, h4, hst, hlen, hR'⟩ := hR.create (a := A + i) (by omega) (by omega) (fun h => by have := idsUp_mem.1 h; omega) (by rw [idsUp_len]; omega) (by rw [idsUp_len]; omega) (by omega)
  have hl := hR.dev.1
  have hok := createP_ok hl hc
  have e1 : (A : Int) + (i : Int) = ((A + i : Nat) : Int) := by omega
  have pC := c_Create k (by omega) false l hl ((A + i : Nat) : Int)
  rw [hc] at pC
  unfold iosAv at pC
  have pA := c_Apply k (by omega) false false l hl false false 3 ios (.inl rfl) hok.1 (fun y hy => (hok.2 y hy).1)
  unfold applyAv at pA
  rw [if_neg (fun h => h hst)] at pA
  simp only at pC
  repeat' (first
   | refine q_s ?_ | refine q_z ?_ | refine q_b ?_ | (rw [e1]) | refine q_call pC ?_ | refine q_call pA ?_ | refine q_n ?_ | refine q_nn ?_ | refine q_mv ?_ | refine q_cmp ?_
   | refine q_add ?_ | refine q_pickT ?_ | refine q_pickF ?_ | refine q_ex ?_)
  exact ⟨hlt, _, x', by rw [idsUp_succ, ← Nat.add_assoc]; exact hR', rfl, rfl, by show AV.int _ _ = AV.int _ _; congr 1, trivial⟩
 ·have hin : i = 60 := by omega
  subst hin
  repeat' (first | refine q_s ?_ | refine q_z ?_ | refine q_b ?_ | refine q_n ?_ | refine q_nn ?_ | refine q_mv ?_ | refine q_cmp ?_ | refine q_add ?_ | refine q_pickT ?_ | refine q_pickF ?_ | refine q_ex ?_)
  exact ⟨rfl, l, x, hR, rfl, rfl⟩
theorem law_SnapMany (id : Int) : ∃ H, CF 1000700 n_law19_SnapMany 0 [.int .i64 id] Heap.none = some (.bool true, H) := by
 suffices h : FnV (CF 1000700) n_law19_SnapMany [.int .i64 id] (.bool true) by
  obtain ⟨u, H, h1, h2⟩ := h
  refine ⟨H, ?_⟩
  rw [h1, fz_true h2]
 have hW := c_wakes19 (1000700 - 1) (by omega)
 have hN := c_New (1000700 - 1) (by omega) 130 (by decide)
 obtain ⟨m, hm⟩ : ∃ m : Nat, id % 18446744073709551616 % 1000 = (m : Int) := ⟨(id % 18446744073709551616 % 1000).toNat, by omega⟩
 obtain ⟨A, hA⟩ : ∃ A : Nat, A = 1 + m := ⟨_, rfl⟩
 have hA1 : 1 ≤ A := by omega
 have hA2 : A ≤ 1000 := by omega
 have eA : (1 : Int) + (m : Int) = (A : Int) := by omega
 have hR0 := newP_row (n := 130) (by decide) (by decide)
 generalize newP 130 = l0 at *
 refine fnk (by omega) B_law19_SnapMany rfl ?_
 unfold law19_SnapMany
 repeat' (first
  | refine q_s ?_ | refine q_z ?_ | refine q_b ?_ | (rw [hm]) | (rw [eA]) | refine q_call hN ?_ | refine q_n ?_ | refine q_nn ?_ | refine q_mv ?_ | refine q_cmp ?_ | refine q_add ?_
  | refine q_rem ?_ | refine q_bin ?_ | refine q_pickT ?_ | refine q_pickF ?_ | refine q_len ?_ | refine q_lenS ?_ | refine q_len0 ?_ | refine q_lenM ?_ | refine q_ex ?_ | refine q_to64 ?_
  | refine q_tou64 ?_ | refine q_cvu ?_ | refine q_cvi ?_)
 refine W.mono (many_loop (k := 1000700 - 1) (A := A) (by omega) hA1 hA2 hR0 ⟨rfl, rfl, rfl, trivial⟩) ?_
 rintro ex T2 H2 ⟨rfl, l, x, hR, g0, g3⟩
 rw [Has.eq (T := T2) (ps := [(0, _), (3, _)]) ⟨g0, g3, trivial⟩]
 simp only [over]
 show W _ _
 have hl := hR.dev.1
 have hsp8 : idsUp A 8 = (A + 7) :: idsUp A 7 := by rw [show (8 : Nat) = 7 + 1 from rfl, idsUp_succ]
 have hsp : idsUp A 60 = idsUp (A + 8) 52 ++ (A + 7) :: idsUp A 7 := by rw [show (60 : Nat) = 8 + 52 from rfl, idsUp_add, hsp8]
 have c1 : createP l ((A + 60 : Nat) : Int) = .error 2 := hR.create_no (by omega) (by omega) (by rw [if_neg (fun h => by have := idsUp_mem.1 h; omega), if_pos (by rw [idsUp_len]; omega)]) (by decide)
 have hRs := hR
 rw [hsp] at hRs
 obtain ⟨ios, x2, hd, h55, hst, hlen, hR2⟩ := hRs.delete (by omega) (by omega) (by rw [← hsp, idsUp_len, idsUp_len]; omega) (by decide)
 have hok := deleteP_ok hl hd
 have hl2 : (applyP l ios).length < 1000000 := by rw [hlen]; exact hl
 have hlen2 : (idsUp (A + 8) 52 ++ idsUp A 7).length = 59 := by rw [List.length_append, idsUp_len, idsUp_len]
 obtain ⟨ios2, x3, c2, h4, _, _, _⟩ := hR2.create (a := A + 60) (by omega) (by omega) (fun h => by
  rcases List.mem_append.1 h with h | h
  ·have := idsUp_mem.1 h; omega
  ·have := idsUp_mem.1 h; omega) (by rw [hlen2]; omega) (by rw [hlen2]; omega) (by decide)
 have c3 : createP (applyP l ios) ((A + 8 : Nat) : Int) = .error 10 := hR2.create_no (by omega) (by omega) (by rw [if_pos (List.mem_append_left _ (idsUp_mem.2 (by omega)))]) (by decide)
 have p1 := c_Create (1000700 - 1) (by omega) false l hl ((A + 60 : Nat) : Int)
 have p2 := c_Delete (1000700 - 1) (by omega) false l hl ((A + 7 : Nat) : Int)
 have p3 := c_Create (1000700 - 1) (by omega) false (applyP l ios) hl2 ((A + 60 : Nat) : Int)
 have p4 := c_Create (1000700 - 1) (by omega) false (applyP l ios) hl2 ((A + 8 : Nat) : Int)
 have pA := c_Apply (1000700 - 1) (by omega) false false l hl false false 3 ios (.inl rfl) hok.1 (fun y hy => (hok.2 y hy).1)
 unfold applyAv at pA
 rw [if_neg (fun h => h hst)] at pA
 rw [c1] at p1
 rw [hd] at p2
 rw [c2] at p3
 rw [c3] at p4
 unfold iosAv at p1 p2 p3 p4
 simp only at p1 p2 p3 p4
 generalize applyP l ios = l2 at *
 have e60 : (A : Int) + 60 = ((A + 60 : Nat) : Int) := by omega
 have e7 : (A : Int) + 7 = ((A + 7 : Nat) : Int) := by omega
 have e8 : (A : Int) + 8 = ((A + 8 : Nat) : Int) := by omega
 have hml : (ios2.map IoV.av).length = 4 := by simpa using h4
 repeat' (first
  | refine q_s ?_ | refine q_z ?_ | refine q_b ?_ | (rw [e60]) | (rw [e7]) | (rw [e8]) | refine q_call p1 ?_ | refine q_call p2 ?_ | refine q_call pA ?_ | refine q_call p3 ?_
  | refine q_call p4 ?_ | refine wo_lenG (n := 4) rfl hml rfl rfl ?_ | refine q_call hW ?_ | refine q_n ?_ | refine q_nn ?_ | refine q_mv ?_ | refine q_cmp ?_ | refine q_add ?_
  | refine q_rem ?_ | refine q_bin ?_ | refine q_pickT ?_ | refine q_pickF ?_ | refine q_len ?_ | refine q_lenS ?_ | refine q_len0 ?_ | refine q_lenM ?_ | refine q_ex ?_ | refine q_to64 ?_
  | refine q_tou64 ?_ | refine q_cvu ?_ | refine q_cvi ?_)
 exact ⟨Or.inr rfl, _, rfl, rfl⟩
end Go.Proofs.Ytkaiiopoilpjeaa

