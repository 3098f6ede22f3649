import Derived.Test.YtkaiiopoilpjeaaJ18
set_option linter.unusedSimpArgs false
set_option linter.unusedVariables false
set_option maxRecDepth 10000
set_option maxHeartbeats 16000000
namespace Go.Proofs.Ytkaiiopoilpjeaa
open Go.AI
theorem freeP_rising (c : List Nat) : rising (freeP c) := by
 have h : (freeP c).Pairwise (· < ·) := (List.pairwise_lt_range).filter _
 intro i hi
 have h2 := List.pairwise_iff_getElem.1 h i (i + 1) (by omega) hi (by omega)
 simp only [List.getD_eq_getElem?_getD, List.getElem?_eq_getElem hi, List.getElem?_eq_getElem (show i < (freeP c).length by omega), Option.getD_some]
 exact h2
theorem freeP_mem {c : List Nat} {a : Nat} (h : a ∈ freeP c) : 2 ≤ a ∧ a < c.length := by
 unfold freeP at h
 obtain ⟨h1, h2⟩ := List.mem_filter.1 h
 unfold isFree at h2
 have h3 := List.mem_range.1 h1
 simp at h2
 omega
theorem freeP_len (c : List Nat) : (freeP c).length ≤ c.length := by
 have := List.length_filter_le (isFree c) (List.range c.length)
 unfold freeP
 simpa using this
theorem chainL_ok {n : Nat} : ∀ (rs : List Rec) (fs : List Nat) (p : Nat), (∀ a ∈ fs, 2 ≤ a ∧ a < n) → ∀ x ∈ chainL rs fs p, okIo n x ∧ x.s = 1
 | [], _, _, _, x, h => by cases h
 | _ :: _, [], _, _, x, h => by cases h
 | r :: rs, a :: fs, p, hf, x, h => by
  simp only [chainL] at h
  rcases List.mem_cons.1 h with rfl | h
  ·exact ⟨⟨rfl, hf a (List.mem_cons_self ..), recB_len _⟩, rfl⟩
  ·exact chainL_ok rs fs a (fun b hb => hf b (List.mem_cons_of_mem _ hb)) x h
theorem chainE_ok {n : Nat} : ∀ (rs : List Rec) (fs : List Nat) (p : Nat), (∀ a ∈ fs, 2 ≤ a ∧ a < n) → (p = 0 ∨ 2 ≤ p ∧ p < n) → (chainE rs fs p = 0 ∨ 2 ≤ chainE rs fs p ∧ chainE rs fs p < n)
 | [], _, _, _, h => h
 | _ :: _, [], _, _, h => h
 | r :: rs, a :: fs, p, hf, h => chainE_ok rs fs a (fun b hb => hf b (List.mem_cons_of_mem _ hb)) (.inr (hf a (List.mem_cons_self ..)))
theorem chainL_len : ∀ (rs : List Rec) (fs : List Nat) (p : Nat), (chainL rs fs p).length ≤ rs.length
 | [], _, _ => by simp [chainL]
 | _ :: _, [], _ => by simp [chainL]
 | r :: rs, a :: fs, p => by
  have := chainL_len rs fs a
  simp only [chainL, List.length_cons]; omega
def pendP : List Rec → Option Rec
 | r :: _ => if r.kind = 1 then some r else none
 | [] => none
def pendAv : Option Rec → AV
 | some r => .tup [r.av, .bool true]
 | none => .tup [rec0.av, .bool false]
attribute [local irreducible] aops aexec acall aiter aop W WO
theorem c_pending (k : Nat) (hk : 10 ≤ k) (t f : Bool) (s : Nat) (recs : List Rec) (a0 a1 a2 a3 a4 a5 : AV) (hs : s = 8 ∨ recs = []) : FnV (CF k) n_snap_pending [.agg [a0, a1, a2, a3, a4, a5, .islc t f s (recs.map Rec.av)]] (pendAv (pendP recs)) := by
 refine fnk (by omega) B_snap_pending rfl ?_
 unfold snap_pending
 cases recs with
 | nil =>
  repeat' (first
   | refine q_s ?_ | refine q_z ?_ | refine q_b ?_ | refine wo_lenG (n := 0) rfl rfl rfl rfl ?_ | refine q_n ?_ | refine q_nn ?_ | refine q_mv ?_ | refine q_faddr ?_ | refine q_faddrI ?_
   | refine q_load ?_ | refine q_loadI ?_ | refine q_loadR ?_ | refine q_loadM ?_ | refine q_cmp ?_ | refine q_cmp2 (fun _ => ?_) (fun _ => ?_) | refine q_pickT ?_ | refine q_pickF ?_
   | refine q_len ?_ | refine q_lenS ?_ | refine q_len0 ?_ | refine q_lenM ?_ | refine q_store ?_ | refine q_storeR ?_ | refine q_storeM ?_ | refine q_box ?_ | refine q_at ?_
   | refine q_atM ?_ | refine q_atG ?_ | refine q_atR ?_ | refine q_build0 ?_ | refine q_build ?_)
  exact ⟨Or.inr rfl, _, rfl, rfl⟩
 | cons r rs =>
  obtain rfl : s = 8 := hs.resolve_right (by simp)
  obtain ⟨b1, b2, b3, b4, b5, b6, b7, b8⟩ := r
  have hln : ((⟨b1, b2, b3, b4, b5, b6, b7, b8⟩ :: rs : List Rec).map Rec.av).length = rs.length + 1 := by simp
  have he : ((⟨b1, b2, b3, b4, b5, b6, b7, b8⟩ :: rs : List Rec).map Rec.av)[(0 : Int).toNat]? = some (.agg [.int .i64 b1, .int .i64 b2, .int .i64 b3, .int .i64 b4, .int .i64 b5, .int .i64 b6, .int .i64 b7, .int .i64 b8]) := rfl
  simp only [pendP]
  by_cases h : b6 = 1
  ·subst h
   rw [if_pos rfl]
   repeat' (first
    | refine q_s ?_ | refine q_z ?_ | refine q_b ?_ | refine wo_lenG (n := rs.length + 1) rfl hln rfl rfl ?_ | refine wo_atG rfl rfl (by omega) he rfl rfl ?_ | refine q_faddrI ?_
    | refine q_n ?_ | refine q_nn ?_ | refine q_mv ?_ | refine q_faddr ?_ | refine q_faddrI ?_ | refine q_load ?_ | refine q_loadI ?_ | refine q_loadR ?_ | refine q_loadM ?_
    | refine q_cmp ?_ | refine q_cmp2 (fun _ => ?_) (fun _ => ?_) | refine q_pickT ?_ | refine q_pickF ?_ | refine q_len ?_ | refine q_lenS ?_ | refine q_len0 ?_ | refine q_lenM ?_
    | refine q_store ?_ | refine q_storeR ?_ | refine q_storeM ?_ | refine q_box ?_ | refine q_at ?_ | refine q_atM ?_ | refine q_atG ?_ | refine q_atR ?_ | refine q_build0 ?_
    | refine q_build ?_)
   exact ⟨Or.inr rfl, _, rfl, rfl⟩
  ·rw [if_neg h]
   have h' : (b6 : Int) ≠ 1 := by omega
   repeat' (first
    | refine q_s ?_ | refine q_z ?_ | refine q_b ?_ | refine wo_lenG (n := rs.length + 1) rfl hln rfl rfl ?_ | refine wo_atG rfl rfl (by omega) he rfl rfl ?_ | refine q_faddrI ?_
    | refine q_n ?_ | refine q_nn ?_ | refine q_mv ?_ | refine q_faddr ?_ | refine q_faddrI ?_ | refine q_load ?_ | refine q_loadI ?_ | refine q_loadR ?_ | refine q_loadM ?_
    | refine q_cmp ?_ | refine q_cmp2 (fun _ => ?_) (fun _ => ?_) | refine q_pickT ?_ | refine q_pickF ?_ | refine q_len ?_ | refine q_lenS ?_ | refine q_len0 ?_ | refine q_lenM ?_
    | refine q_store ?_ | refine q_storeR ?_ | refine q_storeM ?_ | refine q_box ?_ | refine q_at ?_ | refine q_atM ?_ | refine q_atG ?_ | refine q_atR ?_ | refine q_build0 ?_
    | refine q_build ?_)
   exact ⟨Or.inr rfl, _, rfl, rfl⟩
def makesP (l : List UInt8) (x : Img) (n : Nat) (first : Rec) (wth : Bool) : Except Nat (List IoV) :=
 if ¬ x.sup.gen < 1099511627776 then .error 8
 else if (freeP (countsP l x)).length < (anewP x.recs n first wth).length then .error 9
 else .ok (stepsL x.sup x.slot (chainL (anewP x.recs n first wth) (freeP (countsP l x)) (x.blocks.getD n default)) x.sup.root x.sup.size (chainE (anewP x.recs n first wth) (freeP (countsP l x)) (x.blocks.getD n default)))
def iosAv : Except Nat (List IoV) → AV
 | .ok ios => .tup [.islc false false 3 (ios.map IoV.av), .int .i64 0]
 | .error e => .tup [.islc false true 0 [], .int .i64 e]
theorem c_Makes (k : Nat) (hk : 1000100 ≤ k) (f : Bool) (l : List UInt8) (hd : Dev l) (x : Img) (hx : x.fit l) (n : Nat) (first : Rec) (wth : Bool) (hn : n ≤ x.recs.length) (hfo : wth = true → ({ first with next := 0 } : Rec).ok) :
  FnV (CF k) n_snap_Makes [.islc false f 1 (BL l), .iptr false (x.cs false f l), .int .i64 n, first.av, .bool wth] (iosAv (makesP l x n first wth)) := by
 have hnb := hd.nb
 obtain ⟨hcl, hcm⟩ := countsP_cb hx
 have hfree := c_head_Free (k - 1) (by omega) f l hd x hx
 obtain ⟨f1, s1, hr, hs1⟩ := rIvF x.recs
 obtain ⟨f2, s2, hb, hs2⟩ := nodesIvF x.blocks
 have hfl := freeP_len (countsP l x)
 have hfm : ∀ a ∈ freeP (countsP l x), 2 ≤ a ∧ a < nb l := fun a ha => by have := freeP_mem ha; rw [hcl] at this; exact this
 have hrec := c_commit_Records (k - 1) (by omega) x.recs f1 s1 hs1 x.blocks f2 s2 hs2 n first wth (freeP (countsP l x)) false (by have := hx.few; omega) hx.len hn hx.recs hfo (fun a ha => by have := hx.blk a ha; omega) (fun a ha => by have := hfm a ha; omega) (by omega) (freeP_rising _)
 have hp : x.blocks.getD n default = 0 ∨ 2 ≤ x.blocks.getD n default ∧ x.blocks.getD n default < nb l := by
  by_cases h : n < x.blocks.length
  ·right
   rw [List.getD_eq_getElem?_getD, List.getElem?_eq_getElem h]
   exact hx.blk _ (List.getElem_mem h)
  ·left
   rw [List.getD_eq_getElem?_getD, List.getElem?_eq_none (by omega)]; rfl
 have hE := chainE_ok (n := nb l) (anewP x.recs n first wth) (freeP (countsP l x)) (x.blocks.getD n default) hfm hp
 have hL := chainL_ok (n := nb l) (anewP x.recs n first wth) (freeP (countsP l x)) (x.blocks.getD n default) hfm
 have hLl := chainL_len (anewP x.recs n first wth) (freeP (countsP l x)) (x.blocks.getD n default)
 have hal : (anewP x.recs n first wth).length < 900 := by
  have := hx.few
  unfold anewP
  rw [List.length_append, List.length_reverse, List.length_take]
  cases wth <;> simp <;> omega
 obtain ⟨e, he⟩ : ∃ e, e = chainE (anewP x.recs n first wth) (freeP (countsP l x)) (x.blocks.getD n default) := ⟨_, rfl⟩
 obtain ⟨ios, hios⟩ : ∃ e, e = chainL (anewP x.recs n first wth) (freeP (countsP l x)) (x.blocks.getD n default) := ⟨_, rfl⟩
 have hsok := hx.sup
 have hblk := hx.blocks
 have hst := c_commit_Steps (k - 1) (by omega) x.sup x.slot f1 s1 (x.recs.map Rec.av) ios false false 3 x.sup.root x.sup.size e hx.sup hx.slot (.inl rfl) (by rw [hios]; omega) (by rw [hios, hblk]; exact hL) (fun hg => by
  refine ⟨⟨by show 1 ≤ x.sup.gen + 1; omega, by show x.sup.gen + 1 ≤ _; omega⟩, hsok.2.1, hsok.2.2.1, hsok.2.2.2.1, ?_⟩
  show e = 0 ∨ 2 ≤ e ∧ e < x.sup.blocks
  rw [hblk, he]; exact hE)
 unfold makesP
 unfold recsAv at hrec
 rw [← he, ← hios] at hrec ⊢
 obtain ⟨b1, b2, b3, b4, b5, b6, b7, b8⟩ := first
 unfold Rec.av at hrec ⊢
 simp only at hrec ⊢
 obtain ⟨fr, hfr⟩ : ∃ q, q = freeP (countsP l x) := ⟨_, rfl⟩
 rw [← hfr] at hfree hrec ⊢
 obtain ⟨an, han⟩ : ∃ q, q = anewP x.recs n ⟨b1, b2, b3, b4, b5, b6, b7, b8⟩ wth := ⟨_, rfl⟩
 rw [← han] at hrec ⊢
 unfold Img.cs at hfree ⊢
 rw [hr, hb] at hfree ⊢
 obtain ⟨⟨g, b, r, z, fi⟩, slot, recs, blocks, trees⟩ := x
 simp only at hfree hrec hst ⊢
 refine fnk (by omega) B_snap_Makes rfl ?_
 unfold snap_Makes
 by_cases hg : g < 1099511627776
 ·rw [if_neg (by omega)]
  rw [if_pos hg] at hst
  by_cases hsp : fr.length < an.length
  ·rw [if_pos hsp] at hrec ⊢
   repeat' (first
    | refine q_s ?_ | refine q_z ?_ | refine q_b ?_ | refine q_nilcI ?_ | refine q_mv ?_ | refine q_faddr ?_ | refine q_faddrI ?_ | refine q_nilc ?_ | refine q_nilcI ?_ | refine q_load ?_
    | refine q_loadI ?_ | refine q_loadR ?_ | refine q_loadM ?_ | refine q_cmp ?_ | refine q_cmp2 (fun _ => ?_) (fun _ => ?_) | refine q_ex ?_ | refine q_store ?_ | refine q_storeR ?_
    | refine q_storeM ?_ | refine q_box ?_ | refine q_callB (hfree) (fun _ => ?_) (fun _ => ?_) | refine q_call (hfree) ?_ | refine q_callB (hrec) (fun _ => ?_) (fun _ => ?_)
    | refine q_call (hrec) ?_)
   exact ⟨Or.inr rfl, _, rfl, rfl⟩
  ·rw [if_neg hsp] at hrec ⊢
   repeat' (first
    | refine q_s ?_ | refine q_z ?_ | refine q_b ?_ | refine q_nilcI ?_ | refine q_mv ?_ | refine q_faddr ?_ | refine q_faddrI ?_ | refine q_nilc ?_ | refine q_nilcI ?_ | refine q_load ?_
    | refine q_loadI ?_ | refine q_loadR ?_ | refine q_loadM ?_ | refine q_cmp ?_ | refine q_cmp2 (fun _ => ?_) (fun _ => ?_) | refine q_ex ?_ | refine q_store ?_ | refine q_storeR ?_
    | refine q_storeM ?_ | refine q_box ?_ | refine q_callB (hfree) (fun _ => ?_) (fun _ => ?_) | refine q_call (hfree) ?_ | refine q_callB (hrec) (fun _ => ?_) (fun _ => ?_)
    | refine q_call (hrec) ?_ | refine q_callB (hst) (fun _ => ?_) (fun _ => ?_) | refine q_call (hst) ?_)
   exact ⟨Or.inr rfl, _, rfl, rfl⟩
 ·rw [if_pos hg]
  repeat' (first
   | refine q_s ?_ | refine q_z ?_ | refine q_b ?_ | refine q_nilcI ?_ | refine q_mv ?_ | refine q_faddr ?_ | refine q_faddrI ?_ | refine q_nilc ?_ | refine q_nilcI ?_ | refine q_load ?_
   | refine q_loadI ?_ | refine q_loadR ?_ | refine q_loadM ?_ | refine q_cmp ?_ | refine q_cmp2 (fun _ => ?_) (fun _ => ?_) | refine q_ex ?_ | refine q_store ?_ | refine q_storeR ?_
   | refine q_storeM ?_ | refine q_box ?_ | refine q_callB (hfree) (fun _ => ?_) (fun _ => ?_) | refine q_call (hfree) ?_)
  exact ⟨Or.inr rfl, _, rfl, rfl⟩
end Go.Proofs.Ytkaiiopoilpjeaa

