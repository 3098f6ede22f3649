/- Lemmas. -/
import Derived.Test.YtkaiiopoilpjeaaGreatK14
set_option linter.unusedSimpArgs false
set_option linter.unusedVariables false
set_option maxRecDepth 10000
set_option maxHeartbeats 16000000
namespace Go.Proofs.YtkaiiopoilpjeaaGreat
open Go.AI
def inter : List Nat → List Rec → List Nat
 | b :: bs, r :: rs => b :: r.root :: inter bs rs
 | _, _ => []
theorem inter_mem {a : Nat} : ∀ {bs : List Nat} {rs : List Rec}, bs.length = rs.length → (a ∈ inter bs rs ↔ a ∈ bs ∨ a ∈ rs.map Rec.root)
 | [], [], _ => by simp [inter]
 | b :: bs, r :: rs, h => by
  have := inter_mem (a := a) (bs := bs) (rs := rs) (by simpa using h)
  simp only [inter, List.mem_cons, List.map_cons, this]
  constructor
  ·rintro (h | h | h | h)
   ·exact .inl (.inl h)
   ·exact .inr (.inl h)
   ·exact .inl (.inr h)
   ·exact .inr (.inr h)
  ·rintro ((h | h) | (h | h))
   ·exact .inl h
   ·exact .inr (.inr (.inl h))
   ·exact .inr (.inl h)
   ·exact .inr (.inr (.inr h))
def cnt0 (n : Nat) : List Nat := ((List.replicate n 0).set 0 1).set 1 1
def pcounts (l : List UInt8) (x : Img) : List Nat := (x.trees.foldl (fun s (w : WS) => w.nodes.foldl (cntNode l) s) ((inter x.blocks x.recs).foldl bump (bump (cnt0 (nb l)) x.sup.root), List.replicate (nb l) false)).1
theorem inter_take {i : Nat} : ∀ {bs : List Nat} {rs : List Rec} (hb : i < bs.length) (hr : i < rs.length), inter (bs.take (i + 1)) (rs.take (i + 1)) = inter (bs.take i) (rs.take i) ++ [bs[i], rs[i].root] := by
 induction i with
 | zero =>
  intro bs rs hb hr
  match bs, rs, hb, hr with
  | b :: bs, r :: rs, _, _ => rfl
 | succ i ih =>
  intro bs rs hb hr
  match bs, rs, hb, hr with
  | b :: bs, r :: rs, hb, hr =>
   have := ih (bs := bs) (rs := rs) (by simpa using hb) (by simpa using hr)
   simp only [List.take_succ_cons, inter, this, List.cons_append, List.getElem_cons_succ]
theorem walkNodes_zs {l : List UInt8} {a n : Nat} {P : Prop} (h0 : a ≠ 0) (ha : a < n) : ∀ (ts : List WS) {s : List Nat × List Bool}, Zs l a n s P → (∀ w ∈ ts, ∀ nd ∈ w.nodes, nd < n) →
  Zs l a n (ts.foldl (fun s (w : WS) => w.nodes.foldl (cntNode l) s) s) P ∧ ∀ j, (ts.foldl (fun s (w : WS) => w.nodes.foldl (cntNode l) s) s).2.getD j default = true ↔ s.2.getD j default = true ∨ ∃ w ∈ ts, j ∈ w.nodes
 | [], s, h, _ => ⟨h, by simp⟩
 | w :: ts, s, h, hl => by
  rw [List.foldl_cons]
  obtain ⟨g1, g2, g3, g4⟩ := cntNodes_zs h0 ha w.nodes h (hl w (List.mem_cons_self ..))
  obtain ⟨k1, k2⟩ := walkNodes_zs h0 ha ts g1 fun q hq => hl q (List.mem_cons_of_mem _ hq)
  refine ⟨k1, fun j => ?_⟩
  rw [k2, ex_cons]
  constructor
  ·rintro (h | h)
   ·rcases g4 j h with h | h
    ·exact .inl h
    ·exact .inr (.inl h)
   ·exact .inr (.inr h)
  ·rintro (h | h | h)
   ·exact .inl (g3 j h)
   ·exact .inl (g2 j h)
   ·exact .inr h
theorem pcounts_len {l : List UInt8} {x : Img} : (pcounts l x).length = nb l := by
 unfold pcounts
 have h1 : ∀ (ls : List Nat) (s : List Nat × List Bool), (ls.foldl (cntNode l) s).1.length = s.1.length := by
  intro ls
  induction ls with
  | nil => exact fun _ => rfl
  | cons a ls ih =>
   intro s
   rw [List.foldl_cons, ih]
   unfold cntNode
   split
   ·rfl
   ·rw [bumps_len]
 have h2 : ∀ (ts : List WS) (s : List Nat × List Bool), (ts.foldl (fun s (w : WS) => w.nodes.foldl (cntNode l) s) s).1.length = s.1.length := by
  intro ts
  induction ts with
  | nil => exact fun _ => rfl
  | cons a ls ih => intro s; rw [List.foldl_cons, ih, h1]
 rw [h2]
 simp only
 rw [bumps_len, bump_len]; simp [cnt0]
theorem pcounts_zero {l : List UInt8} {x : Img} (hd : Dev l) (hx : x.fit l) {a : Nat} (h2 : 2 ≤ a) (ha : a < nb l) : (pcounts l x).getD a default = 0 ↔ ¬ reached l x a := by
 have h0 : a ≠ 0 := by omega
 have hz0 : Zs l a (nb l) ((inter x.blocks x.recs).foldl bump (bump (cnt0 (nb l)) x.sup.root), List.replicate (nb l) false) (a ≠ x.sup.root ∧ a ∉ inter x.blocks x.recs) := by
  refine ⟨by rw [bumps_len, bump_len]; simp [cnt0], by simp, ?_⟩
  rw [bumps_zero h0 _ (by rw [bump_len]; simp [cnt0]; exact ha), bump_zero (by simp [cnt0]; exact ha) h0]
  have hi : (cnt0 (nb l)).getD a default = 0 := by
   unfold cnt0
   rw [getD_set, getD_set, if_neg (by omega), if_neg (by omega)]
   simp only [List.getD_eq_getElem?_getD, List.getElem?_replicate]
   rw [if_pos ha]; rfl
  constructor
  ·rintro ⟨⟨_, h3⟩, h4⟩
   exact ⟨⟨h3, h4⟩, fun nd _ hs => by have := (repF_getD _ _).1 hs; exact this.elim⟩
  ·rintro ⟨⟨h3, h4⟩, _⟩; exact ⟨⟨hi, h3⟩, h4⟩
 have hnodes : ∀ w ∈ x.trees, ∀ nd ∈ w.nodes, nd < nb l := fun w hw nd hnd => ((hx.tree w hw).1.1.2.2 nd hnd).2
 obtain ⟨⟨k1, k2, k3⟩, k4⟩ := walkNodes_zs h0 ha x.trees hz0 hnodes
 unfold pcounts
 rw [k3, inter_mem hx.len]
 constructor
 ·rintro ⟨⟨h1, h3⟩, h4⟩ (h | h | h | ⟨w, hw, nd, hnd, hp⟩)
  ·omega
  ·exact h3 (.inl h)
  ·rcases List.mem_cons.1 h with h | h
   ·exact h1 h
   ·exact h3 (.inr h)
  ·exact h4 nd (hnodes w hw nd hnd) ((k4 nd).2 (.inr ⟨w, hw, hnd⟩)) hp
 ·intro hr
  refine ⟨⟨fun h => hr (.inr (.inr (.inl (by rw [h]; exact List.mem_cons_self ..)))), ?_⟩, fun nd hnd hs hp => hr (.inr (.inr (.inr ?_)))⟩
  ·rintro (h | h)
   ·exact hr (.inr (.inl h))
   ·exact hr (.inr (.inr (.inl (List.mem_cons_of_mem _ h))))
  ·rcases (k4 nd).1 hs with h | ⟨w, hw, hn⟩
   ·exact ((repF_getD _ _).1 h).elim
   ·exact ⟨w, hw, nd, hn, hp⟩
theorem pfree {l : List UInt8} {x : Img} (hd : Dev l) (hx : x.fit l) : freeP (pcounts l x) = freeP (countsP l x) := by
 unfold freeP
 rw [pcounts_len, (countsP_cb hx).1]
 apply List.filter_congr
 intro a ha
 have ha := List.mem_range.1 ha
 unfold isFree
 congr 1
 apply propext
 constructor
 ·rintro ⟨h2, h⟩; exact ⟨h2, (countsP_zero hd hx ha).2 ((pcounts_zero hd hx h2 ha).1 h)⟩
 ·rintro ⟨h2, h⟩; exact ⟨h2, (pcounts_zero hd hx h2 ha).2 ((countsP_zero hd hx ha).1 h)⟩
attribute [local irreducible] aops aexec acall aiter aop W WO
theorem bump_ne {c : List Nat} {p : Nat} (h : p ≠ 0) : bump c p = c.set p (c.getD p default + 1) := by unfold bump; rw [if_neg h]
def CBd (n m : Nat) (c : List Nat) : Prop := c.length = n ∧ ∀ v ∈ c, v ≤ m
theorem CBd.bump {n m : Nat} {c : List Nat} (h : CBd n m c) (p : Nat) : CBd n (m + 1) (bump c p) := ⟨by rw [bump_len]; exact h.1, bump_le h.2⟩
theorem CBd.at {n m p : Nat} {c : List Nat} (h : CBd n m c) (hp : p < n) : c.getD p default ≤ m := by
 refine h.2 _ ?_
 have : p < c.length := by rw [h.1]; exact hp
 simp [this]
theorem rcounts_l0 {k n : Nat} {bl : List Nat} {recs : List Rec} {c : List Nat} {v0 v8 c0 c1 c2 c3 c4 c5 c8 c9 : AV} {T : Tmps} {H : Heap} (hk : 1000000 ≤ k) (hl : recs.length < 900) (hbl : bl.length = recs.length) (hb : ∀ a ∈ bl, 2 ≤ a ∧ a < n) (hr : ∀ r ∈ recs, r.root < n) (hn : n < 100000)
  (h0 : H 0 = ⟨1, false, .row 10 [.agg [c0, c1, c2, c3, c4, c5, .islc false false 8 (recs.map Rec.av), .islc false false 1 (NL bl), c8, c9]]⟩) (h1 : H 1 = ⟨1, false, .row 1 (NL c)⟩) (hc : CBd n 10 c)
  (hT : Has T [(0, v0), (3, .ptr 0 1 1 10 0 0), (5, .int .i64 (n : Nat)), (7, .slc 1 1 n 1 0 n none), (8, v8), (9, .int .i64 0)]) :
  W (aexec (CF k) noX 0 k (.loop ref10_Counts_l0) T H) (fun ex T' H' => ex = .exit 0 ∧ (∀ j, j ≠ 1 → H' j = H j) ∧ H' 1 = ⟨1, false, .row 1 (NL ((inter bl recs).foldl bump c))⟩ ∧ CBd n 10000 ((inter bl recs).foldl bump c) ∧ Has T' [(0, v0), (3, .ptr 0 1 1 10 0 0), (5, .int .i64 (n : Nat)), (7, .slc 1 1 n 1 0 n none), (8, v8)]) := by
 refine w_for recs.length (fun i T' H' => (∀ j, j ≠ 1 → H' j = H j) ∧ H' 1 = ⟨1, false, .row 1 (NL ((inter (bl.take i) (recs.take i)).foldl bump c))⟩ ∧ CBd n (10 + 2 * i) ((inter (bl.take i) (recs.take i)).foldl bump c) ∧ Has T' [(0, v0), (3, .ptr 0 1 1 10 0 0), (5, .int .i64 (n : Nat)), (7, .slc 1 1 n 1 0 n none), (8, v8), (9, .int .i64 (i : Nat))]) ⟨fun _ _ => rfl, h1, hc, hT⟩ (by omega) ?_
 rintro i T H2 hi ⟨hfr, g1, hcb, hT⟩
 have g0 := hfr 0 (by omega)
 rw [h0] at g0
 have hrl : (recs.map Rec.av).length = recs.length := List.length_map _
 rw [hT.eq]
 simp only [over]
 unfold ref10_Counts_l0
 by_cases hil : i < recs.length
 ·obtain ⟨⟨b1, b2, b3, b4, b5, b6, b7, b8⟩, hrr⟩ : ∃ r, r = recs[i] := ⟨_, rfl⟩
  have he2 : (recs.map Rec.av)[(i : Int).toNat]? = some (.agg [.int .i64 b1, .int .i64 b2, .int .i64 b3, .int .i64 b4, .int .i64 b5, .int .i64 b6, .int .i64 b7, .int .i64 b8]) := by
   rw [Int.toNat_natCast, List.getElem?_map, List.getElem?_eq_getElem hil, ← hrr]; rfl
  have hil2 : i < bl.length := by omega
  obtain ⟨p, hp⟩ : ∃ p, p = bl[i] := ⟨_, rfl⟩
  have hp2 : bl.getD (i : Int).toNat default = p := by rw [Int.toNat_natCast, hp]; simp [hil2]
  have hpn := hb p (by rw [hp]; exact List.getElem_mem hil2)
  have hrn : b4 < n := by have := hr recs[i] (List.getElem_mem hil); rw [← hrr] at this; exact this
  rw [inter_take hil2 hil, ← hp, ← hrr, List.foldl_append]
  simp only [List.foldl_cons, List.foldl_nil]
  generalize (inter (bl.take i) (recs.take i)).foldl bump c = c' at *
  have hcl := hcb.1
  have hp0 : p ≠ 0 := by omega
  have hcb1 := hcb.bump p
  have hcb2 := hcb1.bump b4
  obtain ⟨v, hv⟩ : ∃ v, c'.getD p default = v := ⟨_, rfl⟩
  have hvm := hcb.at hpn.2
  rw [hv] at hvm
  have hv' : c'.getD (0 + (p : Int).toNat) default = v := by rw [show 0 + (p : Int).toNat = p by omega]; exact hv
  have hb1 : bump c' p = c'.set p (v + 1) := by rw [bump_ne hp0, hv]
  rw [hb1] at hcb1 hcb2 ⊢
  have hset : ∀ H : Heap, H.upd 1 ⟨1, false, .row 1 ((c'.set (0 + (p : Int).toNat) (v + 1)).map nav)⟩ = H.upd 1 ⟨1, false, .row 1 (NL (c'.set p (v + 1)))⟩ := fun H => by rw [show 0 + (p : Int).toNat = p by omega]; rfl
  have hcl1 : (c'.set p (v + 1)).length = n := by simp [hcl]
  repeat' (first
   | refine qS ?_ | refine wo_lenG (n := recs.length) rfl hrl rfl rfl ?_ | refine q_loadR ?_ (hr := by exact g0)
   | refine wo_atV (enc := nav) (l := bl) p rfl rfl (by omega) (by omega) hp2 rfl rfl ?_
   | refine wo_atR rfl rfl (by exact g1) (by rw [NL_len]; exact hcl) (by omega) (by omega) (by omega) rfl rfl ?_
   | refine q_loadM (enc := nav) (l := c') ?_ (hr := by exact g1) (hv0 := by exact hcl) (hv := by exact congrArg nav hv')
   | refine q_storeM (enc := nav) (l := c') (a := v + 1) ?_ (hr := by exact g1) (hv0 := by exact hcl) | refine qQba ?_ | refine q_cmp2 (fun _ => ?_) (fun _ => ?_))
  rw [hset]
  generalize hH3 : H2.upd 1 _ = H3
  have k1 : H3 1 = ⟨1, false, .row 1 (NL (c'.set p (v + 1)))⟩ := by rw [← hH3]; rfl
  have kfr : ∀ j, j ≠ 1 → H3 j = H j := fun j hj => by rw [← hH3, upd_ne _ _ hj]; exact hfr j hj
  have k0 : H3 0 = _ := (kfr 0 (by omega)).trans h0
  refine wo_cutT [(0, v0), (3, .ptr 0 1 1 10 0 0), (5, .int .i64 (n : Nat)), (7, .slc 1 1 n 1 0 n none), (8, v8), (9, .int .i64 (i : Nat)), (64, .islc false false 8 (recs.map Rec.av)), (65, .int .i64 (i : Nat))] ⟨by kernel_rfl, by kernel_rfl, by kernel_rfl, by kernel_rfl, by kernel_rfl, by kernel_rfl, by kernel_rfl, by kernel_rfl, trivial⟩ (fun T hT => ?_)
  simp only [over]
  clear hT
  by_cases hb40 : b4 = 0
  ·subst hb40
   have hb00 : bump (c'.set p (v + 1)) 0 = c'.set p (v + 1) := rfl
   rw [hb00] at hcb2 ⊢
   have hz0 : ((0 : Nat) : Int) = 0 := rfl
   repeat' (first | refine qS ?_ | refine wo_atG rfl rfl (by omega) he2 rfl rfl ?_ | refine q_faddrI ?_ | refine qQb ?_ | refine q_cmp2 (fun _ => ?_) (fun _ => ?_))
   exact ⟨hil, kfr, k1, ⟨hcb2.1, fun v hv => by have := hcb2.2 v hv; omega⟩, rfl, rfl, rfl, rfl, rfl, by show AV.int _ _ = AV.int _ _; congr 1, trivial⟩
  ·have hz0 : (b4 : Int) ≠ 0 := by omega
   obtain ⟨u, hu⟩ : ∃ u, (c'.set p (v + 1)).getD b4 default = u := ⟨_, rfl⟩
   have hum := hcb1.at hrn
   rw [hu] at hum
   have hu' : (c'.set p (v + 1)).getD (0 + (b4 : Int).toNat) default = u := by rw [show 0 + (b4 : Int).toNat = b4 by omega]; exact hu
   have hb2 : bump (c'.set p (v + 1)) b4 = (c'.set p (v + 1)).set b4 (u + 1) := by rw [bump_ne hb40, hu]
   rw [hb2] at hcb2 ⊢
   repeat' (first
    | refine qS ?_ | refine wo_atG rfl rfl (by omega) he2 rfl rfl ?_ | refine q_faddrI ?_
    | refine wo_atR rfl rfl (by exact k1) (by rw [NL_len]; exact hcl1) (by omega) (by omega) (by omega) rfl rfl ?_
    | refine q_loadM (enc := nav) (l := c'.set p (v + 1)) ?_ (hr := by exact k1) (hv0 := by exact hcl1) (hv := by exact congrArg nav hu')
    | refine q_storeM (enc := nav) (l := c'.set p (v + 1)) (a := u + 1) ?_ (hr := by exact k1) (hv0 := by exact hcl1) | refine qQb ?_ | refine q_cmp2 (fun _ => ?_) (fun _ => ?_))
   refine ⟨hil, (fun j hj => by rw [upd_ne _ _ hj]; exact kfr j hj), ?_, ⟨hcb2.1, fun v hv => by have := hcb2.2 v hv; omega⟩, rfl, rfl, rfl, rfl, rfl, by show AV.int _ _ = AV.int _ _; congr 1, trivial⟩
   show (⟨1, false, .row 1 (((c'.set p (v + 1)).set (0 + (b4 : Int).toNat) (u + 1)).map nav)⟩ : Blk) = _
   rw [show 0 + (b4 : Int).toNat = b4 by omega]; rfl
 ·have hin : i = recs.length := by omega
  subst hin
  rw [List.take_length, ← hbl, List.take_length] at g1 hcb
  repeat' (first | refine qS ?_ | refine wo_lenG (n := recs.length) rfl hrl rfl rfl ?_ | refine q_loadR ?_ (hr := by exact g0) | refine qQb ?_ | refine q_cmp2 (fun _ => ?_) (fun _ => ?_))
  exact ⟨rfl, hfr, g1, ⟨hcb.1, fun v hv => by have := hcb.2 v hv; omega⟩, rfl, rfl, rfl, rfl, rfl, trivial⟩
theorem rcounts_l1 {k n m g3 : Nat} {ps : List Nat} {lv : AV} {c : List Nat} {v0 v3 v5 v8 v11 v12 : AV} {T : Tmps} {H : Heap} (hk : 1000000 ≤ k) (hpl : ps.length = 8) (hp : ∀ p ∈ ps, p < n) (hn : n < 100000) (hm : m < 1000000)
  (h1 : H 1 = ⟨1, false, .row 1 (NL c)⟩) (h3 : H 3 = ⟨g3, false, .row 9 [.agg (lv :: ps.map fun n : Nat => AV.int .i64 n)]⟩) (hc : CBd n m c)
  (hT : Has T [(0, v0), (3, v3), (5, v5), (7, .slc 1 1 n 1 0 n none), (8, v8), (11, v11), (12, v12), (14, .ptr 3 g3 1 9 0 0), (16, .int .i64 0)]) :
  W (aexec (CF k) noX 0 k (.loop ref10_Counts_l1) T H) (fun ex T' H' => ex = .exit 6 ∧ (∀ j, j ≠ 1 → H' j = H j) ∧ H' 1 = ⟨1, false, .row 1 (NL (ps.foldl bump c))⟩ ∧ CBd n (m + 8) (ps.foldl bump c) ∧ Has T' [(0, v0), (3, v3), (5, v5), (7, .slc 1 1 n 1 0 n none), (8, v8), (11, v11), (12, v12)]) := by
 refine w_for 8 (fun i T' H' => (∀ j, j ≠ 1 → H' j = H j) ∧ H' 1 = ⟨1, false, .row 1 (NL ((ps.take i).foldl bump c))⟩ ∧ CBd n (m + i) ((ps.take i).foldl bump c) ∧ Has T' [(0, v0), (3, v3), (5, v5), (7, .slc 1 1 n 1 0 n none), (8, v8), (11, v11), (12, v12), (14, .ptr 3 g3 1 9 0 0), (16, .int .i64 (i : Nat))]) ⟨fun _ _ => rfl, h1, hc, hT⟩ (by omega) ?_
 rintro i T H2 hi ⟨hfr, g1, hcb, hT⟩
 have g3' := hfr 3 (by omega)
 rw [h3] at g3'
 rw [hT.eq]
 simp only [over]
 unfold ref10_Counts_l1
 by_cases hil : i < 8
 ·obtain ⟨p, hpp⟩ : ∃ p, ps.getD i default = p := ⟨_, rfl⟩
  have hpn : p < n := by rw [← hpp]; exact hp _ (by simp [hpl, hil])
  rw [foldl_succ _ _ (by omega), hpp]
  generalize (ps.take i).foldl bump c = c' at *
  have hcl := hcb.1
  have hcb1 := hcb.bump p
  by_cases hp0 : p = 0
  ·rw [hp0] at hpp hcb1 ⊢
   have hb0 : bump c' 0 = c' := rfl
   rw [hb0] at hcb1 ⊢
   have hz : ((0 : Nat) : Int) = 0 := rfl
   repeat' (first
    | refine qS ?_ | refine wo_iaddrA rfl rfl (by omega) (by omega) rfl rfl ?_ | refine wo_loadNL (ps := ps) (i := i) rfl (by omega) (by omega) (by exact g3') rfl rfl ?_ | (rw [hpp])
    | refine qQb ?_ | refine q_cmp2 (fun _ => ?_) (fun _ => ?_))
   exact ⟨hil, hfr, g1, ⟨hcb1.1, fun v hv => by have := hcb1.2 v hv; omega⟩, rfl, rfl, rfl, rfl, rfl, rfl, rfl, rfl, by show AV.int _ _ = AV.int _ _; congr 1, trivial⟩
  ·have hz : (p : Int) ≠ 0 := by omega
   obtain ⟨v, hv⟩ : ∃ v, c'.getD p default = v := ⟨_, rfl⟩
   have hvm := hcb.at hpn
   rw [hv] at hvm
   have hv' : c'.getD (0 + (p : Int).toNat) default = v := by rw [show 0 + (p : Int).toNat = p by omega]; exact hv
   have hb1 : bump c' p = c'.set p (v + 1) := by rw [bump_ne hp0, hv]
   rw [hb1] at hcb1 ⊢
   repeat' (first
    | refine qS ?_ | refine wo_iaddrA rfl rfl (by omega) (by omega) rfl rfl ?_ | refine wo_loadNL (ps := ps) (i := i) rfl (by omega) (by omega) (by exact g3') rfl rfl ?_ | (rw [hpp])
    | refine wo_atR rfl rfl (by exact g1) (by rw [NL_len]; exact hcl) (by omega) (by omega) (by omega) rfl rfl ?_
    | refine q_loadM (enc := nav) (l := c') ?_ (hr := by exact g1) (hv0 := by exact hcl) (hv := by exact congrArg nav hv')
    | refine q_storeM (enc := nav) (l := c') (a := v + 1) ?_ (hr := by exact g1) (hv0 := by exact hcl) | refine qQb ?_ | refine q_cmp2 (fun _ => ?_) (fun _ => ?_))
   refine ⟨hil, (fun j hj => by rw [upd_ne _ _ hj]; exact hfr j hj), ?_, ⟨hcb1.1, fun v hv => by have := hcb1.2 v hv; omega⟩, rfl, rfl, rfl, rfl, rfl, rfl, rfl, rfl, by show AV.int _ _ = AV.int _ _; congr 1, trivial⟩
   show (⟨1, false, .row 1 ((c'.set (0 + (p : Int).toNat) (v + 1)).map nav)⟩ : Blk) = _
   rw [show 0 + (p : Int).toNat = p by omega]; rfl
 ·have hi8 : i = 8 := by omega
  subst hi8
  rw [List.take_of_length_le (by omega)] at g1 hcb
  repeat' (first | refine qQb ?_ | refine q_cmp2 (fun _ => ?_) (fun _ => ?_))
  exact ⟨rfl, hfr, g1, hcb, rfl, rfl, rfl, rfl, rfl, rfl, rfl, trivial⟩
theorem rcounts_l2 {k n m ix : Nat} {f : Bool} {l : List UInt8} {nl : List Nat} {t' f' : Bool} {s' : Nat} {es9 : List AV} {s0 : List Nat × List Bool} {c0 c1 c2 c3 c4 c5 c6 c7 c8 : AV} {T : Tmps} {H : Heap} (hk : 1000200 ≤ k) (hd : Dev l) (hnb : n = nb l) (hl : nl.length < 1000) (hb : ∀ a ∈ nl, 2 ≤ a ∧ a < n) (hpt : ∀ a ∈ nl, ptrsOk l a) (hm : m < 900000) (hix : ix < 1000)
  (hs : s' = 1 ∨ nl = []) (he : es9[ix]? = some (.islc t' f' s' (NL nl)))
  (h0 : H 0 = ⟨1, false, .row 10 [.agg [c0, c1, c2, c3, c4, c5, c6, c7, c8, .islc false false 1 es9]]⟩) (h1 : H 1 = ⟨1, false, .row 1 (NL s0.1)⟩) (h2 : H 2 = ⟨1, false, .row 1 (s0.2.map AV.bool)⟩) (hc : CBd n m s0.1) (hs2 : s0.2.length = n)
  (hT : Has T [(0, .islc false f 1 (BL l)), (3, .ptr 0 1 1 10 0 0), (5, .int .i64 (n : Nat)), (7, .slc 1 1 n 1 0 n none), (8, .slc 2 1 n 1 0 n none), (11, .int .i64 (ix : Nat)), (12, .int .i64 0)]) :
  W (aexec (CF k) noX 0 k (.loop ref10_Counts_l2) T H) (fun ex T' H' => ex = .exit 4 ∧ H' 0 = H 0 ∧ H' 1 = ⟨1, false, .row 1 (NL (nl.foldl (cntNode l) s0).1)⟩ ∧ H' 2 = ⟨1, false, .row 1 ((nl.foldl (cntNode l) s0).2.map AV.bool)⟩ ∧ CBd n (m + 8 * nl.length) (nl.foldl (cntNode l) s0).1 ∧ (nl.foldl (cntNode l) s0).2.length = n ∧ Has T' [(0, .islc false f 1 (BL l)), (3, .ptr 0 1 1 10 0 0), (5, .int .i64 (n : Nat)), (7, .slc 1 1 n 1 0 n none), (8, .slc 2 1 n 1 0 n none), (11, .int .i64 (ix : Nat))]) := by
 subst hnb
 have hn := hd.nb
 have he' : es9[(ix : Int).toNat]? = some (.islc t' f' s' (NL nl)) := by rw [Int.toNat_natCast]; exact he
 have hil9 : ix < es9.length := (List.getElem?_eq_some_iff.1 he).1
 refine w_for nl.length (fun i T' H' => H' 0 = H 0 ∧ H' 1 = ⟨1, false, .row 1 (NL ((nl.take i).foldl (cntNode l) s0).1)⟩ ∧ H' 2 = ⟨1, false, .row 1 (((nl.take i).foldl (cntNode l) s0).2.map AV.bool)⟩ ∧ CBd (nb l) (m + 8 * i) ((nl.take i).foldl (cntNode l) s0).1 ∧ ((nl.take i).foldl (cntNode l) s0).2.length = nb l ∧ Has T' [(0, .islc false f 1 (BL l)), (3, .ptr 0 1 1 10 0 0), (5, .int .i64 (nb l : Nat)), (7, .slc 1 1 (nb l) 1 0 (nb l) none), (8, .slc 2 1 (nb l) 1 0 (nb l) none), (11, .int .i64 (ix : Nat)), (12, .int .i64 (i : Nat))]) ⟨rfl, h1, h2, hc, hs2, hT⟩ (by omega) ?_
 rintro i T H2 hi ⟨g0, g1, g2, hcb, hml, hT⟩
 rw [h0] at g0
 rw [hT.eq]
 simp only [over]
 unfold ref10_Counts_l2
 by_cases hil : i < nl.length
 ·obtain rfl : s' = 1 := hs.resolve_right (fun h => by rw [h] at hil; simp at hil)
  obtain ⟨p, hp⟩ : ∃ p, p = nl.getD i default := ⟨_, rfl⟩
  have hp2 : nl.getD (i : Int).toNat default = p := by rw [Int.toNat_natCast]; exact hp.symm
  have hmem : p ∈ nl := by rw [hp]; simp [hil]
  have hpn := hb p hmem
  rw [foldl_succ _ _ hil, ← hp]
  obtain ⟨s, hs'⟩ : ∃ s, s = (nl.take i).foldl (cntNode l) s0 := ⟨_, rfl⟩
  rw [← hs'] at g1 g2 hcb hml ⊢
  clear hs'
  obtain ⟨c, mt⟩ := s
  simp only at g1 g2 hcb hml
  have hix0 : 0 + (p : Int).toNat = p := by omega
  unfold cntNode
  simp only
  repeat' (first
   | refine qS ?_ | refine q_loadR ?_ (hr := by exact g0) | refine wo_atG rfl rfl (by omega) he' rfl rfl ?_ | refine wo_lenG (n := nl.length) rfl (NL_len _) rfl rfl ?_
   | refine wo_atV (enc := nav) (l := nl) p rfl rfl (by omega) (by omega) hp2 rfl rfl ?_
   | refine wo_atR rfl rfl (by exact g2) (by rw [List.length_map]; exact hml) (by omega) (by omega) (by omega) rfl rfl ?_ | refine qQba ?_ | refine q_cmp2 (fun _ => ?_) (fun _ => ?_))
  cases hx : mt.getD p default with
  | true =>
   have hx' : mt.getD (0 + (p : Int).toNat) default = true := by rw [hix0]; exact hx
   rw [if_pos rfl]
   repeat' (first | refine qS ?_ | refine q_loadM (enc := AV.bool) (l := mt) ?_ (hr := by exact g2) (hv0 := by exact hml) (hv := by exact congrArg AV.bool hx') | refine qQb ?_ | refine q_cmp2 (fun _ => ?_) (fun _ => ?_))
   exact ⟨hil, by rw [g0, h0], g1, g2, ⟨hcb.1, fun v hv => by have := hcb.2 v hv; omega⟩, hml, rfl, rfl, rfl, rfl, rfl, rfl, by show AV.int _ _ = AV.int _ _; congr 1, trivial⟩
  | false =>
   have hx' : mt.getD (0 + (p : Int).toNat) default = false := by rw [hix0]; exact hx
   rw [if_neg (by decide)]
   have hof := r_Block k (by omega) false f l p hd.1 (hd.le hpn.2)
   have hpr := r_ParseNode k (by omega) false (f && decide (64 * (p + 1) = l.length)) (blk l p) (by rw [blk_len (hd.le hpn.2)]; omega)
   have hpl := parseNod_len (blk l p)
   have hpo := hpt p hmem
   unfold ptrsOk at hpo
   obtain ⟨x, hxx⟩ : ∃ x, x = parseNod (blk l p) := ⟨_, rfl⟩
   rw [← hxx] at hpr hpl hpo ⊢
   obtain ⟨⟨lv, ps⟩, e⟩ := x
   clear hxx
   simp only at hpl hpr hpo ⊢
   have hav9 : Nod.av ⟨lv, ps⟩ = .agg (.int .i64 lv :: ps.map fun n : Nat => AV.int .i64 n) := rfl
   have hcl9 : ((AV.int .i64 lv :: ps.map fun n : Nat => AV.int .i64 n) : List AV).length = 9 := by simp [hpl]
   rw [hav9] at hpr
   have hst9 : (AV.agg (.int .i64 lv :: ps.map fun n : Nat => AV.int .i64 n)).cells = (.int .i64 lv :: ps.map fun n : Nat => AV.int .i64 n) := rfl
   have hnsto : storable (.agg (.int .i64 lv :: ps.map fun n : Nat => AV.int .i64 n)) = true := by
    match ps, hpl with
    | [a1, a2, a3, a4, a5, a6, a7, a8], _ => rfl
   obtain ⟨gg, hgg⟩ : ∃ g, g = (H2 3).gen + 1 := ⟨_, rfl⟩
   repeat' (first
    | refine qS ?_ | refine q_loadM (enc := AV.bool) (l := mt) ?_ (hr := by exact g2) (hv0 := by exact hml) (hv := by exact congrArg AV.bool hx')
    | refine wo_atR rfl rfl (by exact g2) (by rw [List.length_map]; exact hml) (by omega) (by omega) (by omega) rfl rfl ?_
    | refine q_storeM (enc := AV.bool) (l := mt) (a := true) ?_ (hr := by exact g2) (hv0 := by exact hml) | refine wo_inl (hof _ _) rfl rfl rfl ?_
    | refine wo_storeR (by rfl) (by rfl) (by rfl) (by rfl) (by rfl) hnsto hst9 hcl9 (by exact Nat.le_of_ble_eq_true rfl) rfl (by kernel_rfl) ?_
    | refine q_callB (hpr) (fun _ => ?_) (fun _ => ?_) | refine q_call (hpr) ?_ | refine qQb ?_ | refine q_cmp2 (fun _ => ?_) (fun _ => ?_))
   refine w_cut [(0, .islc false f 1 (BL l)), (3, .ptr 0 1 1 10 0 0), (5, .int .i64 (nb l : Nat)), (7, .slc 1 1 (nb l) 1 0 (nb l) none), (8, .slc 2 1 (nb l) 1 0 (nb l) none), (11, .int .i64 (ix : Nat)), (12, .int .i64 (i : Nat)), (14, .ptr 3 ((H2 3).gen + 1) 1 9 0 0), (16, .int .i64 0)] [(0, H2 0), (1, H2 1), (2, ⟨1, false, .row 1 ((mt.set (0 + (p : Int).toNat) true).map AV.bool)⟩), (3, ⟨(H2 3).gen + 1, false, .row 9 [.agg (([] ++ (.int .i64 lv :: ps.map fun n : Nat => AV.int .i64 n)) ++ [])]⟩)] ⟨rfl, rfl, rfl, rfl, rfl, rfl, rfl, rfl, rfl, trivial⟩ (by exact ⟨rfl, rfl, rfl, rfl, trivial⟩) (fun T3 H3 hT3 hH3 => ?_)
   obtain ⟨k0, k1, k2, k3, -⟩ := hH3
   rw [List.nil_append, List.append_nil] at k3
   rw [hix0] at k2
   rw [g0] at k0
   rw [g1] at k1
   refine W.mono (rcounts_l1 (k := k) (n := nb l) (m := m + 8 * i) (ps := ps) (lv := .int .i64 lv) (c := c) (v0 := .islc false f 1 (BL l)) (v3 := .ptr 0 1 1 10 0 0) (v5 := .int .i64 (nb l : Nat)) (v8 := .slc 2 1 (nb l) 1 0 (nb l) none) (v11 := .int .i64 (ix : Nat)) (v12 := .int .i64 (i : Nat)) (by omega) hpl hpo (by omega) (by omega) k1 k3 hcb ⟨rfl, rfl, rfl, rfl, rfl, rfl, rfl, rfl, rfl, trivial⟩) ?_
   rintro ex T4 H4 ⟨rfl, hfr4, q1, hcb4, hT4⟩
   rw [hT4.eq]
   simp only [over]
   show W _ _
   repeat' (first | refine qQb ?_ | refine q_cmp2 (fun _ => ?_) (fun _ => ?_))
   exact ⟨hil, by rw [hfr4 0 (by omega), k0, h0], q1, (hfr4 2 (by omega)).trans k2, ⟨hcb4.1, fun v hv => by have := hcb4.2 v hv; omega⟩, by simp [hml], rfl, rfl, rfl, rfl, rfl, rfl, by show AV.int _ _ = AV.int _ _; congr 1, trivial⟩
 ·have hin : i = nl.length := by omega
  subst hin
  rw [List.take_length] at g1 g2 hcb hml
  repeat' (first
   | refine qS ?_ | refine q_loadR ?_ (hr := by exact g0) | refine wo_atG rfl rfl (by omega) he' rfl rfl ?_ | refine wo_lenG (n := nl.length) rfl (NL_len _) rfl rfl ?_ | refine qQba ?_
   | refine q_cmp2 (fun _ => ?_) (fun _ => ?_))
  exact ⟨rfl, by rw [g0, h0], g1, g2, hcb, hml, rfl, rfl, rfl, rfl, rfl, rfl, trivial⟩
def nodesN (l : List UInt8) (s : List Nat × List Bool) (w : WS) : List Nat × List Bool := w.nodes.foldl (cntNode l) s
theorem rcounts_l3 {k m : Nat} {f : Bool} {l : List UInt8} {ts : List WS} {s0 : List Nat × List Bool} {c0 c1 c2 c3 c4 c5 c6 c7 c8 : AV} {T : Tmps} {H : Heap} (hk : 1000200 ≤ k) (hd : Dev l) (hl : ts.length < 100) (ht : ∀ w ∈ ts, w.good l) (hm : m < 20000)
  (h0 : H 0 = ⟨1, false, .row 10 [.agg [c0, c1, c2, c3, c4, c5, c6, c7, c8, .islc false false 1 (ts.map nIv)]]⟩) (h1 : H 1 = ⟨1, false, .row 1 (NL s0.1)⟩) (h2 : H 2 = ⟨1, false, .row 1 (s0.2.map AV.bool)⟩) (hc : CBd (nb l) m s0.1) (hs2 : s0.2.length = nb l)
  (hT : Has T [(0, .islc false f 1 (BL l)), (3, .ptr 0 1 1 10 0 0), (5, .int .i64 (nb l : Nat)), (7, .slc 1 1 (nb l) 1 0 (nb l) none), (8, .slc 2 1 (nb l) 1 0 (nb l) none), (11, .int .i64 0)]) :
  W (aexec (CF k) noX 0 k (.loop ref10_Counts_l3) T H) (fun ex T' H' => ex = .exit 2 ∧ H' 1 = ⟨1, false, .row 1 (NL (ts.foldl (nodesN l) s0).1)⟩ ∧ CBd (nb l) 1000000 (ts.foldl (nodesN l) s0).1 ∧ T' 7 = .slc 1 1 (nb l) 1 0 (nb l) none) := by
 have hrl : (ts.map nIv).length = ts.length := List.length_map _
 refine w_for ts.length (fun i T' H' => H' 0 = H 0 ∧ H' 1 = ⟨1, false, .row 1 (NL ((ts.take i).foldl (nodesN l) s0).1)⟩ ∧ H' 2 = ⟨1, false, .row 1 (((ts.take i).foldl (nodesN l) s0).2.map AV.bool)⟩ ∧ CBd (nb l) (m + 8000 * i) ((ts.take i).foldl (nodesN l) s0).1 ∧ ((ts.take i).foldl (nodesN l) s0).2.length = nb l ∧ Has T' [(0, .islc false f 1 (BL l)), (3, .ptr 0 1 1 10 0 0), (5, .int .i64 (nb l : Nat)), (7, .slc 1 1 (nb l) 1 0 (nb l) none), (8, .slc 2 1 (nb l) 1 0 (nb l) none), (11, .int .i64 (i : Nat))]) ⟨rfl, h1, h2, hc, hs2, hT⟩ (by omega) ?_
 rintro i T H2 hi ⟨g0, g1, g2, hcb, hml, hT⟩
 have g0' := g0.trans h0
 rw [hT.eq]
 simp only [over]
 unfold ref10_Counts_l3
 by_cases hil : i < ts.length
 ·obtain ⟨w, hw⟩ : ∃ w, w = ts[i] := ⟨_, rfl⟩
  have hwg := ht w (by rw [hw]; exact List.getElem_mem hil)
  have hst : (ts.take (i + 1)).foldl (nodesN l) s0 = nodesN l ((ts.take i).foldl (nodesN l) s0) w := by
   rw [List.take_succ_eq_append_getElem hil, List.foldl_append, ← hw]; rfl
  rw [hst]
  generalize (ts.take i).foldl (nodesN l) s0 = s at *
  obtain ⟨t', f', s', hni, hs'⟩ := nodesIv_islc false w.nodes
  have he9 : (ts.map nIv)[i]? = some (.islc t' f' s' (NL w.nodes)) := by rw [List.getElem?_map, List.getElem?_eq_getElem hil, ← hw]; exact congrArg some hni
  repeat' (first | refine qS ?_ | refine q_loadR ?_ (hr := by exact g0') | refine wo_lenG (n := ts.length) rfl hrl rfl rfl ?_ | refine qQb ?_ | refine q_cmp2 (fun _ => ?_) (fun _ => ?_))
  refine W.mono (rcounts_l2 (k := k) (n := nb l) (m := m + 8000 * i) (ix := i) (f := f) (l := l) (nl := w.nodes) (s0 := s) (by omega) hd rfl hwg.1.2 (fun a ha => hwg.1.1.2.2 a ha) hwg.2 (by omega) (by omega) hs' he9 g0' g1 g2 hcb hml ⟨rfl, rfl, rfl, rfl, rfl, rfl, rfl, trivial⟩) ?_
  rintro ex T3 H3 ⟨rfl, k0, k1, k2, kc, kl, hT3⟩
  rw [hT3.eq]
  simp only [over]
  show W _ _
  repeat' (first | refine qQb ?_ | refine q_cmp2 (fun _ => ?_) (fun _ => ?_))
  have hwl := hwg.1.2
  exact ⟨hil, k0.trans g0, k1, k2, ⟨kc.1, fun v hv => by have := kc.2 v hv; omega⟩, kl, rfl, rfl, rfl, rfl, rfl, by show AV.int _ _ = AV.int _ _; congr 1, trivial⟩
 ·have hin : i = ts.length := by omega
  subst hin
  rw [List.take_length] at g1 hcb
  repeat' (first | refine qS ?_ | refine q_loadR ?_ (hr := by exact g0') | refine wo_lenG (n := ts.length) rfl hrl rfl rfl ?_ | refine qQb ?_ | refine q_cmp2 (fun _ => ?_) (fun _ => ?_))
  exact ⟨rfl, g1, ⟨hcb.1, fun v hv => by have := hcb.2 v hv; omega⟩, rfl⟩
theorem r_Counts (k : Nat) (hk : 1000400 ≤ k) (f : Bool) (l : List UInt8) (hd : Dev l) (x : Img) (hx : x.fit l) : FnV (CF k) n_ref10_Counts [.islc false f 1 (BL l), .agg x.rcs] (.islc false false 1 (NL (pcounts l x))) ∧ ∀ v ∈ pcounts l x, v ≤ 1000000 := by
 have hbk := r_BlocksD (k - 1) (by omega) false f l hd
 have hn := hd.nb
 have er : NL (List.replicate (nb l) 0) = List.replicate (nb l) (.int .i64 (0 : Nat)) := by simp only [NL, List.map_replicate]
 have eb : (List.replicate (nb l) false).map AV.bool = List.replicate (nb l) (.bool false) := List.map_replicate
 have hroot : x.sup.root < nb l := hx.roots _ (List.mem_cons_self ..)
 have hrr : ∀ r ∈ x.recs, r.root < nb l := fun r hr => hx.roots _ (List.mem_cons_of_mem _ (List.mem_map.2 ⟨r, hr, rfl⟩))
 have hfew := hx.few
 have htl := hx.trees
 have hc0 : CBd (nb l) 1 (cnt0 (nb l)) := ⟨by simp [cnt0], fun v hv => by
  unfold cnt0 at hv
  rcases List.mem_or_eq_of_mem_set hv with hv | rfl
  ·rcases List.mem_or_eq_of_mem_set hv with hv | rfl
   ·rw [List.eq_of_mem_replicate hv]; omega
   ·omega
  ·omega⟩
 have hc1 := hc0.bump x.sup.root
 have key : ∃ u H, CF k n_ref10_Counts 0 [.islc false f 1 (BL l), .agg x.rcs] Heap.none = some (u, H) ∧ (fz true deep H u = .islc false false 1 (NL (pcounts l x)) ∧ ∀ v ∈ pcounts l x, v ≤ 1000000) := by
  refine fni (by omega) B_ref10_Counts rfl ?_
  unfold ref10_Counts
  unfold Img.rcs
  have hcr : (cnt0 (nb l)).getD x.sup.root default ≤ 1 := hc0.at hroot
  obtain ⟨v, hv⟩ : ∃ v, (cnt0 (nb l)).getD x.sup.root default = v := ⟨_, rfl⟩
  rw [hv] at hcr
  have hcl : (cnt0 (nb l)).length = nb l := hc0.1
  obtain ⟨rt, hrt⟩ : ∃ r, r = x.sup.root := ⟨_, rfl⟩
  rw [← hrt] at hroot hv hc1 ⊢
  repeat' (first | refine qS ?_ | refine wo_mksG (nb l) rfl rfl rfl (by omega) rfl rfl rfl ?_ | refine q_callB (hbk) (fun _ => ?_) (fun _ => ?_) | refine q_call (hbk) ?_ | refine qQba ?_ | refine q_cmp2 (fun _ => ?_) (fun _ => ?_))
  refine wo_cut [(0, .islc false f 1 (BL l)), (3, .ptr 0 1 1 10 0 0), (5, .int .i64 (nb l : Nat)), (7, .slc 1 1 (nb l) 1 0 (nb l) none), (24, .slc 1 1 (nb l) 1 0 (nb l) none), (25, .slc 1 1 (nb l) 1 0 (nb l) none)] [(0, ⟨1, false, .row 10 [.agg [.int .i64 x.sup.gen, .int .i64 x.sup.blocks, .int .i64 rt, .int .i64 x.sup.size, .int .i64 x.sup.first, .int .i64 x.slot, .islc false false 8 (x.recs.map Rec.av), .islc false false 1 (NL x.blocks), .islc false false 1 (x.trees.map mIv), .islc false false 1 (x.trees.map nIv)]]⟩), (1, ⟨1, false, .row 1 (List.replicate (nb l) (.int .i64 (0 : Nat)))⟩), (2, ⟨0, false, .dead⟩)] (by exact ⟨rfl, rfl, rfl, rfl, rfl, rfl, trivial⟩) (by exact ⟨rfl, rfl, rfl, trivial⟩) (fun T H hT hH => ?_)
  obtain ⟨k0, k1, k2, -⟩ := hH
  rw [← er] at k1
  simp only [over]
  clear hT
  have hl1 : (List.replicate (nb l) 0).length = nb l := by simp
  have hl2 : ((List.replicate (nb l) 0).set (0 + (0 : Int).toNat) 1).length = nb l := by simp
  repeat' (first
   | refine qS ?_ | refine wo_atR rfl rfl (by exact k1) (by rw [NL_len]; simp) (by omega) (by omega) (by omega) rfl rfl ?_
   | refine q_storeM (enc := nav) (l := List.replicate (nb l) 0) (a := 1) ?_ (hr := by exact k1) (hv0 := by exact hl1)
   | refine wo_atR (v := nb l) rfl rfl (by rfl) (by simp) (by omega) (by omega) (by omega) rfl rfl ?_
   | refine q_storeM (enc := nav) (l := (List.replicate (nb l) 0).set (0 + (0 : Int).toNat) 1) (a := 1) ?_ (hr := by rfl) (hv0 := by exact hl2)
   | refine wo_mksG (nb l) rfl rfl rfl (by omega) rfl rfl rfl ?_ | refine qQb ?_ | refine q_cmp2 (fun _ => ?_) (fun _ => ?_))
  refine wo_cut [(0, .islc false f 1 (BL l)), (3, .ptr 0 1 1 10 0 0), (5, .int .i64 (nb l : Nat)), (7, .slc 1 1 (nb l) 1 0 (nb l) none), (8, .slc 2 (H 2).gen.succ (nb l) 1 0 (nb l) none), (32, .ptr 0 1 1 10 0 2)] [(0, H 0), (1, ⟨1, false, .row 1 (NL (cnt0 (nb l)))⟩), (2, ⟨(H 2).gen.succ, false, .row 1 (List.replicate (nb l) (.bool false))⟩)] (by exact ⟨rfl, rfl, rfl, rfl, rfl, rfl, trivial⟩) (by exact ⟨rfl, rfl, rfl, trivial⟩) (fun T H hT hH => ?_)
  obtain ⟨q0, q1, q2, -⟩ := hH
  rw [k0] at q0
  rw [k2] at hT ⊢
  rw [k2, ← eb] at q2
  clear k0 k1 k2 hT hl1 hl2
  simp only [over]
  have hnext : ∀ (T : Tmps) (H : Heap), H 0 = ⟨1, false, .row 10 [.agg [.int .i64 x.sup.gen, .int .i64 x.sup.blocks, .int .i64 rt, .int .i64 x.sup.size, .int .i64 x.sup.first, .int .i64 x.slot, .islc false false 8 (x.recs.map Rec.av), .islc false false 1 (NL x.blocks), .islc false false 1 (x.trees.map mIv), .islc false false 1 (x.trees.map nIv)]]⟩ → H 1 = ⟨1, false, .row 1 (NL (bump (cnt0 (nb l)) rt))⟩ → H 2 = ⟨1, false, .row 1 ((List.replicate (nb l) false).map AV.bool)⟩ → True := fun _ _ _ _ _ => trivial
  have hv' : (cnt0 (nb l)).getD (0 + (rt : Int).toNat) default = v := by rw [show 0 + (rt : Int).toNat = rt by omega]; exact hv
  by_cases hr0 : rt = 0
  ·have hb1 : bump (cnt0 (nb l)) rt = cnt0 (nb l) := by rw [hr0]; rfl
   rw [hb1] at hc1
   have hz : (rt : Int) = 0 := by omega
   repeat' (first | refine qS ?_ | refine q_loadR ?_ (hr := by exact q0) | refine qQb ?_ | refine q_cmp2 (fun _ => ?_) (fun _ => ?_))
   refine w_cutT [(0, .islc false f 1 (BL l)), (3, .ptr 0 1 1 10 0 0), (5, .int .i64 (nb l : Nat)), (7, .slc 1 1 (nb l) 1 0 (nb l) none), (8, .slc 2 1 (nb l) 1 0 (nb l) none), (9, .int .i64 0)] ⟨by kernel_rfl, by kernel_rfl, by kernel_rfl, by kernel_rfl, by kernel_rfl, by kernel_rfl, trivial⟩ (fun T hT => ?_)
   simp only [over]
   clear hT
   rw [← hb1] at q1 hc1
   refine W.mono (rcounts_l0 (k := k - 1) (n := nb l) (bl := x.blocks) (recs := x.recs) (c := bump (cnt0 (nb l)) rt) (v0 := .islc false f 1 (BL l)) (v8 := .slc 2 1 (nb l) 1 0 (nb l) none) (by omega) (by omega) hx.len hx.blk hrr (by omega) q0 q1 ⟨hc1.1, fun v hv => by have := hc1.2 v hv; omega⟩ ⟨rfl, rfl, rfl, rfl, rfl, rfl, trivial⟩) ?_
   rintro ex T3 H3 ⟨rfl, hfr3, q31, hc3, hT3⟩
   rw [hT3.eq]
   simp only [over]
   show W _ _
   repeat' (first | refine qQb ?_ | refine q_cmp2 (fun _ => ?_) (fun _ => ?_))
   refine W.mono (rcounts_l3 (k := k - 1) (m := 10000) (f := f) (l := l) (ts := x.trees) (s0 := ((inter x.blocks x.recs).foldl bump (bump (cnt0 (nb l)) rt), List.replicate (nb l) false)) (by omega) hd (by omega) hx.tree (by omega) ((hfr3 0 (by omega)).trans q0) q31 ((hfr3 2 (by omega)).trans q2) hc3 (by simp) ⟨rfl, rfl, rfl, rfl, rfl, rfl, trivial⟩) ?_
   rintro ex T4 H4 ⟨rfl, q41, hc4, h7⟩
   have hpc : pcounts l x = (x.trees.foldl (nodesN l) ((inter x.blocks x.recs).foldl bump (bump (cnt0 (nb l)) rt), List.replicate (nb l) false)).1 := by unfold pcounts; rw [← hrt]; rfl
   rw [← hpc] at q41 hc4
   rw [Has.eq (T := T4) (ps := [(7, _)]) ⟨h7, trivial⟩]
   simp only [over]
   show W _ _
   repeat' (first | refine qQb ?_ | refine q_cmp2 (fun _ => ?_) (fun _ => ?_))
   refine ⟨Or.inr rfl, _, rfl, ?_, fun v hv => hc4.2 v hv⟩
   show fz true (4 + 2) H4 (.slc 1 1 (nb l) 1 0 (nb l) none) = _
   rw [fz_ownN q41 pcounts_len 4]; rfl
  ·have hb1 : bump (cnt0 (nb l)) rt = (cnt0 (nb l)).set rt (v + 1) := by rw [bump_ne hr0, hv]
   have hz : (rt : Int) ≠ 0 := by omega
   repeat' (first
    | refine qS ?_ | refine q_loadR ?_ (hr := by exact q0) | refine wo_atR rfl rfl (by exact q1) (by rw [NL_len]; exact hcl) (by omega) (by omega) (by omega) rfl rfl ?_
    | refine q_loadM (enc := nav) (l := cnt0 (nb l)) ?_ (hr := by exact q1) (hv0 := by exact hcl) (hv := by exact congrArg nav hv')
    | refine q_storeM (enc := nav) (l := cnt0 (nb l)) (a := v + 1) ?_ (hr := by exact q1) (hv0 := by exact hcl) | refine qQb ?_ | refine q_cmp2 (fun _ => ?_) (fun _ => ?_))
   refine w_cut [(0, .islc false f 1 (BL l)), (3, .ptr 0 1 1 10 0 0), (5, .int .i64 (nb l : Nat)), (7, .slc 1 1 (nb l) 1 0 (nb l) none), (8, .slc 2 1 (nb l) 1 0 (nb l) none), (9, .int .i64 0)] [(0, H 0), (1, ⟨1, false, .row 1 (((cnt0 (nb l)).set (0 + (rt : Int).toNat) (v + 1)).map nav)⟩), (2, H 2)] (by exact ⟨rfl, rfl, rfl, rfl, rfl, rfl, trivial⟩) (by exact ⟨rfl, rfl, rfl, trivial⟩) (fun T H hT hH => ?_)
   obtain ⟨p0, p1, p2, -⟩ := hH
   rw [q0] at p0
   rw [q2] at p2
   have p1 : H 1 = ⟨1, false, .row 1 (NL (bump (cnt0 (nb l)) rt))⟩ := by
    rw [p1, hb1, show 0 + (rt : Int).toNat = rt by omega]; rfl
   clear q0 q1 q2 hT
   have q0 := p0
   have q1 := p1
   have q2 := p2
   simp only [over]
   refine W.mono (rcounts_l0 (k := k - 1) (n := nb l) (bl := x.blocks) (recs := x.recs) (c := bump (cnt0 (nb l)) rt) (v0 := .islc false f 1 (BL l)) (v8 := .slc 2 1 (nb l) 1 0 (nb l) none) (by omega) (by omega) hx.len hx.blk hrr (by omega) q0 q1 ⟨hc1.1, fun v hv => by have := hc1.2 v hv; omega⟩ ⟨rfl, rfl, rfl, rfl, rfl, rfl, trivial⟩) ?_
   rintro ex T3 H3 ⟨rfl, hfr3, q31, hc3, hT3⟩
   rw [hT3.eq]
   simp only [over]
   show W _ _
   repeat' (first | refine qQb ?_ | refine q_cmp2 (fun _ => ?_) (fun _ => ?_))
   refine W.mono (rcounts_l3 (k := k - 1) (m := 10000) (f := f) (l := l) (ts := x.trees) (s0 := ((inter x.blocks x.recs).foldl bump (bump (cnt0 (nb l)) rt), List.replicate (nb l) false)) (by omega) hd (by omega) hx.tree (by omega) ((hfr3 0 (by omega)).trans q0) q31 ((hfr3 2 (by omega)).trans q2) hc3 (by simp) ⟨rfl, rfl, rfl, rfl, rfl, rfl, trivial⟩) ?_
   rintro ex T4 H4 ⟨rfl, q41, hc4, h7⟩
   have hpc : pcounts l x = (x.trees.foldl (nodesN l) ((inter x.blocks x.recs).foldl bump (bump (cnt0 (nb l)) rt), List.replicate (nb l) false)).1 := by unfold pcounts; rw [← hrt]; rfl
   rw [← hpc] at q41 hc4
   rw [Has.eq (T := T4) (ps := [(7, _)]) ⟨h7, trivial⟩]
   simp only [over]
   show W _ _
   repeat' (first | refine qQb ?_ | refine q_cmp2 (fun _ => ?_) (fun _ => ?_))
   refine ⟨Or.inr rfl, _, rfl, ?_, fun v hv => hc4.2 v hv⟩
   show fz true (4 + 2) H4 (.slc 1 1 (nb l) 1 0 (nb l) none) = _
   rw [fz_ownN q41 pcounts_len 4]; rfl
 obtain ⟨u, H, h1, h2, h3⟩ := key
 exact ⟨⟨u, H, h1, h2⟩, h3⟩
end Go.Proofs.YtkaiiopoilpjeaaGreat
