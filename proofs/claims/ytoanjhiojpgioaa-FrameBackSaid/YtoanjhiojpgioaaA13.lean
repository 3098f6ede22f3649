/- What an operation looks at. -/
import Derived.Test.YtoanjhiojpgioaaA12
set_option linter.unusedSimpArgs false
set_option linter.unusedVariables false
namespace Go.AI

theorem optNat_congr {T T2 : Tmps} {o : Option SArg} (h : ∀ x ∈ optA o, x.ev T2 = x.ev T) : optNat T2 o = optNat T o := by
  cases o with
  | none => rfl
  | some x => simp only [optNat, h x (by simp [optA])]

theorem aop_congr (cf : CallF) (xf : ExtF) (base : Nat) {T T2 : Tmps} {op : SOp} (H : Heap) (h : ∀ x ∈ sargsOf op, x.ev T2 = x.ev T) : aop cf xf base T2 H op = aop cf xf base T H op := by
  cases op
  case build z ps =>
    have : (ps.map fun (o, k, x) => (o, k, SArg.ev T2 x)) = ps.map fun (o, k, x) => (o, k, SArg.ev T x) := List.map_congr_left fun p hp => by
      obtain ⟨a, b, x⟩ := p
      simp only [h x (List.mem_map.2 ⟨_, hp, rfl⟩)]
    simp only [aop, this]
  case buildS site s n z ps =>
    have : (ps.map fun (i, x) => (i, SArg.ev T2 x)) = ps.map fun (i, x) => (i, SArg.ev T x) := List.map_congr_left fun p hp => by
      obtain ⟨a, x⟩ := p
      simp only [h x (List.mem_map.2 ⟨_, hp, rfl⟩)]
    simp only [aop, this]
  case mkfn f cs =>
    have : cs.map (SArg.ev T2) = cs.map (SArg.ev T) := List.map_congr_left fun x hx => h x hx
    simp only [aop, this]
  case call m f cs =>
    have : cs.map (SArg.ev T2) = cs.map (SArg.ev T) := List.map_congr_left fun x hx => h x hx
    simp only [aop, this]
  case callv m x cs =>
    have : cs.map (SArg.ev T2) = cs.map (SArg.ev T) := List.map_congr_left fun y hy => h y (by simp [sargsOf, hy])
    have hx := h x (by simp [sargsOf])
    simp only [aop, this, hx]
  case slice s x lo hi mx =>
    have h1 := optNat_congr (T := T) (T2 := T2) (o := lo) (fun y hy => h y (by simp [sargsOf, hy]))
    have h2 := optNat_congr (T := T) (T2 := T2) (o := hi) (fun y hy => h y (by simp [sargsOf, hy]))
    have h3 := optNat_congr (T := T) (T2 := T2) (o := mx) (fun y hy => h y (by simp [sargsOf, hy]))
    have hx := h x (by simp [sargsOf])
    simp only [aop, h1, h2, h3, hx]
  case slcStr x lo hi =>
    have h1 := optNat_congr (T := T) (T2 := T2) (o := lo) (fun y hy => h y (by simp [sargsOf, hy]))
    have h2 := optNat_congr (T := T) (T2 := T2) (o := hi) (fun y hy => h y (by simp [sargsOf, hy]))
    have hx := h x (by simp [sargsOf])
    simp only [aop, h1, h2, hx]
  all_goals
    simp only [sargsOf, List.mem_cons, List.not_mem_nil, or_false, forall_eq_or_imp, forall_eq] at h
    simp only [aop, h]

/-- Two heaps agree on what is looked at. -/
def agree (fp : FP) (H H2 : Heap) : Prop := ∀ j, (j ∈ fp.rd ∨ j ∈ fp.wr) → H2 j = H j

/-- A step that looks at what it says, and writes what it says. -/
def LocalAt (f : Heap → R) (H : Heap) (v : AV) (H' : Heap) (fp : FP) : Prop :=
  (∀ j, j ∉ fp.wr → H' j = H j) ∧ ∀ H2, agree fp H H2 → ∃ H2', f H2 = some (v, H2', fp) ∧ (∀ j, j ∈ fp.wr → H2' j = H' j) ∧ (∀ j, j ∉ fp.wr → H2' j = H2 j)

theorem local_rv {f : Heap → R} {H H' : Heap} {v : AV} {fp : FP} (hz : fp.wr = []) (hH : H' = H) (hf : ∀ H2, agree fp H H2 → f H2 = some (v, H2, fp)) : LocalAt f H v H' fp := by
  subst hH
  exact ⟨fun _ _ => rfl, fun H2 ha => ⟨H2, hf H2 ha, fun j hj => by rw [hz] at hj; simp at hj, fun _ _ => rfl⟩⟩

theorem local_upd {f : Heap → R} {H : Heap} {v : AV} {fp : FP} {k : Nat} (b : Heap → Blk) (hw : fp.wr = [k]) (hb : ∀ H2, agree fp H H2 → b H2 = b H) (hf : ∀ H2, agree fp H H2 → f H2 = some (v, H2.upd k (b H2), fp)) :
    LocalAt f H v (H.upd k (b H)) fp := by
  refine ⟨fun j hj => upd_ne _ _ (by rw [hw] at hj; simpa using hj), fun H2 ha => ⟨_, hf H2 ha, fun j hj => ?_, fun j hj => upd_ne _ _ (by rw [hw] at hj; simpa using hj)⟩⟩
  rw [hw] at hj
  simp at hj
  subst hj
  simp [hb H2 ha]

theorem row_agree {H H2 : Heap} {j : Nat} (h : H2 j = H j) (g ver s : Nat) : H2.row j g ver s = H.row j g ver s := by
  unfold Heap.row; rw [h]
theorem rowW_agree {H H2 : Heap} {j : Nat} (h : H2 j = H j) (g ver s : Nat) : H2.rowW j g ver s = H.rowW j g ver s := by
  unfold Heap.rowW; rw [h]

theorem vis_fz (out : Bool) {H H2 : Heap} : ∀ (n : Nat) (v : AV), (∀ j ∈ vis n H v, H2 j = H j) → fz out n H2 v = fz out n H v ∧ vis n H2 v = vis n H v := by
  intro n
  induction n with
  | zero => intro v _; exact ⟨by simp [fz], by simp [vis]⟩
  | succ n ih =>
    intro v h
    have hL : ∀ cs : List AV, (∀ j ∈ cs.flatMap (vis n H), H2 j = H j) → cs.map (fz out n H2) = cs.map (fz out n H) ∧ cs.flatMap (vis n H2) = cs.flatMap (vis n H) := by
      intro cs hcs
      constructor
      · exact List.map_congr_left fun c hc => (ih c fun j hj => hcs j (List.mem_flatMap.2 ⟨c, hc, hj⟩)).1
      · simp only [List.flatMap_def]
        congr 1
        exact List.map_congr_left fun c hc => (ih c fun j hj => hcs j (List.mem_flatMap.2 ⟨c, hc, hj⟩)).2
    cases v with
    | ptr j g ver s i off =>
      have hj : H2 j = H j := by
        refine h j ?_
        simp only [vis]
        split <;> (try split) <;> simp
      simp only [fz, vis, row_agree hj]
      simp only [vis] at h
      split
      · rename_i es hes
        simp only [hes] at h
        split
        · rename_i e he
          simp only [he] at h
          have := hL (e.cells.drop off) (fun j' hj' => h j' (by simp at hj' ⊢; exact .inr hj'))
          exact ⟨by rw [this.1], by rw [this.2]⟩
        · exact ⟨rfl, rfl⟩
      · exact ⟨rfl, rfl⟩
    | slc j g ver s off len cap =>
      have hj : H2 j = H j := by
        refine h j ?_
        simp only [vis]
        split <;> simp
      simp only [fz, vis, row_agree hj]
      simp only [vis] at h
      split
      · rename_i es hes
        simp only [hes] at h
        have := hL ((es.drop off).take len) (fun j' hj' => h j' (by simp at hj' ⊢; exact .inr hj'))
        exact ⟨by rw [this.1], by rw [this.2]⟩
      · exact ⟨rfl, rfl⟩
    | agg cs => simp only [fz, vis] at h ⊢; have := hL cs h; exact ⟨by rw [this.1], this.2⟩
    | tup cs => simp only [fz, vis] at h ⊢; have := hL cs h; exact ⟨by rw [this.1], this.2⟩
    | fn f cs => simp only [fz, vis] at h ⊢; have := hL cs h; exact ⟨by rw [this.1], this.2⟩
    | _ => exact ⟨by simp [fz], by simp [vis]⟩

theorem vis_fzL (out : Bool) {H H2 : Heap} (n : Nat) (vs : List AV) (h : ∀ j ∈ vs.flatMap (vis n H), H2 j = H j) : vs.map (fz out n H2) = vs.map (fz out n H) ∧ vs.flatMap (vis n H2) = vs.flatMap (vis n H) := by
  constructor
  · exact List.map_congr_left fun c hc => (vis_fz out n c fun j hj => h j (List.mem_flatMap.2 ⟨c, hc, hj⟩)).1
  · simp only [List.flatMap_def]
    congr 1
    exact List.map_congr_left fun c hc => (vis_fz out n c fun j hj => h j (List.mem_flatMap.2 ⟨c, hc, hj⟩)).2

end Go.AI
