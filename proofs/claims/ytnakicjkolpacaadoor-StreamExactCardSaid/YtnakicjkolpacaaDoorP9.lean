/- Plain laws of streams: what is written is read. -/
import Derived.Test.YtnakicjkolpacaaDoorP8
set_option linter.unusedSimpArgs false
set_option linter.unusedVariables false
set_option maxRecDepth 10000
set_option maxHeartbeats 4000000
namespace Go.Proofs.YtnakicjkolpacaaDoor
open Go.AI

/-- The parts of a stream's commands. -/
theorem whole_split {l : List Cmd} (h : wholeP l) {s : Nat} (hs : s + 2 ≤ l.length) :
    ∃ mids z, l.drop (s + 1) = mids ++ [z] ∧ (∀ c ∈ mids, chkP c ∧ content c) ∧ mids.length + s + 2 = l.length ∧ chkP z ∧ z.kind = 6 ∧ z.count = (l.length : Int) - 2 ∧ (s = 0 → z.digest = sumC 0 mids) ∧
      chkP (l.getD 0 cz) ∧ (l.getD 0 cz).kind = 1 ∧ (l.getD 0 cz).count = 0 := by
  obtain ⟨h2, ⟨k1, k2, k3, k4⟩, hm, hc, hd⟩ := h
  have g0 : l.getD 0 cz = l[0] := by simp [List.getD, show 0 < l.length by omega]
  have gn : l.getD (l.length - 1) cz = l[l.length - 1] := by simp [List.getD, show l.length - 1 < l.length by omega]
  have hz : l.drop (l.length - 1) = [l[l.length - 1]] := by
    rw [List.drop_eq_getElem_cons (show l.length - 1 < l.length by omega), show l.length - 1 + 1 = l.length by omega, List.drop_length]
  have hsp : l.drop (s + 1) = (l.drop (s + 1)).take (l.length - (s + 2)) ++ [l[l.length - 1]] := by
    rw [← hz, show l.drop (l.length - 1) = (l.drop (s + 1)).drop (l.length - (s + 2)) by rw [List.drop_drop]; congr 1; omega, List.take_append_drop]
  refine ⟨(l.drop (s + 1)).take (l.length - (s + 2)), l[l.length - 1], hsp, ?_, by simp; omega, hc _ (List.getElem_mem _), by rw [← gn]; exact k3, by rw [← gn]; exact k4, ?_, by rw [g0]; exact hc _ (List.getElem_mem _), k1, k2⟩
  · intro c hcm
    refine ⟨hc c (List.mem_of_mem_drop (List.mem_of_mem_take hcm)), ?_⟩
    rw [List.all_eq_true] at hm
    refine contentB_iff.1 (hm c ?_)
    unfold midsL
    obtain ⟨i, hi, rfl⟩ := List.mem_iff_getElem.1 hcm
    rw [List.mem_iff_getElem]
    simp only [List.length_take, List.length_drop] at hi
    refine ⟨s + i, by simp; omega, ?_⟩
    simp only [List.getElem_take, List.getElem_drop]
    congr 1
    omega
  · rintro rfl
    rw [← gn, hd]
    have hl : l = l[0] :: ((l.drop 1).take (l.length - 2) ++ [l[l.length - 1]]) := by
      rw [← hsp]
      exact (List.drop_eq_getElem_cons (show 0 < l.length by omega)).symm ▸ (by simp)
    have e : sumC 0 l = sumC 0 (l[0] :: ((l.drop 1).take (l.length - 2) ++ [l[l.length - 1]])) := by rw [← hl]
    rw [e]
    have h1 : ∀ x, sumC 0 (l[0] :: x) = sumC 0 x := by
      intro x
      show sumC (if _ then _ else _) x = _
      rw [if_pos (.inl (by rw [← g0]; exact k1))]
    rw [h1]
    unfold sumC
    rw [List.foldl_append]
    simp only [List.foldl_cons, List.foldl_nil]
    rw [if_pos (.inr (by rw [← gn]; exact k3))]

/-- A stream's frames but for the last. -/
def framesM (beg : Cmd) (s : Nat) (mids : List Cmd) : List (Int × Cmd) := (0, beg) :: numd (s + 1) mids

theorem bytesS_split {l : List Cmd} {s : Nat} {mids : List Cmd} {z : Cmd} (h : l.drop (s + 1) = mids ++ [z]) :
    bytesS l (s : Nat) = frsB (framesM { l.getD 0 cz with count := (s : Nat) } s mids) ++ frB ((s + 1 + mids.length : Nat) : Int) z := by
  unfold bytesS framesM
  rw [Int.toNat_natCast, h, bodyB_append, bodyB_numd (s + 1) mids]
  simp [frsB, bodyB]

theorem mids_frames {beg : Cmd} {s : Nat} {mids : List Cmd} (hb : chkP beg) (hk : beg.kind = 1) (hc : beg.count = s) (hm : ∀ c ∈ mids, chkP c ∧ content c) (hl : s + mids.length ≤ 100000) :
    Mids ps0 (framesM beg s mids) ∧ (after ps0 (framesM beg s mids)).next = (s + 1 + mids.length : Nat) ∧ (after ps0 (framesM beg s mids)).sum = sumC 0 mids ∧ (after ps0 (framesM beg s mids)).l = cvOf beg :: mids.map cvOf := by
  have hn : (takeP ps0 (cvOf beg)).next = ((s + 1 : Nat) : Int) := by
    show (if beg.kind = 1 then beg.count else _) + 1 = _
    rw [if_pos hk, hc]; rfl
  have hs0 : (takeP ps0 (cvOf beg)).sum = 0 := by
    show (if beg.kind = 1 ∨ beg.kind = 6 then _ else _) = _
    rw [if_pos (.inl hk)]; rfl
  have he : after ps0 (framesM beg s mids) = after (takeP ps0 (cvOf beg)) (numd (s + 1) mids) := rfl
  have ha := after_content mids (s + 1) (takeP ps0 (cvOf beg)) fun c h => (hm c h).2
  have hal := after_l (numd (s + 1) mids) (takeP ps0 (cvOf beg))
  refine ⟨⟨hb, by decide, ?_, by rw [hk]; decide, ?_⟩, ?_, ?_, ?_⟩
  · unfold takeE
    rw [if_neg, if_neg (by rw [hk]; decide)]
    rintro (h | h)
    · exact h ⟨fun _ => hk, fun _ => rfl⟩
    · exact h rfl
  · exact mids_content mids (s + 1) _ hm (by simp [takeP]) hn (by omega)
  · rw [he, ha.1, hn]; omega
  · rw [he, ha.2, hs0]
  · rw [he, hal, numd_map]
    simp [takeP, ps0]

/-- The End of a stream is taken. -/
theorem take_end {beg : Cmd} {s : Nat} {mids : List Cmd} {z : Cmd} (hb : chkP beg) (hk : beg.kind = 1) (hc : beg.count = s) (hm : ∀ c ∈ mids, chkP c ∧ content c) (hl : s + mids.length ≤ 100000) (hz6 : z.kind = 6) (hzc : z.count = (mids.length + s : Nat)) (hd : s = 0 → z.digest = sumC 0 mids) :
    takeE (after ps0 (framesM beg s mids)) z ((s + 1 + mids.length : Nat) : Int) = 0 := by
  obtain ⟨h1, h2, h3, h4⟩ := mids_frames hb hk hc hm hl
  unfold takeE
  rw [if_neg, if_pos hz6, if_neg, if_neg]
  · rintro ⟨h5, h6⟩
    unfold PS.cnt at h5
    rw [h4] at h5
    have h7 : beg.count = 0 := h5
    exact h6 (by rw [h3]; exact hd (by omega))
  · rw [h2, hzc]; omega
  · rintro (h | h)
    · exact h ⟨fun hh => absurd hh (by rw [h4]; simp), fun hh => by omega⟩
    · exact h h2.symm

/-- What is written is read. -/
theorem parse_bytesS {l : List Cmd} (h : wholeP l) {s : Nat} (hs : s + 2 ≤ l.length) (hl : l.length ≤ 1000) :
    ∃ p : PS, parseS (bytesS l (s : Nat)) = (p, (bytesS l (s : Nat)).length, 0) ∧ p.l = cvOf { l.getD 0 cz with count := (s : Nat) } :: (l.drop (s + 1)).map cvOf := by
  obtain ⟨mids, z, h1, h2, h3, h4, h5, h6, h7, h8, h9, h10⟩ := whole_split h hs
  have hb := chk_count h8 h9 (n := (s : Nat)) (by omega)
  have hM := mids_frames (s := s) (mids := mids) hb h9 rfl h2 (by omega)
  have hE := take_end (z := z) hb h9 rfl h2 (by omega) h5 (by rw [h6]; omega) h7
  have hsp := bytesS_split h1
  refine ⟨takeP (after ps0 (framesM { l.getD 0 cz with count := (s : Nat) } s mids)) (cvOf z), ?_, ?_⟩
  · unfold parseS
    rw [goS_fuel _ ((bytesS l (s : Nat)).length + 1 + (framesM { l.getD 0 cz with count := (s : Nat) } s mids).length) _ _ _ (by omega) (by omega)]
    have key := goS_mids _ ((bytesS l (s : Nat)).length + 1) ps0 0 (frB ((s + 1 + mids.length : Nat) : Int) z) hM.1
    rw [← hsp] at key
    rw [key]
    have hf := goS_frame (k := (bytesS l (s : Nat)).length) (p := after ps0 (framesM { l.getD 0 cz with count := (s : Nat) } s mids)) (g := 0 + (frsB (framesM { l.getD 0 cz with count := (s : Nat) } s mids)).length) (seq := ((s + 1 + mids.length : Nat) : Int)) (c := z) (more := []) h4 (by omega)
    rw [List.append_nil] at hf
    rw [hf, if_neg (by rw [hE]; simp), if_pos h5, if_pos rfl, hsp]
    simp
  · show (after ps0 _).l ++ [cvOf z] = _
    rw [hM.2.2.2, h1]
    simp

/-- Cut off it is open. -/
theorem parse_cutS {l : List Cmd} (h : wholeP l) {s : Nat} (hs : s + 2 ≤ l.length) (hl : l.length ≤ 1000) {m : Nat} (hm : m < (bytesS l (s : Nat)).length) :
    ∃ (p : PS) (g j : Nat), parseS ((bytesS l (s : Nat)).take m) = (p, g, 16) ∧ g ≤ m ∧ j < l.length - s ∧ p.l = (cvOf { l.getD 0 cz with count := (s : Nat) } :: (l.drop (s + 1)).map cvOf).take j ∧ p.l.length = j := by
  obtain ⟨mids, z, h1, h2, h3, h4, h5, h6, h7, h8, h9, h10⟩ := whole_split h hs
  have hb := chk_count h8 h9 (n := (s : Nat)) (by omega)
  have hM := mids_frames (s := s) (mids := mids) hb h9 rfl h2 (by omega)
  have hsp := bytesS_split h1
  rw [hsp] at hm ⊢
  have hfl : (framesM { l.getD 0 cz with count := (s : Nat) } s mids).length = mids.length + 1 := by simp [framesM, numd_length]
  obtain ⟨j, g', hj, hg, hgo⟩ := goS_cut (framesM { l.getD 0 cz with count := (s : Nat) } s mids) ((s + 1 + mids.length : Nat) : Int) z (m + 1 + (mids.length + 2)) ps0 0 m hM.1 h4 (by omega) hm
  have hal := after_l ((framesM { l.getD 0 cz with count := (s : Nat) } s mids).take j) ps0
  have hall : (framesM { l.getD 0 cz with count := (s : Nat) } s mids).map (fun x => cvOf x.2) = cvOf { l.getD 0 cz with count := (s : Nat) } :: mids.map cvOf := by
    simp [framesM, numd_map]
  refine ⟨after ps0 ((framesM { l.getD 0 cz with count := (s : Nat) } s mids).take j), g', j, ?_, by omega, by omega, ?_, ?_⟩
  · unfold parseS
    rw [goS_fuel _ (m + 1 + (mids.length + 2)) _ _ _ (by omega) (by rw [List.length_take]; omega)]
    exact hgo
  · rw [hal, List.map_take, hall, h1]
    simp only [ps0, List.nil_append, List.map_append, List.map_cons, List.map_nil]
    rw [← List.cons_append, List.take_append_of_le_length (by simp; omega)]
  · rw [hal, List.length_append, List.length_map, List.length_take, hfl]
    rw [hfl] at hj
    show 0 + min j _ = j
    omega

end Go.Proofs.YtnakicjkolpacaaDoor
