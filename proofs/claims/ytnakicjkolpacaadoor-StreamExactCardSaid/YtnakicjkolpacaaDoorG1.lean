/- slices.Clone of bytes. -/
import Derived.Test.YtnakicjkolpacaaDoorRows
import Derived.Test.YtnakicjkolpacaaDoorT
import Derived.Test.YtnakicjkolpacaaDoorMC
import Derived.WalkKit
import Derived.WalkSpells
import Derived.WalkLawsBesides
set_option linter.unusedSimpArgs false
set_option linter.unusedVariables false
namespace Go.Proofs.YtnakicjkolpacaaDoor
open Go.AI
open Go.RowKit

set_option maxRecDepth 100000 in
set_option maxHeartbeats 1000000 in
theorem clone_nil (w : World) (c : Nat) :
    Calls Tryd.prog 71 #[.slice none 0 c] w fun e w' => (∃ b d, e = .returned (.slice b 0 d)) ∧ Below w.heap.size w w' := by
  go_enter Tryd.func71, Tryd.ntmps71
  go_wp2
  rw [Go.Lib.run_eql_slice_nil w 23 5 none 0 c 0 0 Tryd.underlying23]
  go_wp2
  go_ret
  exact ⟨⟨_, _, rfl⟩, Below.refl _ _⟩

set_option maxRecDepth 100000 in
set_option maxHeartbeats 1000000 in
theorem clone_empty (w : World) (a : Addr) (c : Nat) :
    Calls Tryd.prog 71 #[.slice (some a) 0 c] w fun e w' => (∃ b d, e = .returned (.slice b 0 d)) ∧ Below w.heap.size w w' := by
  go_enter Tryd.func71, Tryd.ntmps71
  go_wp2
  rw [Go.Lib.run_eql_slice_nil w 23 5 (some a) 0 c 0 0 Tryd.underlying23]
  go_wp2
  go_ret
  exact ⟨⟨_, _, rfl⟩, (Below.refl _ _).alloc (Nat.le_refl _) _⟩

/-- What a call leaves that makes new blocks alone. -/
theorem done_same {C : Ctx} {w' : World} {v : AV} {v' : Value} (hR : Rel C) (hb : Below C.w.heap.size C.w w') (hv : VR { C with w := w' } true true v v') : Done C v C.H (.returned v') w' := by
  have hE' : Evo C { C with w := w' } :=
    ⟨rfl, hb.size, fun b hlt _ => hb.block b hlt, fun b h => .inl h, fun _ _ _ h => h, fun _ _ _ _ es' _ h => ⟨⟨es', h⟩, fun _ => rfl⟩, fun _ _ es' _ h => ⟨⟨es', h⟩, rfl⟩,
      fun b e n h => by
        have hlt : b < C.w.heap.size := by
          unfold World.shape? at h
          cases hg : C.w.heap[b]? with
          | none => rw [hg] at h; simp at h
          | some o => exact (Array.getElem?_eq_some_iff.1 hg).1
        show World.shape? w' b = _
        unfold World.shape? at h ⊢
        rw [hb.block b hlt]; exact h, hb.os, hb.tape, hb.output⟩
  have hR' : Rel { C with w := w' } := ⟨fun b hlt => Nat.lt_of_lt_of_le (hR.fsz b hlt) hb.size, fun j => BR.mono hE' rfl (fun _ => rfl) (fun hl => hb.block _ (hR.lt hl).1) (hR.blk j), hR.inj, hR.glm hE'⟩
  exact ⟨v', C.μ, rfl, hE', hR', hv⟩

attribute [local irreducible] aops aexec acall aiter aop W WO

/-- The clone alone. -/
def tabC : List (Nat × SFun) := [(71, slices_Clone___byte_byte_)]
theorem laidC : Laid Tryd.prog (Go.AI.look tabC) := laid_cons ⟨_, _, Tryd.func71, x_slices_Clone___byte_byte_.2.1, by decide⟩ laid_nil
theorem mixedC : Tryd.prog.follows .mixedOrders = true := Checked.mixed Tryd.checked

/-- What a clone of bytes is. -/
def cloneF0 : CallF := fun f base args H =>
  if f = n_slices_Clone___byte_byte_ then
    match args with
    | [.islc t fl s []] => some (.islc false false 1 [], H)
    | _ => acall (Go.AI.look tabC) (fun _ _ => none) (fun _ _ _ _ => none) 3 f base args H
  else none

theorem cloneF0_ok : FunOk Tryd.prog cloneF0 := by
  intro C f base args v H' vs hR h hargs
  unfold cloneF0 at h
  split at h
  · rename_i hf
    subst hf
    split at h
    · rename_i t fl s
      cases h
      obtain ⟨u, us, hu, h1, h2⟩ := hargs
      simp only [VRT] at h2
      subst h2
      simp only [VR] at h1
      obtain ⟨_, a, cap, rfl, _⟩ := h1
      have hvs : vs = #[.slice a 0 cap] := by
        apply Array.ext'
        simpa using hu
      subst hvs
      refine ⟨⟨Tryd.f71, Tryd.func71, rfl, by decide⟩, ?_⟩
      have fin : ∀ e w', (∃ b d, e = Ending.returned (.slice b 0 d)) ∧ Below C.w.heap.size C.w w' → Done C (.islc false false 1 []) C.H e w' := by
        rintro e w' ⟨⟨b, d, rfl⟩, hb⟩
        exact done_same hR hb (by simp [VR])
      cases a with
      | none => exact (clone_nil C.w cap).mono fun e w' h => fin e w' h
      | some a => exact (clone_empty C.w a cap).mono fun e w' h => fin e w' h
    · exact acall_ok mixedC laidC (fun _ _ _ _ _ _ h => by cases h) (fun _ _ _ _ _ _ _ _ h => by cases h) 3 C _ base args v H' vs hR h hargs
  · cases h

/-- A clone of bytes that are there. -/
theorem e_clone0 {gf : CallF} (hgf : gf n_slices_Clone___byte_byte_ = cloneF0 n_slices_Clone___byte_byte_) (B0 : Prog) (hB : B0 n_slices_Clone___byte_byte_ = none) (xf : ExtF) (k : Nat) (t f : Bool) (l : List UInt8) (hl : l ≠ []) (hm : l.length < 1000000) : FnF (acall B0 xf gf (k + 1)) n_slices_Clone___byte_byte_ [.islc t f 1 (BL l)] l := by
  have hw : W (aexec (acall (Go.AI.look tabC) (fun _ _ => none) (fun _ _ _ _ => none) 2) (fun _ _ => none) 0 2 slices_Clone___byte_byte_.code (tmps0 [.islc t f 1 (BL l)]) Heap.none) (fun ex T' H' => ex = .ret ∧ ∃ j gn, T' 2 = .slc j gn l.length 1 0 l.length .none ∧ H' j = ⟨gn, false, .row 1 (BL l)⟩) := by
    obtain ⟨c, l', rfl⟩ : ∃ c l', l = c :: l' := by
      cases l with
      | nil => exact absurd rfl hl
      | cons c l' => exact ⟨c, l', rfl⟩
    unfold slices_Clone___byte_byte_
    repeat' (first
     | refine q_s ?_ | refine q_z ?_ | refine q_b ?_ | refine wo_eqnilC rfl rfl rfl ?_ | refine wo_empty rfl rfl ?_ | refine wo_app0 rfl rfl hl (by omega) rfl rfl ?_ | refine q_mv ?_
      | refine q_nilrow ?_ | refine q_app fun _ => ?_)
    exact ⟨rfl, _, _, rfl, rfl⟩
  obtain ⟨ex, T', H', h1, rfl, j, gn, h6, h7⟩ := hw.out
  refine ⟨j, gn, H', ?_, h7⟩
  have e1 : acall B0 xf gf (k + 1) n_slices_Clone___byte_byte_ 0 [.islc t f 1 (BL l)] Heap.none = cloneF0 n_slices_Clone___byte_byte_ 0 [.islc t f 1 (BL l)] Heap.none := by
    simp only [acall, hB, hgf]
  rw [e1]
  obtain ⟨c, l', rfl⟩ : ∃ c l', l = c :: l' := by
    cases l with
    | nil => exact absurd rfl hl
    | cons c l' => exact ⟨c, l', rfl⟩
  show acall (Go.AI.look tabC) (fun _ _ => none) (fun _ _ _ _ => none) (2 + 1) n_slices_Clone___byte_byte_ 0 _ Heap.none = _
  rw [acall_of (k := 2) (fn := slices_Clone___byte_byte_) rfl rfl h1 (.inr rfl)]
  show (Option.map _ (some (T' 2))) = _
  rw [h6]
  rfl

end Go.Proofs.YtnakicjkolpacaaDoor
