/- slices.Clone of bytes. -/
import Derived.Test.YtoanjhiojpgioaaRows
import Derived.Test.YtoanjhiojpgioaaT
import Derived.Test.YtoanjhiojpgioaaA25
import Derived.WalkKit
import Derived.WalkSpells
import Derived.WalkLawsBesides
set_option linter.unusedSimpArgs false
set_option linter.unusedVariables false
namespace Go.Proofs.Ytoanjhiojpgioaa
open Go.AI
open Go.RowKit

set_option maxHeartbeats 1000000 in
theorem clone_nil (w : World) (c : Nat) :
    Calls Try.prog 46 #[.slice none 0 c] w fun e w' => (∃ b d, e = .returned (.slice b 0 d)) ∧ Below w.heap.size w w' := by
  go_enter Try.func46, Try.ntmps46
  go_wp2
  rw [Go.Lib.run_eql_slice_nil w 22 5 none 0 c 0 0 Try.underlying22]
  go_wp2
  go_ret
  exact ⟨⟨_, _, rfl⟩, Below.refl _ _⟩

set_option maxHeartbeats 1000000 in
theorem clone_empty (w : World) (a : Addr) (c : Nat) :
    Calls Try.prog 46 #[.slice (some a) 0 c] w fun e w' => (∃ b d, e = .returned (.slice b 0 d)) ∧ Below w.heap.size w w' := by
  go_enter Try.func46, Try.ntmps46
  go_wp2
  rw [Go.Lib.run_eql_slice_nil w 22 5 (some a) 0 c 0 0 Try.underlying22]
  go_wp2
  go_ret
  exact ⟨⟨_, _, rfl⟩, (Below.refl _ _).alloc (Nat.le_refl _) _⟩

attribute [local irreducible] aops aexec acall aiter aop W WO

/-- The clone alone. -/
def tabC : List (Nat × SFun) := [(46, slices_Clone___byte_byte_)]
theorem laidC : Laid Try.prog (Go.AI.look tabC) := laid_cons ⟨_, _, Try.func46, strip_slices_Clone___byte_byte_, by decide⟩ laid_nil
theorem mixedC : Try.prog.follows .mixedOrders = true := Checked.mixed Try.checked

/-- What a clone of bytes is. -/
def cloneF : CallF := fun f base args H =>
  if f = n_slices_Clone___byte_byte_ then
    match args with
    | [.islc t fl s []] => some (.islc false false 1 [], H)
    | _ => acall (Go.AI.look tabC) (fun _ _ => none) (fun _ _ _ _ => none) 3 f base args H
  else none

theorem cloneF_ok : FunOk Try.prog cloneF := by
  intro C f base args v H' vs hR h hargs
  unfold cloneF at h
  split at h
  · rename_i hf
    subst hf
    split at h
    · rename_i t fl s
      cases h
      obtain ⟨u, us, hu, h1, h2⟩ := hargs
      simp only [VRT] at h2
      subst h2
      simp only [VR] at h1
      obtain ⟨_, a, cap, rfl, _⟩ := h1
      have hvs : vs = #[.slice a 0 cap] := by
        apply Array.ext'
        simpa using hu
      subst hvs
      refine ⟨⟨Try.f46, Try.func46, rfl, by decide⟩, ?_⟩
      have fin : ∀ e w', (∃ b d, e = Ending.returned (.slice b 0 d)) ∧ Below C.w.heap.size C.w w' → Done C (.islc false false 1 []) C.H e w' := by
        rintro e w' ⟨⟨b, d, rfl⟩, hb⟩
        have hE' : Evo C { C with w := w' } :=
          ⟨rfl, hb.size, fun b hlt _ => hb.block b hlt, fun b h => .inl h, fun _ _ _ h => h, fun _ _ _ _ es' _ h => ⟨⟨es', h⟩, fun _ => rfl⟩, fun _ _ es' _ h => ⟨⟨es', h⟩, rfl⟩,
            fun b e n h => by
              have hlt : b < C.w.heap.size := by
                unfold World.shape? at h
                cases hg : C.w.heap[b]? with
                | none => rw [hg] at h; simp at h
                | some o => exact (Array.getElem?_eq_some_iff.1 hg).1
              show World.shape? w' b = _
              unfold World.shape? at h ⊢
              rw [hb.block b hlt]; exact h, hb.os, hb.tape, hb.output⟩
        have hR' : Rel { C with w := w' } := ⟨fun b hlt => Nat.lt_of_lt_of_le (hR.fsz b hlt) hb.size, fun j => BR.mono hE' rfl (fun _ => rfl) (fun hl => hb.block _ (hR.lt hl).1) (hR.blk j), hR.inj⟩
        exact ⟨_, C.μ, rfl, hE', hR', by simp [VR]⟩
      cases a with
      | none => exact (clone_nil C.w cap).mono fun e w' h => fin e w' h
      | some a => exact (clone_empty C.w a cap).mono fun e w' h => fin e w' h
    · exact acall_ok mixedC laidC (fun _ _ _ _ _ _ h => by cases h) (fun _ _ _ _ _ _ _ _ h => by cases h) 3 C _ base args v H' vs hR h hargs
  · cases h

/-- A clone of bytes that are there. -/
theorem e_clone (B0 : Prog) (hB : B0 n_slices_Clone___byte_byte_ = none) (xf : ExtF) (k : Nat) (t f : Bool) (l : List UInt8) (hl : l ≠ []) (hm : l.length < 1000000) : FnF (acall B0 xf cloneF (k + 1)) n_slices_Clone___byte_byte_ [.islc t f 1 (BL l)] l := by
  have hw : W (aexec (acall (Go.AI.look tabC) (fun _ _ => none) (fun _ _ _ _ => none) 2) (fun _ _ => none) 0 2 slices_Clone___byte_byte_.code (tmps0 [.islc t f 1 (BL l)]) Heap.none) (fun ex T' H' => ex = .ret ∧ ∃ j gn, T' 2 = .slc j gn l.length 1 0 l.length .none ∧ H' j = ⟨gn, false, .row 1 (BL l)⟩) := by
    obtain ⟨c, l', rfl⟩ : ∃ c l', l = c :: l' := by
      cases l with
      | nil => exact absurd rfl hl
      | cons c l' => exact ⟨c, l', rfl⟩
    unfold slices_Clone___byte_byte_
    repeat' (first
     | refine wo_nil ?_
     | refine w_seq ?_
     | refine w_region ?_
     | refine w_ret ?_
     | refine w_skip ?_
     | refine w_exit ?_
     | refine w_block ?_
     | refine w_true rfl ?_
     | refine w_false rfl ?_
     | refine wo_n rfl ?_
     | refine wo_nn rfl ?_
     | refine wo_eqnilC rfl rfl rfl ?_
     | refine wo_empty rfl rfl ?_
     | refine wo_app0 rfl rfl hl (by omega) rfl rfl ?_
     | refine wo_mv _ (by conv => lhs; whnf) rfl rfl ?_
     | refine wo_nilrow rfl rfl ?_
     | refine wo_app rfl rfl (by (first | exact Or.inl rfl | exact Or.inr rfl | assumption)) (by (first | rfl | exact Heap.upd_same _ _ _)) (by (first | rfl | (simp; done) | (simp; omega))) (by (first | omega | (simp; omega))) rfl rfl (fun _ => ?_))
    exact ⟨rfl, _, _, rfl, rfl⟩
  obtain ⟨ex, T', H', h1, rfl, j, gn, h6, h7⟩ := hw.out
  refine ⟨j, gn, H', ?_, h7⟩
  have e1 : acall B0 xf cloneF (k + 1) n_slices_Clone___byte_byte_ 0 [.islc t f 1 (BL l)] Heap.none = cloneF n_slices_Clone___byte_byte_ 0 [.islc t f 1 (BL l)] Heap.none := by
    simp only [acall, hB]
  rw [e1]
  obtain ⟨c, l', rfl⟩ : ∃ c l', l = c :: l' := by
    cases l with
    | nil => exact absurd rfl hl
    | cons c l' => exact ⟨c, l', rfl⟩
  show acall (Go.AI.look tabC) (fun _ _ => none) (fun _ _ _ _ => none) (2 + 1) n_slices_Clone___byte_byte_ 0 _ Heap.none = _
  rw [acall_of (k := 2) (fn := slices_Clone___byte_byte_) rfl rfl h1 (.inr rfl)]
  show (Option.map _ (some (T' 2))) = _
  rw [h6]
  rfl

end Go.Proofs.Ytoanjhiojpgioaa
