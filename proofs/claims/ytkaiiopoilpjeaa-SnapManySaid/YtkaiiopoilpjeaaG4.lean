import Derived.Test.YtkaiiopoilpjeaaRows
import Derived.Test.YtkaiiopoilpjeaaT
import Derived.Test.YtkaiiopoilpjeaaMC
import Derived.WalkKit
import Derived.WalkSpells
import Derived.WalkLawsBesides
set_option linter.unusedSimpArgs false
set_option linter.unusedVariables false
set_option maxRecDepth 100000
namespace Go.Proofs.Ytkaiiopoilpjeaa
open Go.AI
open Go.RowKit
theorem done_same {C : Ctx} {w' : World} {v : AV} {v' : Value} (hR : Rel C) (hb : Below C.w.heap.size C.w w') (hv : VR { C with w := w' } true true v v') : Done C v C.H (.returned v') w' := by
 have hE' : Evo C { C with w := w' } :=
  ⟨rfl, hb.size, fun b hlt _ => hb.block b hlt, fun b h => .inl h, fun _ _ _ h => h, fun _ _ _ _ es' _ h => ⟨⟨es', h⟩, fun _ => rfl⟩, fun _ _ es' _ h => ⟨⟨es', h⟩, rfl⟩,
   fun b e n h => by
    have hlt : b < C.w.heap.size := by
     unfold World.shape? at h
     cases hg : C.w.heap[b]? with
     | none => rw [hg] at h; simp at h
     | some o => exact (Array.getElem?_eq_some_iff.1 hg).1
    show World.shape? w' b = _
    unfold World.shape? at h ⊢
    rw [hb.block b hlt]; exact h, hb.os, hb.tape, hb.output⟩
 have hR' : Rel { C with w := w' } := ⟨fun b hlt => Nat.lt_of_lt_of_le (hR.fsz b hlt) hb.size, fun j => BR.mono hE' rfl (fun _ => rfl) (fun hl => hb.block _ (hR.lt hl).1) (hR.blk j), hR.inj, hR.glm hE'⟩
 exact ⟨v', C.μ, rfl, hE', hR', hv⟩
theorem mixedC : Try.prog.follows .mixedOrders = true := Checked.mixed Try.checked
set_option maxRecDepth 100000 in
set_option maxHeartbeats 1000000 in
theorem cloneB_nil (w : World) (c : Nat) :
  Calls Try.prog 19 #[.slice none 0 c] w fun e w' => (∃ b d, e = .returned (.slice b 0 d)) ∧ Below w.heap.size w w' := by
 go_enter Try.func19, Try.ntmps19
 go_wp2
 rw [Go.Lib.run_eql_slice_nil w 23 5 none 0 c 0 0 Try.underlying23]
 go_wp2
 go_ret
 exact ⟨⟨_, _, rfl⟩, Below.refl _ _⟩
set_option maxRecDepth 100000 in
set_option maxHeartbeats 1000000 in
theorem cloneB_empty (w : World) (a : Addr) (c : Nat) :
  Calls Try.prog 19 #[.slice (some a) 0 c] w fun e w' => (∃ b d, e = .returned (.slice b 0 d)) ∧ Below w.heap.size w w' := by
 go_enter Try.func19, Try.ntmps19
 go_wp2
 rw [Go.Lib.run_eql_slice_nil w 23 5 (some a) 0 c 0 0 Try.underlying23]
 go_wp2
 go_ret
 exact ⟨⟨_, _, rfl⟩, (Below.refl _ _).alloc (Nat.le_refl _) _⟩
def tabCB : List (Nat × SFun) := [(19, slices_Clone___byte_byte_)]
theorem laidCB : Laid Try.prog (Go.AI.look tabCB) := laid_cons ⟨_, _, Try.func19, x_slices_Clone___byte_byte_.2.1, by decide⟩ laid_nil
def cloneB : CallF := fun f base args H =>
 if f = n_slices_Clone___byte_byte_ then
  match args with
  | [.islc t fl s []] => some (.islc false false 1 [], H)
  | _ => acall (Go.AI.look tabCB) (fun _ _ => none) (fun _ _ _ _ => none) 3 f base args H
 else none
theorem cloneB_ok : FunOk Try.prog cloneB := by
 intro C f base args v H' vs hR h hargs
 unfold cloneB at h
 split at h
 ·rename_i hf
  subst hf
  split at h
  ·rename_i t fl s
   cases h
   obtain ⟨u, us, hu, h1, h2⟩ := hargs
   simp only [VRT] at h2
   subst h2
   simp only [VR] at h1
   obtain ⟨_, a, cap, rfl, _⟩ := h1
   have hvs : vs = #[.slice a 0 cap] := by
    apply Array.ext'
    simpa using hu
   subst hvs
   refine ⟨⟨Try.f19, Try.func19, rfl, by decide⟩, ?_⟩
   have fin : ∀ e w', (∃ b d, e = Ending.returned (.slice b 0 d)) ∧ Below C.w.heap.size C.w w' → Done C (.islc false false 1 []) C.H e w' := by
    rintro e w' ⟨⟨b, d, rfl⟩, hb⟩
    exact done_same hR hb (by simp [VR])
   cases a with
   | none => exact (cloneB_nil C.w cap).mono fun e w' h => fin e w' h
   | some a => exact (cloneB_empty C.w a cap).mono fun e w' h => fin e w' h
  ·exact acall_ok mixedC laidCB (fun _ _ _ _ _ _ h => by cases h) (fun _ _ _ _ _ _ _ _ h => by cases h) 3 C _ base args v H' vs hR h hargs
 ·cases h
set_option maxRecDepth 100000 in
set_option maxHeartbeats 1000000 in
theorem cloneI_nil (w : World) (c : Nat) :
  Calls Try.prog 62 #[.slice none 0 c] w fun e w' => (∃ b d, e = .returned (.slice b 0 d)) ∧ Below w.heap.size w w' := by
 go_enter Try.func62, Try.ntmps62
 go_wp2
 rw [Go.Lib.run_eql_slice_nil w 33 3 none 0 c 0 0 Try.underlying33]
 go_wp2
 go_ret
 exact ⟨⟨_, _, rfl⟩, Below.refl _ _⟩
set_option maxRecDepth 100000 in
set_option maxHeartbeats 1000000 in
theorem cloneI_empty (w : World) (a : Addr) (c : Nat) :
  Calls Try.prog 62 #[.slice (some a) 0 c] w fun e w' => (∃ b d, e = .returned (.slice b 0 d)) ∧ Below w.heap.size w w' := by
 go_enter Try.func62, Try.ntmps62
 go_wp2
 rw [Go.Lib.run_eql_slice_nil w 33 3 (some a) 0 c 0 0 Try.underlying33]
 go_wp2
 go_ret
 exact ⟨⟨_, _, rfl⟩, (Below.refl _ _).alloc (Nat.le_refl _) _⟩
def tabCI : List (Nat × SFun) := [(62, slices_Clone___int_int_)]
theorem laidCI : Laid Try.prog (Go.AI.look tabCI) := laid_cons ⟨_, _, Try.func62, x_slices_Clone___int_int_.2.1, by decide⟩ laid_nil
def cloneI : CallF := fun f base args H =>
 if f = n_slices_Clone___int_int_ then
  match args with
  | [.islc t fl s []] => some (.islc false false 1 [], H)
  | _ => acall (Go.AI.look tabCI) (fun _ _ => none) (fun _ _ _ _ => none) 3 f base args H
 else none
theorem cloneI_ok : FunOk Try.prog cloneI := by
 intro C f base args v H' vs hR h hargs
 unfold cloneI at h
 split at h
 ·rename_i hf
  subst hf
  split at h
  ·rename_i t fl s
   cases h
   obtain ⟨u, us, hu, h1, h2⟩ := hargs
   simp only [VRT] at h2
   subst h2
   simp only [VR] at h1
   obtain ⟨_, a, cap, rfl, _⟩ := h1
   have hvs : vs = #[.slice a 0 cap] := by
    apply Array.ext'
    simpa using hu
   subst hvs
   refine ⟨⟨Try.f62, Try.func62, rfl, by decide⟩, ?_⟩
   have fin : ∀ e w', (∃ b d, e = Ending.returned (.slice b 0 d)) ∧ Below C.w.heap.size C.w w' → Done C (.islc false false 1 []) C.H e w' := by
    rintro e w' ⟨⟨b, d, rfl⟩, hb⟩
    exact done_same hR hb (by simp [VR])
   cases a with
   | none => exact (cloneI_nil C.w cap).mono fun e w' h => fin e w' h
   | some a => exact (cloneI_empty C.w a cap).mono fun e w' h => fin e w' h
  ·exact acall_ok mixedC laidCI (fun _ _ _ _ _ _ h => by cases h) (fun _ _ _ _ _ _ _ _ h => by cases h) 3 C _ base args v H' vs hR h hargs
 ·cases h
set_option maxRecDepth 100000 in
set_option maxHeartbeats 1000000 in
theorem cloneR_nil (w : World) (c : Nat) :
  Calls Try.prog 59 #[.slice none 0 c] w fun e w' => (∃ b, e = .returned (.slice b 0 0)) ∧ Below w.heap.size w w' := by
 go_enter Try.func59, Try.ntmps59
 go_wp2
 rw [Go.Lib.run_eql_slice_nil w 54 61 none 0 c 0 0 Try.underlying54]
 go_wp2
 go_ret
 exact ⟨⟨_, rfl⟩, Below.refl _ _⟩
set_option maxRecDepth 100000 in
set_option maxHeartbeats 1000000 in
theorem cloneR_empty (w : World) (a : Addr) (c : Nat) :
  Calls Try.prog 59 #[.slice (some a) 0 c] w fun e w' => (∃ b, e = .returned (.slice b 0 0)) ∧ Below w.heap.size w w' := by
 go_enter Try.func59, Try.ntmps59
 go_wp2
 rw [Go.Lib.run_eql_slice_nil w 54 61 (some a) 0 c 0 0 Try.underlying54]
 go_wp2
 go_ret
 exact ⟨⟨_, rfl⟩, (Below.refl _ _).alloc (Nat.le_refl _) _⟩
def tabCR : List (Nat × SFun) := [(59, slices_Clone___api_Record_api_Record_)]
theorem laidCR : Laid Try.prog (Go.AI.look tabCR) := laid_cons ⟨_, _, Try.func59, x_slices_Clone___api_Record_api_Record_.2.1, by decide⟩ laid_nil
def cloneR : CallF := fun f base args H =>
 if f = n_slices_Clone___api_Record_api_Record_ then
  match args with
  | [.islc t fl s []] => some (.islc false true 8 [], H)
  | _ => acall (Go.AI.look tabCR) (fun _ _ => none) (fun _ _ _ _ => none) 3 f base args H
 else none
theorem cloneR_ok : FunOk Try.prog cloneR := by
 intro C f base args v H' vs hR h hargs
 unfold cloneR at h
 split at h
 ·rename_i hf
  subst hf
  split at h
  ·rename_i t fl s
   cases h
   obtain ⟨u, us, hu, h1, h2⟩ := hargs
   simp only [VRT] at h2
   subst h2
   simp only [VR] at h1
   obtain ⟨_, a, cap, rfl, _⟩ := h1
   have hvs : vs = #[.slice a 0 cap] := by
    apply Array.ext'
    simpa using hu
   subst hvs
   refine ⟨⟨Try.f59, Try.func59, rfl, by decide⟩, ?_⟩
   have fin : ∀ e w', (∃ b, e = Ending.returned (.slice b 0 0)) ∧ Below C.w.heap.size C.w w' → Done C (.islc false true 8 []) C.H e w' := by
    rintro e w' ⟨⟨b, rfl⟩, hb⟩
    exact done_same hR hb (by simp [VR])
   cases a with
   | none => exact (cloneR_nil C.w cap).mono fun e w' h => fin e w' h
   | some a => exact (cloneR_empty C.w a cap).mono fun e w' h => fin e w' h
  ·exact acall_ok mixedC laidCR (fun _ _ _ _ _ _ h => by cases h) (fun _ _ _ _ _ _ _ _ h => by cases h) 3 C _ base args v H' vs hR h hargs
 ·cases h
def cloneF : CallF := fun f base args H => if f = n_slices_Clone___byte_byte_ then cloneB f base args H else if f = n_slices_Clone___int_int_ then cloneI f base args H else cloneR f base args H
theorem cloneF_ok : FunOk Try.prog cloneF := by
 intro C f base args v H' vs hR h hargs
 unfold cloneF at h
 split at h
 ·exact cloneB_ok C f base args v H' vs hR h hargs
 split at h
 ·exact cloneI_ok C f base args v H' vs hR h hargs
 ·exact cloneR_ok C f base args v H' vs hR h hargs
def noX : ExtF := fun _ _ => none
abbrev CF (k : Nat) : CallF := acall B noX cloneF k
attribute [local irreducible] aops aexec acall aiter aop W WO
theorem cloneB_F (k : Nat) (hk : 0 < k) (t f : Bool) (es : List AV) (hl : es ≠ []) (hn : norefsL es = true) (hz : ∀ H, es.map (fz true deep H) = es) (hm : es.length < 1000000) : FnFG (CF k) n_slices_Clone___byte_byte_ [.islc t f 1 es] 1 es := by
 have hw : W (aexec (acall (Go.AI.look tabCB) (fun _ _ => none) (fun _ _ _ _ => none) 2) (fun _ _ => none) 0 2 slices_Clone___byte_byte_.code (tmps0 [.islc t f 1 es]) Heap.none) (fun ex T' H' => ex = .ret ∧ ∃ j gn, T' 2 = .slc j gn es.length 1 0 es.length .none ∧ H' j = ⟨gn, false, .row 1 es⟩) := by
  obtain ⟨c, l', rfl⟩ : ∃ c l', es = c :: l' := by
   cases es with
   | nil => exact absurd rfl hl
   | cons c l' => exact ⟨c, l', rfl⟩
  unfold slices_Clone___byte_byte_
  repeat' (first
   | refine q_s ?_ | refine q_z ?_ | refine q_b ?_ | refine wo_eqnilC rfl rfl rfl ?_ | refine wo_empty rfl rfl ?_ | refine wo_app0G rfl rfl hl hn (by omega) rfl rfl ?_ | refine q_mv ?_
   | refine q_nilrow ?_ | refine q_app fun _ => ?_)
  exact ⟨rfl, _, _, rfl, rfl⟩
 obtain ⟨ex, T', H', h1, rfl, j, gn, h6, h7⟩ := hw.out
 refine ⟨j, gn, H', ?_, h7, hn, hz H'⟩
 obtain ⟨k, rfl⟩ : ∃ m, k = m + 1 := ⟨k - 1, by omega⟩
 have e1 : CF (k + 1) n_slices_Clone___byte_byte_ 0 [.islc t f 1 es] Heap.none = cloneB n_slices_Clone___byte_byte_ 0 [.islc t f 1 es] Heap.none := by
  have hB : B n_slices_Clone___byte_byte_ = none := rfl
  simp only [CF, acall, hB]
  rfl
 rw [e1]
 obtain ⟨c, l', rfl⟩ : ∃ c l', es = c :: l' := by
  cases es with
  | nil => exact absurd rfl hl
  | cons c l' => exact ⟨c, l', rfl⟩
 show acall (Go.AI.look tabCB) (fun _ _ => none) (fun _ _ _ _ => none) (2 + 1) n_slices_Clone___byte_byte_ 0 _ Heap.none = _
 rw [acall_of (k := 2) (fn := slices_Clone___byte_byte_) rfl rfl h1 (.inr rfl)]
 show (Option.map _ (some (T' 2))) = _
 rw [h6]
 rfl
theorem cloneB_V (k : Nat) (hk : 0 < k) (t f : Bool) (es : List AV) (hn : norefsL es = true) (hz : ∀ n H, es.map (fz true (n + 1) H) = es) (hm : es.length < 1000000) : FnV (CF k) n_slices_Clone___byte_byte_ [.islc t f 1 es] (.islc false false 1 es) := by
 by_cases hl : es = []
 ·subst hl
  obtain ⟨k, rfl⟩ : ∃ m, k = m + 1 := ⟨k - 1, by omega⟩
  refine ⟨.islc false false 1 [], Heap.none, ?_, rfl⟩
  have hB : B n_slices_Clone___byte_byte_ = none := rfl
  simp only [CF, acall, hB]
  rfl
 ·obtain ⟨j, gn, Hc, h1, h2, _⟩ := cloneB_F k hk t f es hl hn (fun H => hz _ H) hm
  refine ⟨_, _, h1, ?_⟩
  show fz true (5 + 1) Hc _ = _
  rw [fz_slc (row_of h2 rfl) (by omega), List.drop_zero, List.take_length, hz]
  rfl
theorem cloneI_F (k : Nat) (hk : 0 < k) (t f : Bool) (es : List AV) (hl : es ≠ []) (hn : norefsL es = true) (hz : ∀ H, es.map (fz true deep H) = es) (hm : es.length < 1000000) : FnFG (CF k) n_slices_Clone___int_int_ [.islc t f 1 es] 1 es := by
 have hw : W (aexec (acall (Go.AI.look tabCI) (fun _ _ => none) (fun _ _ _ _ => none) 2) (fun _ _ => none) 0 2 slices_Clone___int_int_.code (tmps0 [.islc t f 1 es]) Heap.none) (fun ex T' H' => ex = .ret ∧ ∃ j gn, T' 2 = .slc j gn es.length 1 0 es.length .none ∧ H' j = ⟨gn, false, .row 1 es⟩) := by
  obtain ⟨c, l', rfl⟩ : ∃ c l', es = c :: l' := by
   cases es with
   | nil => exact absurd rfl hl
   | cons c l' => exact ⟨c, l', rfl⟩
  unfold slices_Clone___int_int_
  repeat' (first
   | refine q_s ?_ | refine q_z ?_ | refine q_b ?_ | refine wo_eqnilC rfl rfl rfl ?_ | refine wo_empty rfl rfl ?_ | refine wo_app0G rfl rfl hl hn (by omega) rfl rfl ?_ | refine q_mv ?_
   | refine q_nilrow ?_ | refine q_app fun _ => ?_)
  exact ⟨rfl, _, _, rfl, rfl⟩
 obtain ⟨ex, T', H', h1, rfl, j, gn, h6, h7⟩ := hw.out
 refine ⟨j, gn, H', ?_, h7, hn, hz H'⟩
 obtain ⟨k, rfl⟩ : ∃ m, k = m + 1 := ⟨k - 1, by omega⟩
 have e1 : CF (k + 1) n_slices_Clone___int_int_ 0 [.islc t f 1 es] Heap.none = cloneI n_slices_Clone___int_int_ 0 [.islc t f 1 es] Heap.none := by
  have hB : B n_slices_Clone___int_int_ = none := rfl
  simp only [CF, acall, hB]
  rfl
 rw [e1]
 obtain ⟨c, l', rfl⟩ : ∃ c l', es = c :: l' := by
  cases es with
  | nil => exact absurd rfl hl
  | cons c l' => exact ⟨c, l', rfl⟩
 show acall (Go.AI.look tabCI) (fun _ _ => none) (fun _ _ _ _ => none) (2 + 1) n_slices_Clone___int_int_ 0 _ Heap.none = _
 rw [acall_of (k := 2) (fn := slices_Clone___int_int_) rfl rfl h1 (.inr rfl)]
 show (Option.map _ (some (T' 2))) = _
 rw [h6]
 rfl
theorem cloneI_V (k : Nat) (hk : 0 < k) (t f : Bool) (es : List AV) (hn : norefsL es = true) (hz : ∀ n H, es.map (fz true (n + 1) H) = es) (hm : es.length < 1000000) : FnV (CF k) n_slices_Clone___int_int_ [.islc t f 1 es] (.islc false false 1 es) := by
 by_cases hl : es = []
 ·subst hl
  obtain ⟨k, rfl⟩ : ∃ m, k = m + 1 := ⟨k - 1, by omega⟩
  refine ⟨.islc false false 1 [], Heap.none, ?_, rfl⟩
  have hB : B n_slices_Clone___int_int_ = none := rfl
  simp only [CF, acall, hB]
  rfl
 ·obtain ⟨j, gn, Hc, h1, h2, _⟩ := cloneI_F k hk t f es hl hn (fun H => hz _ H) hm
  refine ⟨_, _, h1, ?_⟩
  show fz true (5 + 1) Hc _ = _
  rw [fz_slc (row_of h2 rfl) (by omega), List.drop_zero, List.take_length, hz]
  rfl
theorem cloneR_F (k : Nat) (hk : 0 < k) (t f : Bool) (es : List AV) (hl : es ≠ []) (hn : norefsL es = true) (hz : ∀ H, es.map (fz true deep H) = es) (hm : es.length < 1000000) : FnFG (CF k) n_slices_Clone___api_Record_api_Record_ [.islc t f 8 es] 8 es := by
 have hw : W (aexec (acall (Go.AI.look tabCR) (fun _ _ => none) (fun _ _ _ _ => none) 2) (fun _ _ => none) 0 2 slices_Clone___api_Record_api_Record_.code (tmps0 [.islc t f 8 es]) Heap.none) (fun ex T' H' => ex = .ret ∧ ∃ j gn, T' 2 = .slc j gn es.length 8 0 es.length .none ∧ H' j = ⟨gn, false, .row 8 es⟩) := by
  obtain ⟨c, l', rfl⟩ : ∃ c l', es = c :: l' := by
   cases es with
   | nil => exact absurd rfl hl
   | cons c l' => exact ⟨c, l', rfl⟩
  unfold slices_Clone___api_Record_api_Record_
  repeat' (first
   | refine q_s ?_ | refine q_z ?_ | refine q_b ?_ | refine wo_eqnilC rfl rfl rfl ?_ | refine wo_empty rfl rfl ?_ | refine wo_app0G rfl rfl hl hn (by omega) rfl rfl ?_ | refine q_mv ?_
   | refine q_nilrow ?_ | refine q_app fun _ => ?_)
  exact ⟨rfl, _, _, rfl, rfl⟩
 obtain ⟨ex, T', H', h1, rfl, j, gn, h6, h7⟩ := hw.out
 refine ⟨j, gn, H', ?_, h7, hn, hz H'⟩
 obtain ⟨k, rfl⟩ : ∃ m, k = m + 1 := ⟨k - 1, by omega⟩
 have e1 : CF (k + 1) n_slices_Clone___api_Record_api_Record_ 0 [.islc t f 8 es] Heap.none = cloneR n_slices_Clone___api_Record_api_Record_ 0 [.islc t f 8 es] Heap.none := by
  have hB : B n_slices_Clone___api_Record_api_Record_ = none := rfl
  simp only [CF, acall, hB]
  rfl
 rw [e1]
 obtain ⟨c, l', rfl⟩ : ∃ c l', es = c :: l' := by
  cases es with
  | nil => exact absurd rfl hl
  | cons c l' => exact ⟨c, l', rfl⟩
 show acall (Go.AI.look tabCR) (fun _ _ => none) (fun _ _ _ _ => none) (2 + 1) n_slices_Clone___api_Record_api_Record_ 0 _ Heap.none = _
 rw [acall_of (k := 2) (fn := slices_Clone___api_Record_api_Record_) rfl rfl h1 (.inr rfl)]
 show (Option.map _ (some (T' 2))) = _
 rw [h6]
 rfl
end Go.Proofs.Ytkaiiopoilpjeaa

