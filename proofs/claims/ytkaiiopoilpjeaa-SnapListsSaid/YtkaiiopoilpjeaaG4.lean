import Derived.Test.YtkaiiopoilpjeaaRows
import Derived.Test.YtkaiiopoilpjeaaT
import Derived.Test.YtkaiiopoilpjeaaMC
import Derived.WalkKit
import Derived.WalkSpells
import Derived.WalkLawsBesides
set_option linter.unusedSimpArgs false
set_option linter.unusedVariables false
set_option maxRecDepth 100000
namespace Go.Proofs.Ytkaiiopoilpjeaa
open Go.AI
open Go.RowKit
theorem bC {C : Ctx} {w' : World} {v : AV} {v' : Value} (hR : Rel C) (hb : Below C.w.heap.size C.w w') (hv : VR { C with w := w' } true true v v') : Done C v C.H (.returned v') w' := by
 have hE' : Evo C { C with w := w' } :=
  ⟨rfl, hb.size, fun b hlt _ => hb.block b hlt, fun b h => .inl h, fun _ _ _ h => h, fun _ _ _ _ es' _ h => ⟨⟨es', h⟩, fun _ => rfl⟩, fun _ _ es' _ h => ⟨⟨es', h⟩, rfl⟩,
   fun b e n h => by
    have hlt : b < C.w.heap.size := by
     unfold World.shape? at h
     cases hg : C.w.heap[b]? with
     | none => rw [hg] at h; simp at h
     | some o => exact (Fe.1 hg).1
    show World.shape? w' b = _
    unfold World.shape? at h ⊢
    rw [hb.block b hlt]; exact h, hb.os, hb.tape, hb.output⟩
 have hR' : Rel { C with w := w' } := ⟨fun b hlt => Iw (hR.fsz b hlt) hb.size, fun j => BR.mono hE' rfl (fun _ => rfl) (fun hl => hb.block _ (hR.lt hl).1) (hR.blk j), hR.inj, hR.glm hE'⟩
 exact ⟨v', C.μ, rfl, hE', hR', hv⟩
theorem tC : Try.prog.follows .mixedOrders = true := Checked.mixed Try.checked
set_option maxRecDepth 100000 in
set_option maxHeartbeats 1000000 in
theorem vR (w : World) (c : Nat) :
  Calls Try.prog 19 #[.slice none 0 c] w fun e w' => (∃ b d, e = .returned (.slice b 0 d)) ∧ Below w.heap.size w w' := by
 go_enter Try.func19, Try.ntmps19
 go_wp2
 rw [Go.Lib.run_eql_slice_nil w 23 5 none 0 c 0 0 Try.underlying23]
 go_wp2
 go_ret
 exact ⟨⟨_, _, rfl⟩, Below.refl _ _⟩
set_option maxRecDepth 100000 in
set_option maxHeartbeats 1000000 in
theorem oU (w : World) (a : Addr) (c : Nat) :
  Calls Try.prog 19 #[.slice (some a) 0 c] w fun e w' => (∃ b d, e = .returned (.slice b 0 d)) ∧ Below w.heap.size w w' := by
 go_enter Try.func19, Try.ntmps19
 go_wp2
 rw [Go.Lib.run_eql_slice_nil w 23 5 (some a) 0 c 0 0 Try.underlying23]
 go_wp2
 go_ret
 exact ⟨⟨_, _, rfl⟩, (Below.refl _ _).alloc (Ao _) _⟩
def wR : List (Nat × SFun) := [(19, slices_Clone___byte_byte_)]
theorem Age : Laid Try.prog (Go.AI.look wR) := An ⟨_, _, Try.func19, x_slices_Clone___byte_byte_.2.1, by decide⟩ Yv
def nT : Cx := fun f base args H =>
 if f = Ci then
  match args with
  | [.islc t fl s []] => some (.islc false false 1 [], H)
  | _ => Cj (Go.AI.look wR) (fun _ _ => none) (fun _ _ _ _ => none) 3 f base args H
 else none
theorem yE : Pn Try.prog nT := by
 intro C f base args v H' vs hR h hargs
 unfold nT at h
 split at h
 ·rename_i hf
  subst hf
  split at h
  ·rename_i t fl s
   cases h
   obtain ⟨u, us, hu, h1, h2⟩ := hargs
   simp only [VRT] at h2
   subst h2
   simp only [VR] at h1
   obtain ⟨_, a, cap, rfl, _⟩ := h1
   have hvs : vs = #[.slice a 0 cap] := by
    apply Jp
    simpa using hu
   subst hvs
   refine ⟨⟨Try.f19, Try.func19, rfl, by decide⟩, ?_⟩
   have fin : ∀ e w', (∃ b d, e = Ending.returned (.slice b 0 d)) ∧ Below C.w.heap.size C.w w' → Done C (.islc false false 1 []) C.H e w' := by
    rintro e w' ⟨⟨b, d, rfl⟩, hb⟩
    exact bC hR hb (by simp [VR])
   cases a with
   | none => exact (vR C.w cap).mono fun e w' h => fin e w' h
   | some a => exact (oU C.w a cap).mono fun e w' h => fin e w' h
  ·exact Up tC Age (fun _ _ _ _ _ _ h => by cases h) (fun _ _ _ _ _ _ _ _ h => by cases h) 3 C _ base args v H' vs hR h hargs
 ·cases h
set_option maxRecDepth 100000 in
set_option maxHeartbeats 1000000 in
theorem vM (w : World) (c : Nat) :
  Calls Try.prog 62 #[.slice none 0 c] w fun e w' => (∃ b d, e = .returned (.slice b 0 d)) ∧ Below w.heap.size w w' := by
 go_enter Try.func62, Try.ntmps62
 go_wp2
 rw [Go.Lib.run_eql_slice_nil w 33 3 none 0 c 0 0 Try.underlying33]
 go_wp2
 go_ret
 exact ⟨⟨_, _, rfl⟩, Below.refl _ _⟩
set_option maxRecDepth 100000 in
set_option maxHeartbeats 1000000 in
theorem oO (w : World) (a : Addr) (c : Nat) :
  Calls Try.prog 62 #[.slice (some a) 0 c] w fun e w' => (∃ b d, e = .returned (.slice b 0 d)) ∧ Below w.heap.size w w' := by
 go_enter Try.func62, Try.ntmps62
 go_wp2
 rw [Go.Lib.run_eql_slice_nil w 33 3 (some a) 0 c 0 0 Try.underlying33]
 go_wp2
 go_ret
 exact ⟨⟨_, _, rfl⟩, (Below.refl _ _).alloc (Ao _) _⟩
def xD : List (Nat × SFun) := [(62, slices_Clone___int_int_)]
theorem Ahe : Laid Try.prog (Go.AI.look xD) := An ⟨_, _, Try.func62, x_slices_Clone___int_int_.2.1, by decide⟩ Yv
def nA : Cx := fun f base args H =>
 if f = Co then
  match args with
  | [.islc t fl s []] => some (.islc false false 1 [], H)
  | _ => Cj (Go.AI.look xD) (fun _ _ => none) (fun _ _ _ _ => none) 3 f base args H
 else none
theorem yG : Pn Try.prog nA := by
 intro C f base args v H' vs hR h hargs
 unfold nA at h
 split at h
 ·rename_i hf
  subst hf
  split at h
  ·rename_i t fl s
   cases h
   obtain ⟨u, us, hu, h1, h2⟩ := hargs
   simp only [VRT] at h2
   subst h2
   simp only [VR] at h1
   obtain ⟨_, a, cap, rfl, _⟩ := h1
   have hvs : vs = #[.slice a 0 cap] := by
    apply Jp
    simpa using hu
   subst hvs
   refine ⟨⟨Try.f62, Try.func62, rfl, by decide⟩, ?_⟩
   have fin : ∀ e w', (∃ b d, e = Ending.returned (.slice b 0 d)) ∧ Below C.w.heap.size C.w w' → Done C (.islc false false 1 []) C.H e w' := by
    rintro e w' ⟨⟨b, d, rfl⟩, hb⟩
    exact bC hR hb (by simp [VR])
   cases a with
   | none => exact (vM C.w cap).mono fun e w' h => fin e w' h
   | some a => exact (oO C.w a cap).mono fun e w' h => fin e w' h
  ·exact Up tC Ahe (fun _ _ _ _ _ _ h => by cases h) (fun _ _ _ _ _ _ _ _ h => by cases h) 3 C _ base args v H' vs hR h hargs
 ·cases h
set_option maxRecDepth 100000 in
set_option maxHeartbeats 1000000 in
theorem vL (w : World) (c : Nat) :
  Calls Try.prog 59 #[.slice none 0 c] w fun e w' => (∃ b, e = .returned (.slice b 0 0)) ∧ Below w.heap.size w w' := by
 go_enter Try.func59, Try.ntmps59
 go_wp2
 rw [Go.Lib.run_eql_slice_nil w 54 61 none 0 c 0 0 Try.underlying54]
 go_wp2
 go_ret
 exact ⟨⟨_, rfl⟩, Below.refl _ _⟩
set_option maxRecDepth 100000 in
set_option maxHeartbeats 1000000 in
theorem pF (w : World) (a : Addr) (c : Nat) :
  Calls Try.prog 59 #[.slice (some a) 0 c] w fun e w' => (∃ b, e = .returned (.slice b 0 0)) ∧ Below w.heap.size w w' := by
 go_enter Try.func59, Try.ntmps59
 go_wp2
 rw [Go.Lib.run_eql_slice_nil w 54 61 (some a) 0 c 0 0 Try.underlying54]
 go_wp2
 go_ret
 exact ⟨⟨_, rfl⟩, (Below.refl _ _).alloc (Ao _) _⟩
def wZ : List (Nat × SFun) := [(59, slices_Clone___api_Record_api_Record_)]
theorem Agk : Laid Try.prog (Go.AI.look wZ) := An ⟨_, _, Try.func59, x_slices_Clone___api_Record_api_Record_.2.1, by decide⟩ Yv
def nH : Cx := fun f base args H =>
 if f = Bl then
  match args with
  | [.islc t fl s []] => some (.islc false true 8 [], H)
  | _ => Cj (Go.AI.look wZ) (fun _ _ => none) (fun _ _ _ _ => none) 3 f base args H
 else none
theorem zM : Pn Try.prog nH := by
 intro C f base args v H' vs hR h hargs
 unfold nH at h
 split at h
 ·rename_i hf
  subst hf
  split at h
  ·rename_i t fl s
   cases h
   obtain ⟨u, us, hu, h1, h2⟩ := hargs
   simp only [VRT] at h2
   subst h2
   simp only [VR] at h1
   obtain ⟨_, a, cap, rfl, _⟩ := h1
   have hvs : vs = #[.slice a 0 cap] := by
    apply Jp
    simpa using hu
   subst hvs
   refine ⟨⟨Try.f59, Try.func59, rfl, by decide⟩, ?_⟩
   have fin : ∀ e w', (∃ b, e = Ending.returned (.slice b 0 0)) ∧ Below C.w.heap.size C.w w' → Done C (.islc false true 8 []) C.H e w' := by
    rintro e w' ⟨⟨b, rfl⟩, hb⟩
    exact bC hR hb (by simp [VR])
   cases a with
   | none => exact (vL C.w cap).mono fun e w' h => fin e w' h
   | some a => exact (pF C.w a cap).mono fun e w' h => fin e w' h
  ·exact Up tC Agk (fun _ _ _ _ _ _ h => by cases h) (fun _ _ _ _ _ _ _ _ h => by cases h) 3 C _ base args v H' vs hR h hargs
 ·cases h
def oX : Cx := fun f base args H => if f = Ci then nT f base args H else if f = Co then nA f base args H else nH f base args H
theorem yR : Pn Try.prog oX := by
 intro C f base args v H' vs hR h hargs
 unfold oX at h
 split at h
 ·exact yE C f base args v H' vs hR h hargs
 split at h
 ·exact yG C f base args v H' vs hR h hargs
 ·exact zM C f base args v H' vs hR h hargs
def noX : ExtF := fun _ _ => none
abbrev CF (k : Nat) : Cx := Cj B noX oX k
attribute [local irreducible] aops Bb Cj Dm aop W WO
theorem rP (k : Nat) (hk : 0 < k) (t f : Bool) (es : List AV) (hl : es ≠ []) (hn : Bq es = true) (hz : ∀ H, es.map (fz true deep H) = es) (hm : es.length < 1000000) : FnFG (CF k) Ci [.islc t f 1 es] 1 es := by
 have hw : W (Bb (Cj (Go.AI.look wR) (fun _ _ => none) (fun _ _ _ _ => none) 2) (fun _ _ => none) 0 2 slices_Clone___byte_byte_.code (Qw [.islc t f 1 es]) Heap.none) (fun ex T' H' => ex = .ret ∧ ∃ j gn, T' 2 = .slc j gn es.length 1 0 es.length .none ∧ H' j = ⟨gn, false, .row 1 es⟩) := by
  obtain ⟨c, l', rfl⟩ : ∃ c l', es = c :: l' := by
   cases es with
   | nil => exact absurd rfl hl
   | cons c l' => exact ⟨c, l', rfl⟩
  unfold slices_Clone___byte_byte_
  repeat' (first
   | refine q_s ?_ | refine q_z ?_ | refine q_b ?_ | refine aW rfl rfl rfl ?_ | refine Qr rfl rfl ?_ | refine gV rfl rfl hl hn (by omega) rfl rfl ?_ | refine q_mv ?_
   | refine Qv ?_ | refine Ax fun _ => ?_)
  exact ⟨rfl, _, _, rfl, rfl⟩
 obtain ⟨ex, T', H', h1, rfl, j, gn, h6, h7⟩ := hw.out
 refine ⟨j, gn, H', ?_, h7, hn, hz H'⟩
 obtain ⟨k, rfl⟩ : ∃ m, k = m + 1 := ⟨k - 1, by omega⟩
 have e1 : CF (k + 1) Ci 0 [.islc t f 1 es] Heap.none = nT Ci 0 [.islc t f 1 es] Heap.none := by
  have hB : B Ci = none := rfl
  simp only [CF, Cj, hB]
  rfl
 rw [e1]
 obtain ⟨c, l', rfl⟩ : ∃ c l', es = c :: l' := by
  cases es with
  | nil => exact absurd rfl hl
  | cons c l' => exact ⟨c, l', rfl⟩
 show Cj (Go.AI.look wR) (fun _ _ => none) (fun _ _ _ _ => none) (2 + 1) Ci 0 _ Heap.none = _
 rw [Tl (k := 2) (fn := slices_Clone___byte_byte_) rfl rfl h1 (.inr rfl)]
 show (Option.map _ (some (T' 2))) = _
 rw [h6]
 rfl
theorem Acf (k : Nat) (hk : 0 < k) (t f : Bool) (es : List AV) (hn : Bq es = true) (hz : ∀ n H, es.map (fz true (n + 1) H) = es) (hm : es.length < 1000000) : FnV (CF k) Ci [.islc t f 1 es] (.islc false false 1 es) := by
 by_cases hl : es = []
 ·subst hl
  obtain ⟨k, rfl⟩ : ∃ m, k = m + 1 := ⟨k - 1, by omega⟩
  refine ⟨.islc false false 1 [], Heap.none, ?_, rfl⟩
  have hB : B Ci = none := rfl
  simp only [CF, Cj, hB]
  rfl
 ·obtain ⟨j, gn, Hc, h1, h2, _⟩ := rP k hk t f es hl hn (fun H => hz _ H) hm
  refine ⟨_, _, h1, ?_⟩
  show fz true (5 + 1) Hc _ = _
  rw [Ph (Ek h2 rfl) (by omega), Cc, Bp, hz]
  rfl
theorem Abb (k : Nat) (hk : 0 < k) (t f : Bool) (es : List AV) (hl : es ≠ []) (hn : Bq es = true) (hz : ∀ H, es.map (fz true deep H) = es) (hm : es.length < 1000000) : FnFG (CF k) Co [.islc t f 1 es] 1 es := by
 have hw : W (Bb (Cj (Go.AI.look xD) (fun _ _ => none) (fun _ _ _ _ => none) 2) (fun _ _ => none) 0 2 slices_Clone___int_int_.code (Qw [.islc t f 1 es]) Heap.none) (fun ex T' H' => ex = .ret ∧ ∃ j gn, T' 2 = .slc j gn es.length 1 0 es.length .none ∧ H' j = ⟨gn, false, .row 1 es⟩) := by
  obtain ⟨c, l', rfl⟩ : ∃ c l', es = c :: l' := by
   cases es with
   | nil => exact absurd rfl hl
   | cons c l' => exact ⟨c, l', rfl⟩
  unfold slices_Clone___int_int_
  repeat' (first
   | refine q_s ?_ | refine q_z ?_ | refine q_b ?_ | refine aW rfl rfl rfl ?_ | refine Qr rfl rfl ?_ | refine gV rfl rfl hl hn (by omega) rfl rfl ?_ | refine q_mv ?_
   | refine Qv ?_ | refine Ax fun _ => ?_)
  exact ⟨rfl, _, _, rfl, rfl⟩
 obtain ⟨ex, T', H', h1, rfl, j, gn, h6, h7⟩ := hw.out
 refine ⟨j, gn, H', ?_, h7, hn, hz H'⟩
 obtain ⟨k, rfl⟩ : ∃ m, k = m + 1 := ⟨k - 1, by omega⟩
 have e1 : CF (k + 1) Co 0 [.islc t f 1 es] Heap.none = nA Co 0 [.islc t f 1 es] Heap.none := by
  have hB : B Co = none := rfl
  simp only [CF, Cj, hB]
  rfl
 rw [e1]
 obtain ⟨c, l', rfl⟩ : ∃ c l', es = c :: l' := by
  cases es with
  | nil => exact absurd rfl hl
  | cons c l' => exact ⟨c, l', rfl⟩
 show Cj (Go.AI.look xD) (fun _ _ => none) (fun _ _ _ _ => none) (2 + 1) Co 0 _ Heap.none = _
 rw [Tl (k := 2) (fn := slices_Clone___int_int_) rfl rfl h1 (.inr rfl)]
 show (Option.map _ (some (T' 2))) = _
 rw [h6]
 rfl
theorem Ads (k : Nat) (hk : 0 < k) (t f : Bool) (es : List AV) (hn : Bq es = true) (hz : ∀ n H, es.map (fz true (n + 1) H) = es) (hm : es.length < 1000000) : FnV (CF k) Co [.islc t f 1 es] (.islc false false 1 es) := by
 by_cases hl : es = []
 ·subst hl
  obtain ⟨k, rfl⟩ : ∃ m, k = m + 1 := ⟨k - 1, by omega⟩
  refine ⟨.islc false false 1 [], Heap.none, ?_, rfl⟩
  have hB : B Co = none := rfl
  simp only [CF, Cj, hB]
  rfl
 ·obtain ⟨j, gn, Hc, h1, h2, _⟩ := Abb k hk t f es hl hn (fun H => hz _ H) hm
  refine ⟨_, _, h1, ?_⟩
  show fz true (5 + 1) Hc _ = _
  rw [Ph (Ek h2 rfl) (by omega), Cc, Bp, hz]
  rfl
theorem Ack (k : Nat) (hk : 0 < k) (t f : Bool) (es : List AV) (hl : es ≠ []) (hn : Bq es = true) (hz : ∀ H, es.map (fz true deep H) = es) (hm : es.length < 1000000) : FnFG (CF k) Bl [.islc t f 8 es] 8 es := by
 have hw : W (Bb (Cj (Go.AI.look wZ) (fun _ _ => none) (fun _ _ _ _ => none) 2) (fun _ _ => none) 0 2 slices_Clone___api_Record_api_Record_.code (Qw [.islc t f 8 es]) Heap.none) (fun ex T' H' => ex = .ret ∧ ∃ j gn, T' 2 = .slc j gn es.length 8 0 es.length .none ∧ H' j = ⟨gn, false, .row 8 es⟩) := by
  obtain ⟨c, l', rfl⟩ : ∃ c l', es = c :: l' := by
   cases es with
   | nil => exact absurd rfl hl
   | cons c l' => exact ⟨c, l', rfl⟩
  unfold slices_Clone___api_Record_api_Record_
  repeat' (first
   | refine q_s ?_ | refine q_z ?_ | refine q_b ?_ | refine aW rfl rfl rfl ?_ | refine Qr rfl rfl ?_ | refine gV rfl rfl hl hn (by omega) rfl rfl ?_ | refine q_mv ?_
   | refine Qv ?_ | refine Ax fun _ => ?_)
  exact ⟨rfl, _, _, rfl, rfl⟩
 obtain ⟨ex, T', H', h1, rfl, j, gn, h6, h7⟩ := hw.out
 refine ⟨j, gn, H', ?_, h7, hn, hz H'⟩
 obtain ⟨k, rfl⟩ : ∃ m, k = m + 1 := ⟨k - 1, by omega⟩
 have e1 : CF (k + 1) Bl 0 [.islc t f 8 es] Heap.none = nH Bl 0 [.islc t f 8 es] Heap.none := by
  have hB : B Bl = none := rfl
  simp only [CF, Cj, hB]
  rfl
 rw [e1]
 obtain ⟨c, l', rfl⟩ : ∃ c l', es = c :: l' := by
  cases es with
  | nil => exact absurd rfl hl
  | cons c l' => exact ⟨c, l', rfl⟩
 show Cj (Go.AI.look wZ) (fun _ _ => none) (fun _ _ _ _ => none) (2 + 1) Bl 0 _ Heap.none = _
 rw [Tl (k := 2) (fn := slices_Clone___api_Record_api_Record_) rfl rfl h1 (.inr rfl)]
 show (Option.map _ (some (T' 2))) = _
 rw [h6]
 rfl
end Go.Proofs.Ytkaiiopoilpjeaa

