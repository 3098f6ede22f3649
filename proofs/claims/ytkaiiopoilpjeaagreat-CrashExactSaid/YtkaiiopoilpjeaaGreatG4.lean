import Derived.Test.YtkaiiopoilpjeaaGreatRows
import Derived.Test.YtkaiiopoilpjeaaGreatT
import Derived.Test.YtkaiiopoilpjeaaGreatMC
import Derived.WalkKit
import Derived.WalkSpells
import Derived.WalkLawsBesides
set_option linter.unusedSimpArgs false
set_option linter.unusedVariables false
set_option maxRecDepth 100000
namespace Go.Proofs.YtkaiiopoilpjeaaGreat
open Go.AI
open Go.RowKit
theorem jL {C : Ctx} {w' : World} {v : AV} {v' : Value} (hR : Rel C) (hb : Below C.w.heap.size C.w w') (hv : VR { C with w := w' } true true v v') : Done C v C.H (.returned v') w' := by
 have hE' : Evo C { C with w := w' } :=
  ⟨rfl, hb.size, fun b hlt _ => hb.block b hlt, fun b h => .inl h, fun _ _ _ h => h, fun _ _ _ _ es' _ h => ⟨⟨es', h⟩, fun _ => rfl⟩, fun _ _ es' _ h => ⟨⟨es', h⟩, rfl⟩,
   fun b e n h => by
    have hlt : b < C.w.heap.size := by
     unfold World.shape? at h
     cases hg : C.w.heap[b]? with
     | none => rw [hg] at h; simp at h
     | some o => exact (Fl.1 hg).1
    show World.shape? w' b = _
    unfold World.shape? at h ⊢
    rw [hb.block b hlt]; exact h, hb.os, hb.tape, hb.output⟩
 have hR' : Rel { C with w := w' } := ⟨fun b hlt => Lu (hR.fsz b hlt) hb.size, fun j => BR.mono hE' rfl (fun _ => rfl) (fun hl => hb.block _ (hR.lt hl).1) (hR.blk j), hR.inj, hR.glm hE'⟩
 exact ⟨v', C.μ, rfl, hE', hR', hv⟩
theorem Agn : Tryz.prog.follows .mixedOrders = true := Checked.mixed Tryz.checked
set_option maxRecDepth 100000 in
set_option maxHeartbeats 1000000 in
theorem Agu (w : World) (c : Nat) :
  Calls Tryz.prog 70 #[.slice none 0 c] w fun e w' => (∃ b d, e = .returned (.slice b 0 d)) ∧ Below w.heap.size w w' := by
 go_enter Tryz.func70, Tryz.ntmps70
 go_wp2
 rw [Go.Lib.run_eql_slice_nil w 22 5 none 0 c 0 0 Tryz.underlying22]
 go_wp2
 go_ret
 exact ⟨⟨_, _, rfl⟩, Below.refl _ _⟩
set_option maxRecDepth 100000 in
set_option maxHeartbeats 1000000 in
theorem Aaz (w : World) (a : Addr) (c : Nat) :
  Calls Tryz.prog 70 #[.slice (some a) 0 c] w fun e w' => (∃ b d, e = .returned (.slice b 0 d)) ∧ Below w.heap.size w w' := by
 go_enter Tryz.func70, Tryz.ntmps70
 go_wp2
 rw [Go.Lib.run_eql_slice_nil w 22 5 (some a) 0 c 0 0 Tryz.underlying22]
 go_wp2
 go_ret
 exact ⟨⟨_, _, rfl⟩, (Below.refl _ _).alloc (Au _) _⟩
def Aja : List (Nat × SFun) := [(70, slices_Clone___byte_byte_)]
theorem Awi : Laid Tryz.prog (Go.AI.look Aja) := Ak ⟨_, _, Tryz.func70, x_slices_Clone___byte_byte_.2.1, by decide⟩ gV
def zT : Dk := fun f base args H =>
 if f = Db then
  match args with
  | [.islc t fl s []] => some (.islc false false 1 [], H)
  | _ => Cp (Go.AI.look Aja) (fun _ _ => none) (fun _ _ _ _ => none) 3 f base args H
 else none
theorem Amz : Uv Tryz.prog zT := by
 intro C f base args v H' vs hR h hargs
 unfold zT at h
 split at h
 ·rename_i hf
  subst hf
  split at h
  ·rename_i t fl s
   cases h
   obtain ⟨u, us, hu, h1, h2⟩ := hargs
   simp only [VRT] at h2
   subst h2
   simp only [VR] at h1
   obtain ⟨_, a, cap, rfl, _⟩ := h1
   have hvs : vs = #[.slice a 0 cap] := by
    apply My
    simpa using hu
   subst hvs
   refine ⟨⟨Tryz.f70, Tryz.func70, rfl, by decide⟩, ?_⟩
   have fin : ∀ e w', (∃ b d, e = Ending.returned (.slice b 0 d)) ∧ Below C.w.heap.size C.w w' → Done C (.islc false false 1 []) C.H e w' := by
    rintro e w' ⟨⟨b, d, rfl⟩, hb⟩
    exact jL hR hb (by simp [VR])
   cases a with
   | none => exact (Agu C.w cap).mono fun e w' h => fin e w' h
   | some a => exact (Aaz C.w a cap).mono fun e w' h => fin e w' h
  ·exact aX Agn Awi (fun _ _ _ _ _ _ h => by cases h) (fun _ _ _ _ _ _ _ _ h => by cases h) 3 C _ base args v H' vs hR h hargs
 ·cases h
set_option maxRecDepth 100000 in
set_option maxHeartbeats 1000000 in
theorem Agx (w : World) (c : Nat) :
  Calls Tryz.prog 135 #[.slice none 0 c] w fun e w' => (∃ b d, e = .returned (.slice b 0 d)) ∧ Below w.heap.size w w' := by
 go_enter Tryz.func135, Tryz.ntmps135
 go_wp2
 rw [Go.Lib.run_eql_slice_nil w 29 3 none 0 c 0 0 Tryz.underlying29]
 go_wp2
 go_ret
 exact ⟨⟨_, _, rfl⟩, Below.refl _ _⟩
set_option maxRecDepth 100000 in
set_option maxHeartbeats 1000000 in
theorem yQ (w : World) (a : Addr) (c : Nat) :
  Calls Tryz.prog 135 #[.slice (some a) 0 c] w fun e w' => (∃ b d, e = .returned (.slice b 0 d)) ∧ Below w.heap.size w w' := by
 go_enter Tryz.func135, Tryz.ntmps135
 go_wp2
 rw [Go.Lib.run_eql_slice_nil w 29 3 (some a) 0 c 0 0 Tryz.underlying29]
 go_wp2
 go_ret
 exact ⟨⟨_, _, rfl⟩, (Below.refl _ _).alloc (Au _) _⟩
def Ajj : List (Nat × SFun) := [(135, slices_Clone___int_int_)]
theorem Avb : Laid Tryz.prog (Go.AI.look Ajj) := Ak ⟨_, _, Tryz.func135, x_slices_Clone___int_int_.2.1, by decide⟩ gV
def zS : Dk := fun f base args H =>
 if f = Di then
  match args with
  | [.islc t fl s []] => some (.islc false false 1 [], H)
  | _ => Cp (Go.AI.look Ajj) (fun _ _ => none) (fun _ _ _ _ => none) 3 f base args H
 else none
theorem Alf : Uv Tryz.prog zS := by
 intro C f base args v H' vs hR h hargs
 unfold zS at h
 split at h
 ·rename_i hf
  subst hf
  split at h
  ·rename_i t fl s
   cases h
   obtain ⟨u, us, hu, h1, h2⟩ := hargs
   simp only [VRT] at h2
   subst h2
   simp only [VR] at h1
   obtain ⟨_, a, cap, rfl, _⟩ := h1
   have hvs : vs = #[.slice a 0 cap] := by
    apply My
    simpa using hu
   subst hvs
   refine ⟨⟨Tryz.f135, Tryz.func135, rfl, by decide⟩, ?_⟩
   have fin : ∀ e w', (∃ b d, e = Ending.returned (.slice b 0 d)) ∧ Below C.w.heap.size C.w w' → Done C (.islc false false 1 []) C.H e w' := by
    rintro e w' ⟨⟨b, d, rfl⟩, hb⟩
    exact jL hR hb (by simp [VR])
   cases a with
   | none => exact (Agx C.w cap).mono fun e w' h => fin e w' h
   | some a => exact (yQ C.w a cap).mono fun e w' h => fin e w' h
  ·exact aX Agn Avb (fun _ _ _ _ _ _ h => by cases h) (fun _ _ _ _ _ _ _ _ h => by cases h) 3 C _ base args v H' vs hR h hargs
 ·cases h
set_option maxRecDepth 100000 in
set_option maxHeartbeats 1000000 in
theorem Ahw (w : World) (c : Nat) :
  Calls Tryz.prog 132 #[.slice none 0 c] w fun e w' => (∃ b, e = .returned (.slice b 0 0)) ∧ Below w.heap.size w w' := by
 go_enter Tryz.func132, Tryz.ntmps132
 go_wp2
 rw [Go.Lib.run_eql_slice_nil w 78 97 none 0 c 0 0 Tryz.underlying78]
 go_wp2
 go_ret
 exact ⟨⟨_, rfl⟩, Below.refl _ _⟩
set_option maxRecDepth 100000 in
set_option maxHeartbeats 1000000 in
theorem zN (w : World) (a : Addr) (c : Nat) :
  Calls Tryz.prog 132 #[.slice (some a) 0 c] w fun e w' => (∃ b, e = .returned (.slice b 0 0)) ∧ Below w.heap.size w w' := by
 go_enter Tryz.func132, Tryz.ntmps132
 go_wp2
 rw [Go.Lib.run_eql_slice_nil w 78 97 (some a) 0 c 0 0 Tryz.underlying78]
 go_wp2
 go_ret
 exact ⟨⟨_, rfl⟩, (Below.refl _ _).alloc (Au _) _⟩
def Ais : List (Nat × SFun) := [(132, slices_Clone___api_Record_api_Record_)]
theorem Avh : Laid Tryz.prog (Go.AI.look Ais) := Ak ⟨_, _, Tryz.func132, x_slices_Clone___api_Record_api_Record_.2.1, by decide⟩ gV
def yX : Dk := fun f base args H =>
 if f = Ci then
  match args with
  | [.islc t fl s []] => some (.islc false true 8 [], H)
  | _ => Cp (Go.AI.look Ais) (fun _ _ => none) (fun _ _ _ _ => none) 3 f base args H
 else none
theorem Aky : Uv Tryz.prog yX := by
 intro C f base args v H' vs hR h hargs
 unfold yX at h
 split at h
 ·rename_i hf
  subst hf
  split at h
  ·rename_i t fl s
   cases h
   obtain ⟨u, us, hu, h1, h2⟩ := hargs
   simp only [VRT] at h2
   subst h2
   simp only [VR] at h1
   obtain ⟨_, a, cap, rfl, _⟩ := h1
   have hvs : vs = #[.slice a 0 cap] := by
    apply My
    simpa using hu
   subst hvs
   refine ⟨⟨Tryz.f132, Tryz.func132, rfl, by decide⟩, ?_⟩
   have fin : ∀ e w', (∃ b, e = Ending.returned (.slice b 0 0)) ∧ Below C.w.heap.size C.w w' → Done C (.islc false true 8 []) C.H e w' := by
    rintro e w' ⟨⟨b, rfl⟩, hb⟩
    exact jL hR hb (by simp [VR])
   cases a with
   | none => exact (Ahw C.w cap).mono fun e w' h => fin e w' h
   | some a => exact (zN C.w a cap).mono fun e w' h => fin e w' h
  ·exact aX Agn Avh (fun _ _ _ _ _ _ h => by cases h) (fun _ _ _ _ _ _ _ _ h => by cases h) 3 C _ base args v H' vs hR h hargs
 ·cases h
def zW : Dk := fun f base args H => if f = Db then zT f base args H else if f = Di then zS f base args H else yX f base args H
theorem Amo : Uv Tryz.prog zW := by
 intro C f base args v H' vs hR h hargs
 unfold zW at h
 split at h
 ·exact Amz C f base args v H' vs hR h hargs
 split at h
 ·exact Alf C f base args v H' vs hR h hargs
 ·exact Aky C f base args v H' vs hR h hargs
def noX : ExtF := fun _ _ => none
abbrev CF (k : Nat) : Dk := Cp B noX zW k
attribute [local irreducible] aops Br Cp Dp aop W WO
theorem Aeg (k : Nat) (hk : 0 < k) (t f : Bool) (es : List AV) (hl : es ≠ []) (hn : Ca es = true) (hz : ∀ H, es.map (fz true deep H) = es) (hm : es.length < 1000000) : FnFG (CF k) Db [.islc t f 1 es] 1 es := by
 have hw : W (Br (Cp (Go.AI.look Aja) (fun _ _ => none) (fun _ _ _ _ => none) 2) (fun _ _ => none) 0 2 slices_Clone___byte_byte_.code (Wb [.islc t f 1 es]) Heap.none) (fun ex T' H' => ex = .ret ∧ ∃ j gn, T' 2 = .slc j gn es.length 1 0 es.length .none ∧ H' j = ⟨gn, false, .row 1 es⟩) := by
  obtain ⟨c, l', rfl⟩ : ∃ c l', es = c :: l' := by
   cases es with
   | nil => exact absurd rfl hl
   | cons c l' => exact ⟨c, l', rfl⟩
  unfold slices_Clone___byte_byte_
  repeat' (first
   | refine q_s ?_ | refine q_z ?_ | refine q_b ?_ | refine jB rfl rfl rfl ?_ | refine oY rfl rfl ?_ | refine oQ rfl rfl hl hn (by omega) rfl rfl ?_ | refine q_mv ?_
   | refine Wi ?_ | refine Bl fun _ => ?_)
  exact ⟨rfl, _, _, rfl, rfl⟩
 obtain ⟨ex, T', H', h1, rfl, j, gn, h6, h7⟩ := hw.out
 refine ⟨j, gn, H', ?_, h7, hn, hz H'⟩
 obtain ⟨k, rfl⟩ : ∃ m, k = m + 1 := ⟨k - 1, by omega⟩
 have e1 : CF (k + 1) Db 0 [.islc t f 1 es] Heap.none = zT Db 0 [.islc t f 1 es] Heap.none := by
  have hB : B Db = none := rfl
  simp only [CF, Cp, hB]
  rfl
 rw [e1]
 obtain ⟨c, l', rfl⟩ : ∃ c l', es = c :: l' := by
  cases es with
  | nil => exact absurd rfl hl
  | cons c l' => exact ⟨c, l', rfl⟩
 show Cp (Go.AI.look Aja) (fun _ _ => none) (fun _ _ _ _ => none) (2 + 1) Db 0 _ Heap.none = _
 rw [Ze (k := 2) (fn := slices_Clone___byte_byte_) rfl rfl h1 (.inr rfl)]
 show (Option.map _ (some (T' 2))) = _
 rw [h6]
 rfl
theorem Abg (k : Nat) (hk : 0 < k) (t f : Bool) (es : List AV) (hn : Ca es = true) (hz : ∀ n H, es.map (fz true (n + 1) H) = es) (hm : es.length < 1000000) : FnV (CF k) Db [.islc t f 1 es] (.islc false false 1 es) := by
 by_cases hl : es = []
 ·subst hl
  obtain ⟨k, rfl⟩ : ∃ m, k = m + 1 := ⟨k - 1, by omega⟩
  refine ⟨.islc false false 1 [], Heap.none, ?_, rfl⟩
  have hB : B Db = none := rfl
  simp only [CF, Cp, hB]
  rfl
 ·obtain ⟨j, gn, Hc, h1, h2, _⟩ := Aeg k hk t f es hl hn (fun H => hz _ H) hm
  refine ⟨_, _, h1, ?_⟩
  show fz true (5 + 1) Hc _ = _
  rw [Tf (Fv h2 rfl) (by omega), Cb, Ch, hz]
  rfl
theorem qP (k : Nat) (hk : 0 < k) (t f : Bool) (es : List AV) (hl : es ≠ []) (hn : Ca es = true) (hz : ∀ H, es.map (fz true deep H) = es) (hm : es.length < 1000000) : FnFG (CF k) Di [.islc t f 1 es] 1 es := by
 have hw : W (Br (Cp (Go.AI.look Ajj) (fun _ _ => none) (fun _ _ _ _ => none) 2) (fun _ _ => none) 0 2 slices_Clone___int_int_.code (Wb [.islc t f 1 es]) Heap.none) (fun ex T' H' => ex = .ret ∧ ∃ j gn, T' 2 = .slc j gn es.length 1 0 es.length .none ∧ H' j = ⟨gn, false, .row 1 es⟩) := by
  obtain ⟨c, l', rfl⟩ : ∃ c l', es = c :: l' := by
   cases es with
   | nil => exact absurd rfl hl
   | cons c l' => exact ⟨c, l', rfl⟩
  unfold slices_Clone___int_int_
  repeat' (first
   | refine q_s ?_ | refine q_z ?_ | refine q_b ?_ | refine jB rfl rfl rfl ?_ | refine oY rfl rfl ?_ | refine oQ rfl rfl hl hn (by omega) rfl rfl ?_ | refine q_mv ?_
   | refine Wi ?_ | refine Bl fun _ => ?_)
  exact ⟨rfl, _, _, rfl, rfl⟩
 obtain ⟨ex, T', H', h1, rfl, j, gn, h6, h7⟩ := hw.out
 refine ⟨j, gn, H', ?_, h7, hn, hz H'⟩
 obtain ⟨k, rfl⟩ : ∃ m, k = m + 1 := ⟨k - 1, by omega⟩
 have e1 : CF (k + 1) Di 0 [.islc t f 1 es] Heap.none = zS Di 0 [.islc t f 1 es] Heap.none := by
  have hB : B Di = none := rfl
  simp only [CF, Cp, hB]
  rfl
 rw [e1]
 obtain ⟨c, l', rfl⟩ : ∃ c l', es = c :: l' := by
  cases es with
  | nil => exact absurd rfl hl
  | cons c l' => exact ⟨c, l', rfl⟩
 show Cp (Go.AI.look Ajj) (fun _ _ => none) (fun _ _ _ _ => none) (2 + 1) Di 0 _ Heap.none = _
 rw [Ze (k := 2) (fn := slices_Clone___int_int_) rfl rfl h1 (.inr rfl)]
 show (Option.map _ (some (T' 2))) = _
 rw [h6]
 rfl
theorem fW (k : Nat) (hk : 0 < k) (t f : Bool) (es : List AV) (hn : Ca es = true) (hz : ∀ n H, es.map (fz true (n + 1) H) = es) (hm : es.length < 1000000) : FnV (CF k) Di [.islc t f 1 es] (.islc false false 1 es) := by
 by_cases hl : es = []
 ·subst hl
  obtain ⟨k, rfl⟩ : ∃ m, k = m + 1 := ⟨k - 1, by omega⟩
  refine ⟨.islc false false 1 [], Heap.none, ?_, rfl⟩
  have hB : B Di = none := rfl
  simp only [CF, Cp, hB]
  rfl
 ·obtain ⟨j, gn, Hc, h1, h2, _⟩ := qP k hk t f es hl hn (fun H => hz _ H) hm
  refine ⟨_, _, h1, ?_⟩
  show fz true (5 + 1) Hc _ = _
  rw [Tf (Fv h2 rfl) (by omega), Cb, Ch, hz]
  rfl
theorem Apd (k : Nat) (hk : 0 < k) (t f : Bool) (es : List AV) (hl : es ≠ []) (hn : Ca es = true) (hz : ∀ H, es.map (fz true deep H) = es) (hm : es.length < 1000000) : FnFG (CF k) Ci [.islc t f 8 es] 8 es := by
 have hw : W (Br (Cp (Go.AI.look Ais) (fun _ _ => none) (fun _ _ _ _ => none) 2) (fun _ _ => none) 0 2 slices_Clone___api_Record_api_Record_.code (Wb [.islc t f 8 es]) Heap.none) (fun ex T' H' => ex = .ret ∧ ∃ j gn, T' 2 = .slc j gn es.length 8 0 es.length .none ∧ H' j = ⟨gn, false, .row 8 es⟩) := by
  obtain ⟨c, l', rfl⟩ : ∃ c l', es = c :: l' := by
   cases es with
   | nil => exact absurd rfl hl
   | cons c l' => exact ⟨c, l', rfl⟩
  unfold slices_Clone___api_Record_api_Record_
  repeat' (first
   | refine q_s ?_ | refine q_z ?_ | refine q_b ?_ | refine jB rfl rfl rfl ?_ | refine oY rfl rfl ?_ | refine oQ rfl rfl hl hn (by omega) rfl rfl ?_ | refine q_mv ?_
   | refine Wi ?_ | refine Bl fun _ => ?_)
  exact ⟨rfl, _, _, rfl, rfl⟩
 obtain ⟨ex, T', H', h1, rfl, j, gn, h6, h7⟩ := hw.out
 refine ⟨j, gn, H', ?_, h7, hn, hz H'⟩
 obtain ⟨k, rfl⟩ : ∃ m, k = m + 1 := ⟨k - 1, by omega⟩
 have e1 : CF (k + 1) Ci 0 [.islc t f 8 es] Heap.none = yX Ci 0 [.islc t f 8 es] Heap.none := by
  have hB : B Ci = none := rfl
  simp only [CF, Cp, hB]
  rfl
 rw [e1]
 obtain ⟨c, l', rfl⟩ : ∃ c l', es = c :: l' := by
  cases es with
  | nil => exact absurd rfl hl
  | cons c l' => exact ⟨c, l', rfl⟩
 show Cp (Go.AI.look Ais) (fun _ _ => none) (fun _ _ _ _ => none) (2 + 1) Ci 0 _ Heap.none = _
 rw [Ze (k := 2) (fn := slices_Clone___api_Record_api_Record_) rfl rfl h1 (.inr rfl)]
 show (Option.map _ (some (T' 2))) = _
 rw [h6]
 rfl
end Go.Proofs.YtkaiiopoilpjeaaGreat

