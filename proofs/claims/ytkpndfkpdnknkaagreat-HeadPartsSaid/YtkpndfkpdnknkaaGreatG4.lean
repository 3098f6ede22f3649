import Derived.Test.YtkpndfkpdnknkaaGreatRows
import Derived.Test.YtkpndfkpdnknkaaGreatT
import Derived.Test.YtkpndfkpdnknkaaGreatMC
import Derived.WalkKit
import Derived.WalkSpells
import Derived.WalkLawsBesides
set_option linter.unusedSimpArgs false
set_option linter.unusedVariables false
set_option maxRecDepth 100000
namespace Go.Proofs.YtkpndfkpdnknkaaGreat
open Go.AI
open Go.RowKit
theorem yR {C : Ctx} {w' : World} {v : AV} {v' : Value} (hR : Rel C) (hb : Below C.w.heap.size C.w w') (hv : VR { C with w := w' } true true v v') : Done C v C.H (.returned v') w' := by
 have hE' : Evo C { C with w := w' } :=
  ⟨rfl, hb.size, fun b hlt _ => hb.block b hlt, fun b h => .inl h, fun _ _ _ h => h, fun _ _ _ _ es' _ h => ⟨⟨es', h⟩, fun _ => rfl⟩, fun _ _ es' _ h => ⟨⟨es', h⟩, rfl⟩,
   fun b e n h => by
    have hlt : b < C.w.heap.size := by
     unfold World.shape? at h
     cases hg : C.w.heap[b]? with
     | none => rw [hg] at h; simp at h
     | some o => exact (Fk.1 hg).1
    show World.shape? w' b = _
    unfold World.shape? at h ⊢
    rw [hb.block b hlt]; exact h, hb.os, hb.tape, hb.output⟩
 have hR' : Rel { C with w := w' } := ⟨fun b hlt => Lu (hR.fsz b hlt) hb.size, fun j => BR.mono hE' rfl (fun _ => rfl) (fun hl => hb.block _ (hR.lt hl).1) (hR.blk j), hR.inj, hR.glm hE'⟩
 exact ⟨v', C.μ, rfl, hE', hR', hv⟩
theorem Aqi : Tryz.prog.follows .mixedOrders = true := Checked.mixed Tryz.checked
set_option maxRecDepth 100000 in
set_option maxHeartbeats 1000000 in
theorem Aih (w : World) (c : Nat) :
  Calls Tryz.prog 41 #[.slice none 0 c] w fun e w' => (∃ b d, e = .returned (.slice b 0 d)) ∧ Below w.heap.size w w' := by
 go_enter Tryz.func41, Tryz.ntmps41
 go_wp2
 rw [Go.Lib.run_eql_slice_nil w 23 5 none 0 c 0 0 Tryz.underlying23]
 go_wp2
 go_ret
 exact ⟨⟨_, _, rfl⟩, Below.refl _ _⟩
set_option maxRecDepth 100000 in
set_option maxHeartbeats 1000000 in
theorem Abb (w : World) (a : Addr) (c : Nat) :
  Calls Tryz.prog 41 #[.slice (some a) 0 c] w fun e w' => (∃ b d, e = .returned (.slice b 0 d)) ∧ Below w.heap.size w w' := by
 go_enter Tryz.func41, Tryz.ntmps41
 go_wp2
 rw [Go.Lib.run_eql_slice_nil w 23 5 (some a) 0 c 0 0 Tryz.underlying23]
 go_wp2
 go_ret
 exact ⟨⟨_, _, rfl⟩, (Below.refl _ _).alloc (Bc _) _⟩
def Alb : List (Nat × SFun) := [(41, slices_Clone___byte_byte_)]
theorem Awf : Laid Tryz.prog (Go.AI.look Alb) := Ak ⟨_, _, Tryz.func41, x_slices_Clone___byte_byte_.2.1, by decide⟩ rF
def Acn : Dh := fun f base args H =>
 if f = Cx then
  match args with
  | [.islc t fl s []] => some (.islc false false 1 [], H)
  | _ => Cs (Go.AI.look Alb) (fun _ _ => none) (fun _ _ _ _ => none) 3 f base args H
 else none
theorem Anl : Xe Tryz.prog Acn := by
 intro C f base args v H' vs hR h hargs
 unfold Acn at h
 split at h
 ·rename_i hf
  subst hf
  split at h
  ·rename_i t fl s
   cases h
   obtain ⟨u, us, hu, h1, h2⟩ := hargs
   simp only [VRT] at h2
   subst h2
   simp only [VR] at h1
   obtain ⟨_, a, cap, rfl, _⟩ := h1
   have hvs : vs = #[.slice a 0 cap] := by
    apply Ok
    simpa using hu
   subst hvs
   refine ⟨⟨Tryz.f41, Tryz.func41, rfl, by decide⟩, ?_⟩
   have fin : ∀ e w', (∃ b d, e = Ending.returned (.slice b 0 d)) ∧ Below C.w.heap.size C.w w' → Done C (.islc false false 1 []) C.H e w' := by
    rintro e w' ⟨⟨b, d, rfl⟩, hb⟩
    exact yR hR hb (by simp [VR])
   cases a with
   | none => exact (Aih C.w cap).mono fun e w' h => fin e w' h
   | some a => exact (Abb C.w a cap).mono fun e w' h => fin e w' h
  ·exact jI Aqi Awf (fun _ _ _ _ _ _ h => by cases h) (fun _ _ _ _ _ _ _ _ h => by cases h) 3 C _ base args v H' vs hR h hargs
 ·cases h
set_option maxRecDepth 100000 in
set_option maxHeartbeats 1000000 in
theorem Ahr (w : World) (c : Nat) :
  Calls Tryz.prog 83 #[.slice none 0 c] w fun e w' => (∃ b d, e = .returned (.slice b 0 d)) ∧ Below w.heap.size w w' := by
 go_enter Tryz.func83, Tryz.ntmps83
 go_wp2
 rw [Go.Lib.run_eql_slice_nil w 75 3 none 0 c 0 0 Tryz.underlying75]
 go_wp2
 go_ret
 exact ⟨⟨_, _, rfl⟩, Below.refl _ _⟩
set_option maxRecDepth 100000 in
set_option maxHeartbeats 1000000 in
theorem Abu (w : World) (a : Addr) (c : Nat) :
  Calls Tryz.prog 83 #[.slice (some a) 0 c] w fun e w' => (∃ b d, e = .returned (.slice b 0 d)) ∧ Below w.heap.size w w' := by
 go_enter Tryz.func83, Tryz.ntmps83
 go_wp2
 rw [Go.Lib.run_eql_slice_nil w 75 3 (some a) 0 c 0 0 Tryz.underlying75]
 go_wp2
 go_ret
 exact ⟨⟨_, _, rfl⟩, (Below.refl _ _).alloc (Bc _) _⟩
def Alr : List (Nat × SFun) := [(83, slices_Clone___int_int_)]
theorem Axl : Laid Tryz.prog (Go.AI.look Alr) := Ak ⟨_, _, Tryz.func83, x_slices_Clone___int_int_.2.1, by decide⟩ rF
def Aco : Dh := fun f base args H =>
 if f = Du then
  match args with
  | [.islc t fl s []] => some (.islc false false 1 [], H)
  | _ => Cs (Go.AI.look Alr) (fun _ _ => none) (fun _ _ _ _ => none) 3 f base args H
 else none
theorem Ang : Xe Tryz.prog Aco := by
 intro C f base args v H' vs hR h hargs
 unfold Aco at h
 split at h
 ·rename_i hf
  subst hf
  split at h
  ·rename_i t fl s
   cases h
   obtain ⟨u, us, hu, h1, h2⟩ := hargs
   simp only [VRT] at h2
   subst h2
   simp only [VR] at h1
   obtain ⟨_, a, cap, rfl, _⟩ := h1
   have hvs : vs = #[.slice a 0 cap] := by
    apply Ok
    simpa using hu
   subst hvs
   refine ⟨⟨Tryz.f83, Tryz.func83, rfl, by decide⟩, ?_⟩
   have fin : ∀ e w', (∃ b d, e = Ending.returned (.slice b 0 d)) ∧ Below C.w.heap.size C.w w' → Done C (.islc false false 1 []) C.H e w' := by
    rintro e w' ⟨⟨b, d, rfl⟩, hb⟩
    exact yR hR hb (by simp [VR])
   cases a with
   | none => exact (Ahr C.w cap).mono fun e w' h => fin e w' h
   | some a => exact (Abu C.w a cap).mono fun e w' h => fin e w' h
  ·exact jI Aqi Axl (fun _ _ _ _ _ _ h => by cases h) (fun _ _ _ _ _ _ _ _ h => by cases h) 3 C _ base args v H' vs hR h hargs
 ·cases h
def Aag : Dh := fun f base args H => if f = Cx then Acn f base args H else Aco f base args H
theorem Tw : Xe Tryz.prog Aag := by
 intro C f base args v H' vs hR h hargs
 unfold Aag at h
 split at h
 ·exact Anl C f base args v H' vs hR h hargs
 ·exact Ang C f base args v H' vs hR h hargs
def noX : ExtF := fun _ _ => none
abbrev CF (k : Nat) : Dh := Cs B noX Aag k
attribute [local irreducible] aops Bp Cs Df aop W WO
theorem Aew (k : Nat) (hk : 0 < k) (t f : Bool) (es : List AV) (hl : es ≠ []) (hn : Cf es = true) (hz : ∀ H, es.map (fz true deep H) = es) (hm : es.length < 1000000) : FnFG (CF k) Cx [.islc t f 1 es] 1 es := by
 have hw : W (Bp (Cs (Go.AI.look Alb) (fun _ _ => none) (fun _ _ _ _ => none) 2) (fun _ _ => none) 0 2 slices_Clone___byte_byte_.code (Zu [.islc t f 1 es]) Heap.none) (fun ex T' H' => ex = .ret ∧ ∃ j gn, T' 2 = .slc j gn es.length 1 0 es.length .none ∧ H' j = ⟨gn, false, .row 1 es⟩) := by
  obtain ⟨c, l', rfl⟩ : ∃ c l', es = c :: l' := by
   cases es with
   | nil => exact absurd rfl hl
   | cons c l' => exact ⟨c, l', rfl⟩
  unfold slices_Clone___byte_byte_
  repeat' (first
   | refine q_s ?_ | refine q_z ?_ | refine q_b ?_ | refine zS rfl rfl rfl ?_ | refine Afo rfl rfl ?_ | refine Aeu rfl rfl hl hn (by omega) rfl rfl ?_ | refine q_mv ?_
   | refine Xv ?_ | refine Bu fun _ => ?_)
  exact ⟨rfl, _, _, rfl, rfl⟩
 obtain ⟨ex, T', H', h1, rfl, j, gn, h6, h7⟩ := hw.out
 refine ⟨j, gn, H', ?_, h7, hn, hz H'⟩
 obtain ⟨k, rfl⟩ : ∃ m, k = m + 1 := ⟨k - 1, by omega⟩
 have e1 : CF (k + 1) Cx 0 [.islc t f 1 es] Heap.none = Acn Cx 0 [.islc t f 1 es] Heap.none := by
  have hB : B Cx = none := rfl
  simp only [CF, Cs, hB]
  rfl
 rw [e1]
 obtain ⟨c, l', rfl⟩ : ∃ c l', es = c :: l' := by
  cases es with
  | nil => exact absurd rfl hl
  | cons c l' => exact ⟨c, l', rfl⟩
 show Cs (Go.AI.look Alb) (fun _ _ => none) (fun _ _ _ _ => none) (2 + 1) Cx 0 _ Heap.none = _
 rw [iG (k := 2) (fn := slices_Clone___byte_byte_) rfl rfl h1 (.inr rfl)]
 show (Option.map _ (some (T' 2))) = _
 rw [h6]
 rfl
theorem Adv (k : Nat) (hk : 0 < k) (t f : Bool) (es : List AV) (hn : Cf es = true) (hz : ∀ n H, es.map (fz true (n + 1) H) = es) (hm : es.length < 1000000) : FnV (CF k) Cx [.islc t f 1 es] (.islc false false 1 es) := by
 by_cases hl : es = []
 ·subst hl
  obtain ⟨k, rfl⟩ : ∃ m, k = m + 1 := ⟨k - 1, by omega⟩
  refine ⟨.islc false false 1 [], Heap.none, ?_, rfl⟩
  have hB : B Cx = none := rfl
  simp only [CF, Cs, hB]
  rfl
 ·obtain ⟨j, gn, Hc, h1, h2, _⟩ := Aew k hk t f es hl hn (fun H => hz _ H) hm
  refine ⟨_, _, h1, ?_⟩
  show fz true (5 + 1) Hc _ = _
  rw [Oi (Ev h2 rfl) (by omega), Cd, Ch, hz]
  rfl
theorem uQ (k : Nat) (hk : 0 < k) (t f : Bool) (es : List AV) (hl : es ≠ []) (hn : Cf es = true) (hz : ∀ H, es.map (fz true deep H) = es) (hm : es.length < 1000000) : FnFG (CF k) Du [.islc t f 1 es] 1 es := by
 have hw : W (Bp (Cs (Go.AI.look Alr) (fun _ _ => none) (fun _ _ _ _ => none) 2) (fun _ _ => none) 0 2 slices_Clone___int_int_.code (Zu [.islc t f 1 es]) Heap.none) (fun ex T' H' => ex = .ret ∧ ∃ j gn, T' 2 = .slc j gn es.length 1 0 es.length .none ∧ H' j = ⟨gn, false, .row 1 es⟩) := by
  obtain ⟨c, l', rfl⟩ : ∃ c l', es = c :: l' := by
   cases es with
   | nil => exact absurd rfl hl
   | cons c l' => exact ⟨c, l', rfl⟩
  unfold slices_Clone___int_int_
  repeat' (first
   | refine q_s ?_ | refine q_z ?_ | refine q_b ?_ | refine zS rfl rfl rfl ?_ | refine Afo rfl rfl ?_ | refine Aeu rfl rfl hl hn (by omega) rfl rfl ?_ | refine q_mv ?_
   | refine Xv ?_ | refine Bu fun _ => ?_)
  exact ⟨rfl, _, _, rfl, rfl⟩
 obtain ⟨ex, T', H', h1, rfl, j, gn, h6, h7⟩ := hw.out
 refine ⟨j, gn, H', ?_, h7, hn, hz H'⟩
 obtain ⟨k, rfl⟩ : ∃ m, k = m + 1 := ⟨k - 1, by omega⟩
 have e1 : CF (k + 1) Du 0 [.islc t f 1 es] Heap.none = Aco Du 0 [.islc t f 1 es] Heap.none := by
  have hB : B Du = none := rfl
  simp only [CF, Cs, hB]
  rfl
 rw [e1]
 obtain ⟨c, l', rfl⟩ : ∃ c l', es = c :: l' := by
  cases es with
  | nil => exact absurd rfl hl
  | cons c l' => exact ⟨c, l', rfl⟩
 show Cs (Go.AI.look Alr) (fun _ _ => none) (fun _ _ _ _ => none) (2 + 1) Du 0 _ Heap.none = _
 rw [iG (k := 2) (fn := slices_Clone___int_int_) rfl rfl h1 (.inr rfl)]
 show (Option.map _ (some (T' 2))) = _
 rw [h6]
 rfl
theorem jR (k : Nat) (hk : 0 < k) (t f : Bool) (es : List AV) (hn : Cf es = true) (hz : ∀ n H, es.map (fz true (n + 1) H) = es) (hm : es.length < 1000000) : FnV (CF k) Du [.islc t f 1 es] (.islc false false 1 es) := by
 by_cases hl : es = []
 ·subst hl
  obtain ⟨k, rfl⟩ : ∃ m, k = m + 1 := ⟨k - 1, by omega⟩
  refine ⟨.islc false false 1 [], Heap.none, ?_, rfl⟩
  have hB : B Du = none := rfl
  simp only [CF, Cs, hB]
  rfl
 ·obtain ⟨j, gn, Hc, h1, h2, _⟩ := uQ k hk t f es hl hn (fun H => hz _ H) hm
  refine ⟨_, _, h1, ?_⟩
  show fz true (5 + 1) Hc _ = _
  rw [Oi (Ev h2 rfl) (by omega), Cd, Ch, hz]
  rfl
end Go.Proofs.YtkpndfkpdnknkaaGreat

