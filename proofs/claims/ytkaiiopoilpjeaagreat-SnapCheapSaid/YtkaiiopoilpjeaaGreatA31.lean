import Derived.Test.YtkaiiopoilpjeaaGreatA30
set_option linter.unusedSimpArgs false
set_option linter.unusedVariables false
namespace Go.AI
section
variable {cf : Dk} {xf : ExtF} {base : Nat} {T : Tmps} {H : Heap} {QO : Tmps → Heap → Prop} {log : List FP} {g : Option (Nat × Bool)} {un : List Nat} {r : List SOper} {d : Nat}
theorem Aoz {site : Nat} (hw : Aj T g = some true) (hl : Bn log ⟨[], [base + site], false⟩ un = true)
  (h : WO (aops cf xf base r (log ++ [⟨[], [base + site], false⟩]) (T.upd d (.mp (base + site) ((H (base + site)).gen + 1))) (H.upd (base + site) ⟨(H (base + site)).gen + 1, false, .map []⟩)) QO) : WO (aops cf xf base (⟨some d, .mkmap site, g, un⟩ :: r) log T H) QO :=
 Bf (v := .mp (base + site) ((H (base + site)).gen + 1)) hw (by simp [aop]) hl h
theorem gB {j gn : Nat} {es : List (Int × AV)} (hr : H j = ⟨gn, false, .map es⟩) : H.mapAt j gn = some es := by unfold Heap.mapAt; rw [hr]; simp
theorem vX {z : AV} {m k : SArg} {j gn : Nat} {n : Int} {es : List (Int × AV)} {u : AV} {b : Bool} (hm : m.ev T = .mp j gn) (hk : k.ev T = .int .i64 n) (hr : H j = ⟨gn, false, .map es⟩) (hu : (Tl n es).getD z = u) (hb : (Tl n es).isSome = b) (hw : Aj T g = some true) (hl : Bn log ⟨[j], [], false⟩ un = true)
  (h : WO (aops cf xf base r (log ++ [⟨[j], [], false⟩]) (T.upd d (.tup [u, .bool b])) H) QO) : WO (aops cf xf base (⟨some d, .lookup z m k true, g, un⟩ :: r) log T H) QO :=
 Bf (v := .tup [u, .bool b]) hw (by simp only [aop, hm, hk, gB hr, Ad, Ab, hu, hb, if_true]) hl h
theorem Alv {m k y : SArg} {j gn : Nat} {n : Int} {es : List (Int × AV)} {v : AV} (hm : m.ev T = .mp j gn) (hk : k.ev T = .int .i64 n) (hy : y.ev T = v) (hr : H j = ⟨gn, false, .map es⟩) (hv : v.norefs = true) (hs : Et v = true) (hc : v.cells.length = 1) (hw : Aj T g = some true) (hl : Bn log ⟨[j], [j], false⟩ un = true)
  (h : WO (aops cf xf base r (log ++ [⟨[j], [j], false⟩]) T (H.upd j ⟨gn, false, .map (Pi n v es)⟩)) QO) : WO (aops cf xf base (⟨none, .mapset m k y, g, un⟩ :: r) log T H) QO :=
 Bf (v := .undef) (H' := H.upd j ⟨gn, false, .map (Pi n v es)⟩) (fp := ⟨[j], [j], false⟩) hw (by
  simp only [aop, hm, hk, hy, gB hr, Ad, Ab]
  rw [if_pos ⟨hv, hs, hc⟩, hr]) hl h
theorem Akw {m k : SArg} {j gn : Nat} {n : Int} {es : List (Int × AV)} (hm : m.ev T = .mp j gn) (hk : k.ev T = .int .i64 n) (hr : H j = ⟨gn, false, .map es⟩) (hw : Aj T g = some true) (hl : Bn log ⟨[j], [j], false⟩ un = true)
  (h : WO (aops cf xf base r (log ++ [⟨[j], [j], false⟩]) T (H.upd j ⟨gn, false, .map (Qf n es)⟩)) QO) : WO (aops cf xf base (⟨none, .mapdel m k, g, un⟩ :: r) log T H) QO :=
 Bf (v := .undef) (H' := H.upd j ⟨gn, false, .map (Qf n es)⟩) (fp := ⟨[j], [j], false⟩) hw (by
  simp only [aop, hm, hk, gB hr, Ad, Ab]
  rw [hr]) hl h
theorem vP {m : SArg} {j gn : Nat} {es : List (Int × AV)} {n : Nat} (hm : m.ev T = .mp j gn) (hr : H j = ⟨gn, false, .map es⟩) (hn : es.length = n) (hw : Aj T g = some true) (hl : Bn log ⟨[j], [], false⟩ un = true)
  (h : WO (aops cf xf base r (log ++ [⟨[j], [], false⟩]) (T.upd d (.int .i64 n)) H) QO) : WO (aops cf xf base (⟨some d, .maplen m, g, un⟩ :: r) log T H) QO :=
 Bf (v := .int .i64 n) hw (by simp only [aop, hm, gB hr, Ad, Ab, hn]) hl h
theorem iF : ∀ (k n b : Nat), k ≤ n → (∀ i, i < k → (H (b + i)).gen ≠ 0) → (H (b + k)).gen = 0 → Ko H b n = b + k
 | 0, 0, b, _, _, _ => rfl
 | 0, n + 1, b, _, _, h => by
  unfold Ko
  have h : (H b).gen = 0 := h
  rw [h]; rfl
 | k + 1, 0, b, hk, _, _ => by omega
 | k + 1, n + 1, b, hk, h1, h2 => by
  unfold Ko
  have h0 : Nat.beq (H b).gen 0 = false := by
   cases hb : Nat.beq (H b).gen 0 with
   | false => rfl
   | true => exact absurd (Fi hb) (h1 0 (by omega))
  rw [h0]
  show Ko H (b + 1) n = _
  rw [iF k n (b + 1) (by omega) (fun i hi => by rw [show b + 1 + i = b + (i + 1) by omega]; exact h1 (i + 1) (by omega)) (by rw [show b + 1 + k = b + (k + 1) by omega]; exact h2)]
  omega
theorem Asx {site s : Nat} {z : AV} {x y : SArg} {k k' : IntKind} {n : Int} (m j : Nat) (hx : x.ev T = .int k n) (hy : y.ev T = .int k' n) (hm : n = m) (h1 : n ≤ 68719476736) (hz : z.cells.length = s) (hj : Ko H (base + site) many = j) (hw : Aj T g = some true) (hl : Bn log ⟨Zh (base + site) many, [j], false⟩ un = true)
  (h : WO (aops cf xf base r (log ++ [⟨Zh (base + site) many, [j], false⟩]) (T.upd d (.slc j ((H j).gen + 1) m s 0 m .none)) (H.newRow j s (List.replicate m z))) QO) :
  WO (aops cf xf base (⟨some d, .mksN site s z x y, g, un⟩ :: r) log T H) QO :=
 Bf (v := .slc j ((H j).gen + 1) m s 0 m .none) (H' := H.newRow j s (List.replicate m z)) hw (by
  subst hm hj
  simp only [aop, hx, hy, Fz, if_pos (Ua m), Bd, Ad, Ab]
  rw [if_pos ⟨Au _, by simp [Iy]; omega, hz⟩]) hl h
end
end Go.AI

