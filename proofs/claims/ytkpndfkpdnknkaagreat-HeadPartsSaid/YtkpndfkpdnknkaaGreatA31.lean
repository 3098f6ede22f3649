import Derived.Test.YtkpndfkpdnknkaaGreatA30
set_option linter.unusedSimpArgs false
set_option linter.unusedVariables false
namespace Go.AI
section
variable {cf : Dh} {xf : ExtF} {base : Nat} {T : Tmps} {H : Heap} {QO : Tmps → Heap → Prop} {log : List FP} {g : Option (Nat × Bool)} {un : List Nat} {r : List SOper} {d : Nat}
theorem Aqx {site : Nat} (hw : Ai T g = some true) (hl : Bm log ⟨[], [base + site], false⟩ un = true)
  (h : WO (aops cf xf base r (log ++ [⟨[], [base + site], false⟩]) (T.upd d (.mp (base + site) ((H (base + site)).gen + 1))) (H.upd (base + site) ⟨(H (base + site)).gen + 1, false, .map []⟩)) QO) : WO (aops cf xf base (⟨some d, .mkmap site, g, un⟩ :: r) log T H) QO :=
 Bg (v := .mp (base + site) ((H (base + site)).gen + 1)) hw (by simp [aop]) hl h
theorem kK {j gn : Nat} {es : List (Int × AV)} (hr : H j = ⟨gn, false, .map es⟩) : H.mapAt j gn = some es := by unfold Heap.mapAt; rw [hr]; simp
theorem zU {z : AV} {m k : SArg} {j gn : Nat} {n : Int} {es : List (Int × AV)} {u : AV} {b : Bool} (hm : m.ev T = .mp j gn) (hk : k.ev T = .int .i64 n) (hr : H j = ⟨gn, false, .map es⟩) (hu : (Vd n es).getD z = u) (hb : (Vd n es).isSome = b) (hw : Ai T g = some true) (hl : Bm log ⟨[j], [], false⟩ un = true)
  (h : WO (aops cf xf base r (log ++ [⟨[j], [], false⟩]) (T.upd d (.tup [u, .bool b])) H) QO) : WO (aops cf xf base (⟨some d, .lookup z m k true, g, un⟩ :: r) log T H) QO :=
 Bg (v := .tup [u, .bool b]) hw (by simp only [aop, hm, hk, kK hr, Ad, Ac, hu, hb, if_true]) hl h
theorem Alz {m k y : SArg} {j gn : Nat} {n : Int} {es : List (Int × AV)} {v : AV} (hm : m.ev T = .mp j gn) (hk : k.ev T = .int .i64 n) (hy : y.ev T = v) (hr : H j = ⟨gn, false, .map es⟩) (hv : v.norefs = true) (hs : Er v = true) (hc : v.cells.length = 1) (hw : Ai T g = some true) (hl : Bm log ⟨[j], [j], false⟩ un = true)
  (h : WO (aops cf xf base r (log ++ [⟨[j], [j], false⟩]) T (H.upd j ⟨gn, false, .map (Qf n v es)⟩)) QO) : WO (aops cf xf base (⟨none, .mapset m k y, g, un⟩ :: r) log T H) QO :=
 Bg (v := .undef) (H' := H.upd j ⟨gn, false, .map (Qf n v es)⟩) (fp := ⟨[j], [j], false⟩) hw (by
  simp only [aop, hm, hk, hy, kK hr, Ad, Ac]
  rw [if_pos ⟨hv, hs, hc⟩, hr]) hl h
theorem Aor {m k : SArg} {j gn : Nat} {n : Int} {es : List (Int × AV)} (hm : m.ev T = .mp j gn) (hk : k.ev T = .int .i64 n) (hr : H j = ⟨gn, false, .map es⟩) (hw : Ai T g = some true) (hl : Bm log ⟨[j], [j], false⟩ un = true)
  (h : WO (aops cf xf base r (log ++ [⟨[j], [j], false⟩]) T (H.upd j ⟨gn, false, .map (Qc n es)⟩)) QO) : WO (aops cf xf base (⟨none, .mapdel m k, g, un⟩ :: r) log T H) QO :=
 Bg (v := .undef) (H' := H.upd j ⟨gn, false, .map (Qc n es)⟩) (fp := ⟨[j], [j], false⟩) hw (by
  simp only [aop, hm, hk, kK hr, Ad, Ac]
  rw [hr]) hl h
theorem yW {m : SArg} {j gn : Nat} {es : List (Int × AV)} {n : Nat} (hm : m.ev T = .mp j gn) (hr : H j = ⟨gn, false, .map es⟩) (hn : es.length = n) (hw : Ai T g = some true) (hl : Bm log ⟨[j], [], false⟩ un = true)
  (h : WO (aops cf xf base r (log ++ [⟨[j], [], false⟩]) (T.upd d (.int .i64 n)) H) QO) : WO (aops cf xf base (⟨some d, .maplen m, g, un⟩ :: r) log T H) QO :=
 Bg (v := .int .i64 n) hw (by simp only [aop, hm, kK hr, Ad, Ac, hn]) hl h
theorem kH : ∀ (k n b : Nat), k ≤ n → (∀ i, i < k → (H (b + i)).gen ≠ 0) → (H (b + k)).gen = 0 → Kt H b n = b + k
 | 0, 0, b, _, _, _ => rfl
 | 0, n + 1, b, _, _, h => by
  unfold Kt
  have h : (H b).gen = 0 := h
  rw [h]; rfl
 | k + 1, 0, b, hk, _, _ => by omega
 | k + 1, n + 1, b, hk, h1, h2 => by
  unfold Kt
  have h0 : Nat.beq (H b).gen 0 = false := by
   cases hb : Nat.beq (H b).gen 0 with
   | false => rfl
   | true => exact absurd (Ql hb) (h1 0 (by omega))
  rw [h0]
  show Kt H (b + 1) n = _
  rw [kH k n (b + 1) (by omega) (fun i hi => by rw [show b + 1 + i = b + (i + 1) by omega]; exact h1 (i + 1) (by omega)) (by rw [show b + 1 + k = b + (k + 1) by omega]; exact h2)]
  omega
theorem Atk {site s : Nat} {z : AV} {x y : SArg} {k k' : IntKind} {n : Int} (m j : Nat) (hx : x.ev T = .int k n) (hy : y.ev T = .int k' n) (hm : n = m) (h1 : n ≤ 68719476736) (hz : z.cells.length = s) (hj : Kt H (base + site) many = j) (hw : Ai T g = some true) (hl : Bm log ⟨bY (base + site) many, [j], false⟩ un = true)
  (h : WO (aops cf xf base r (log ++ [⟨bY (base + site) many, [j], false⟩]) (T.upd d (.slc j ((H j).gen + 1) m s 0 m .none)) (H.newRow j s (List.replicate m z))) QO) :
  WO (aops cf xf base (⟨some d, .mksN site s z x y, g, un⟩ :: r) log T H) QO :=
 Bg (v := .slc j ((H j).gen + 1) m s 0 m .none) (H' := H.newRow j s (List.replicate m z)) hw (by
  subst hm hj
  simp only [aop, hx, hy, Fy, if_pos (Vk m), Ax, Ad, Ac]
  rw [if_pos ⟨Bc _, by simp [Iv]; omega, hz⟩]) hl h
end
end Go.AI

