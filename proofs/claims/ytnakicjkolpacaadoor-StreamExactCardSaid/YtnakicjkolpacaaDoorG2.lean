/- What is done by hand: slices.Clone; strconv.Itoa and strings.Join by the kit's contracts. -/
import Derived.Test.YtnakicjkolpacaaDoorG1
import Derived.Test.YtnakicjkolpacaaDoorShelf
set_option linter.unusedSimpArgs false
set_option linter.unusedVariables false
namespace Go.Proofs.YtnakicjkolpacaaDoor
open Go.AI
open Go.RowKit

/-- Decimal digits, by so many steps at most. -/
def decF : Nat → Nat → List UInt8
  | 0, _ => []
  | k + 1, u => if u < 10 then [UInt8.ofNat (48 + u)] else decF k (u / 10) ++ [UInt8.ofNat (48 + u % 10)]
theorem decF_eq : ∀ (k u : Nat), u < 10 ^ k → 0 < k → decF k u = Go.Lib.decDigits u
  | 0, _, _, h => by omega
  | k + 1, u, h, _ => by
    rw [Go.Lib.decDigits, decF]
    by_cases hu : u < 10
    · rw [if_pos hu, dif_pos hu]
    · rw [if_neg hu, dif_neg hu]
      rw [Nat.pow_succ] at h
      cases k with
      | zero => omega
      | succ k => rw [decF_eq (k + 1) (u / 10) (by omega) (by omega)]
def itoaF (n : Int) : List UInt8 := if n < 0 then 45 :: decF 20 n.natAbs else decF 20 n.toNat
theorem itoaF_eq {n : Int} (h0 : -9223372036854775808 ≤ n) (h1 : n ≤ 9223372036854775807) : itoaF n = Go.Lib.itoa n := by
  unfold itoaF Go.Lib.itoa
  rw [decF_eq 20 n.natAbs (by omega) (by omega), decF_eq 20 n.toNat (by omega) (by omega)]

/-- Texts. -/
def strsOf : List AV → Option (List ByteArray)
  | [] => some []
  | .str b :: r => (strsOf r).map (b :: ·)
  | _ => none
theorem strsOf_map : ∀ l : List ByteArray, strsOf (l.map .str) = some l
  | [] => rfl
  | b :: l => by simp [strsOf, strsOf_map l]

theorem strsOf_len : ∀ {es : List AV} {xs : List ByteArray}, strsOf es = some xs → xs.length = es.length
  | [], xs, h => by
    simp only [strsOf, Option.some.injEq] at h
    subst h; rfl
  | e :: es, xs, h => by
    unfold strsOf at h
    split at h
    · rename_i h1; cases h1
    · rename_i h1; cases h1
      simp only [Option.map_eq_some_iff] at h
      obtain ⟨ys, h2, rfl⟩ := h
      simp [strsOf_len h2]
    · cases h

/-- What the library's functions answer. -/
def libF : CallF := fun f base args H =>
  if f = 33 then
    match args with
    | [.int .i64 n] => if -9223372036854775808 ≤ n ∧ n ≤ 9223372036854775807 then some (.str ⟨(itoaF n).toArray⟩, H) else none
    | _ => none
  else if f = 34 then
    match args with
    | [.islc _ _ _ es, .str sep] =>
      match strsOf es with
      | some xs => if xs.length ≤ 1000000 ∧ (Go.Lib.join (xs.map (·.data.toList)) sep.data.toList).length ≤ 1000000000 then some (.str ⟨(Go.Lib.join (xs.map (·.data.toList)) sep.data.toList).toArray⟩, H) else none
      | none => none
    | _ => none
  else none

theorem tab_of {C : Ctx} (hR : Rel C) : Go.Lib.TabIs Tryd.prog C.w "internal/strconv.uint64pow10" .u64 Go.Lib.pow10Tab := by
  obtain ⟨_, el, fz, h⟩ := hR.gl 0 rfl
  unfold Go.Lib.TabIs World.var?
  have : Tryd.prog.globalNamed "internal/strconv.uint64pow10" = some 0 := by kernel_rfl
  rw [this]
  simp only [Option.bind_some, h]
  rfl

theorem strs_cells {C : Ctx} {t : Bool} {s b o : Nat} : ∀ {es : List AV} {xs : List ByteArray} {vs : List Value} {i : Nat}, strsOf es = some xs → CRL C false t s es vs → (∀ k v, vs[k]? = some v → C.w.cell? ⟨b, o + i + k, none⟩ = some v) →
    ∀ (j : Nat) x, xs[j]? = some x → C.w.cell? ⟨b, o + i + j, none⟩ = some (.string x)
  | [], xs, vs, i, h, _, _, j, x, hx => by
    simp only [strsOf, Option.some.injEq] at h
    subst h
    simp at hx
  | e :: es, xs, vs, i, h, hc, hv, j, x, hx => by
    unfold strsOf at h
    split at h
    · rename_i h1; cases h1
    · rename_i b' r h1
      cases h1
      simp only [Option.map_eq_some_iff] at h
      obtain ⟨ys, h2, rfl⟩ := h
      simp only [CRL] at hc
      obtain ⟨⟨k0, k5, v, k1, k2, k3⟩, k4⟩ := hc
      simp only [VR] at k1
      subst k1
      have hs : s = 1 := by simpa [AV.cells] using k0.symm
      subst hs
      cases j with
      | zero =>
        simp at hx
        subst hx
        cases vs with
        | nil => simp at k5
        | cons v0 vs =>
          simp [Value.cells] at k2
          have := hv 0 v0 rfl
          rw [← k2] at this
          simpa using this
      | succ j =>
        simp at hx
        have := strs_cells (i := i + 1) h2 k4 (fun k v hk => by
          have := hv (k + 1) v (by simpa using hk)
          rw [show o + (i + 1) + k = o + i + (k + 1) by omega]
          exact this) j x hx
        rw [show o + i + (j + 1) = o + (i + 1) + j by omega]
        exact this
    · cases h

theorem libF_ok : FunOk Tryd.prog libF := by
  intro C f base args v H' vs hR h hargs
  unfold libF at h
  split at h
  · rename_i hf
    subst hf
    split at h
    · rename_i n
      split at h
      · rename_i hn
        cases h
        obtain ⟨u, us, hu, h1, h2⟩ := hargs
        simp only [VRT] at h2
        subst h2
        simp only [VR] at h1
        subst h1
        obtain rfl : vs = #[.int .i64 n] := by
          apply Array.ext'
          simpa using hu
        refine ⟨⟨Tryd.f33, Tryd.func33, rfl, by decide⟩, (Tryd.strconv_Itoa n hn.1 hn.2 C.w (tab_of hR)).mono ?_⟩
        rintro e w' ⟨rfl, k, os, rfl⟩
        refine done_same hR ⟨rfl, rfl, rfl, ?_, ?_⟩ ?_
        · simp [Go.Sort.grow, World.drewN]
        · intro b hb
          simp only [Go.Sort.grow, World.drewN]
          rw [Array.getElem?_append_left hb]
        · simp only [VR]
          rw [itoaF_eq hn.1 hn.2]
      · cases h
    · cases h
  · split at h
    · rename_i hf
      subst hf
      split at h
      · rename_i t fl s es sep
        split at h
        · rename_i xs hxs
          split at h
          · rename_i hle
            cases h
            obtain ⟨u, us, hu, h1, h2⟩ := hargs
            simp only [VRT] at h2
            obtain ⟨u2, us2, rfl, h3, rfl⟩ := h2
            simp only [VR] at h3
            subst h3
            simp only [VR] at h1
            obtain ⟨_, a, cap, rfl, hcap, _, hne⟩ := h1
            obtain rfl : vs = #[.slice a es.length cap, .string sep] := by
              apply Array.ext'
              simpa using hu
            refine ⟨⟨Tryd.f34, Tryd.func34, rfl, by decide⟩, ?_⟩
            have hlen : es.length = xs.length := (strsOf_len hxs).symm
            by_cases hnil : es = []
            · subst hnil
              simp [strsOf] at hxs
              subst hxs
              refine (Tryd.strings_Join_none a cap sep C.w).mono ?_
              rintro e w' ⟨rfl, rfl⟩
              exact done_same hR (Below.refl _ _) (by simp only [VR]; rfl)
            · obtain ⟨b, o, ws, rfl, hib, hrow, hcrl⟩ := hne hnil
              rw [hlen]
              refine (Tryd.strings_Join b o cap xs sep C.w ?_ hib.1 (by omega) (by omega) (by omega)).mono ?_
              · intro j x hx
                have := strs_cells (i := 0) hxs hcrl (fun k v hk => by simpa using hrow k v hk) j x hx
                simpa using this
              rintro e w' ⟨rfl, hb⟩
              exact done_same hR hb (by simp only [VR])
          · cases h
        · cases h
      · cases h
    · cases h

def cloneF : CallF := fun f base args H => if f = n_slices_Clone___byte_byte_ then cloneF0 f base args H else libF f base args H
theorem cloneF_ok : FunOk Tryd.prog cloneF := by
  intro C f base args v H' vs hR h hargs
  unfold cloneF at h
  split at h
  · exact cloneF0_ok C f base args v H' vs hR h hargs
  · exact libF_ok C f base args v H' vs hR h hargs
theorem cloneF_clone : cloneF n_slices_Clone___byte_byte_ = cloneF0 n_slices_Clone___byte_byte_ := by
  funext base args H
  unfold cloneF
  rw [if_pos rfl]
theorem e_clone (B0 : Prog) (hB : B0 n_slices_Clone___byte_byte_ = none) (xf : ExtF) (k : Nat) (t f : Bool) (l : List UInt8) (hl : l ≠ []) (hm : l.length < 1000000) : FnF (acall B0 xf cloneF (k + 1)) n_slices_Clone___byte_byte_ [.islc t f 1 (BL l)] l :=
  e_clone0 cloneF_clone B0 hB xf k t f l hl hm
end Go.Proofs.YtnakicjkolpacaaDoor
