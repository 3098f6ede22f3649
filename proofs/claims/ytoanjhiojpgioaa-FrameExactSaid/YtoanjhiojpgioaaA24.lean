/- From the interpreter to the row: a law that is true for the interpreter holds. -/
import Derived.Test.YtoanjhiojpgioaaMC
import Derived.ProofKit
import Derived.OpenShut
set_option linter.unusedSimpArgs false
set_option linter.unusedVariables false
namespace Go.AI
open Go.ChangeShapes Go.WideShapes Go.RowKit

/-- The state in which a law begins. -/
def start (W : World) : Ctx := ⟨fun _ => False, fun _ => 0, Heap.none, W⟩

theorem start_rel (W : World) : Rel (start W) where
  fsz b h := h.elim
  blk j := trivial
  inj i j h := by simp [start, Heap.none, Blk.mut, Blk.live] at h

theorem start_own (W : World) (b : Nat) : ¬ Own (start W) b := by
  rintro ⟨j, h, _⟩
  simp [start, Heap.none, Blk.mut, Blk.live] at h

theorem start_ib {W : World} {b : Nat} (h : b < W.heap.size) (t : Bool) : IB (start W) t b := ⟨h, start_own W b, fun _ h => h⟩

theorem below_of_evo {W : World} {C' : Ctx} (h : Evo (start W) C') : Below W.heap.size W C'.w :=
  ⟨h.os, h.tape, h.output, h.size, fun k hk => h.keep k hk (start_own W k)⟩

theorem law_calls {P : Program} (hm : P.follows .mixedOrders = true) {B : Prog} {xf : ExtF} {gf : CallF} (hB : Laid P B) (hxf : ExtOk P xf) (hgf : FunOk P gf) {k f : Nat} {args : List AV} {vs : Array Value} {W : World} {H' : Heap}
    (hargs : VRT (start W) true true args vs.toList) (h : acall B xf gf k f 0 args Heap.none = some (.bool true, H')) :
    Calls P f vs W fun e W' => e = .returned (.bool true) ∧ Below W.heap.size W W' := by
  refine ((acall_ok hm hB hxf hgf k (start W) f 0 args _ H' vs (start_rel W) h hargs).2).mono ?_
  rintro e W' ⟨v', μ', rfl, hE, hR, hV⟩
  simp only [VR] at hV
  exact ⟨by rw [hV], below_of_evo hE⟩

/-- All types of arguments can be read, and are of the table. -/
def typesRowed (P : Program) (ts : List TypeId) : Bool := ts.all fun t => P.readableRec t && decide (t < P.types.size)

theorem trodAll_stays {H : Type} {enc : TypeId × Value → H} {P : Program} {W W' : World} (hl : laidOutB P = true) (hb : Below W.heap.size W W') {sp : Nat → Bool} :
    ∀ {ts : List TypeId} {vs : List Value} {ds : List (DataW H)} {ps : List MemPlace}, typesRowed P ts = true → DataW.TrodAll enc P W 0 (fun _ => true) true ts vs ds ps → (∀ p ∈ ps, p.block < W.heap.size) → (∀ p ∈ ps, sp p.block = true) →
    DataW.TrodAll enc P W' 0 sp true ts vs ds ps
  | [], vs, ds, ps, _, h, _, _ => by
    obtain ⟨rfl, rfl, rfl⟩ := trodAll_nil h
    exact rfl
  | t :: ts, vs, ds, ps, ht, h, hlt, hsp => by
    obtain ⟨v, vs', d, ds', p, q, rfl, rfl, rfl, h1, h2⟩ := trodAll_cons h
    simp only [typesRowed, List.all_cons, Bool.and_eq_true, decide_eq_true_eq] at ht
    exact ⟨p, q, WideElems.Trod_stays hl ht.1.1 ht.1.2 h1 (fun x hx => hb.same (hlt x (by simp [hx]))) (fun x hx => hsp x (by simp [hx])),
      trodAll_stays hl hb (by simpa [typesRowed] using ht.2) h2 (fun x hx => hlt x (by simp [hx])) (fun x hx => hsp x (by simp [hx])), rfl⟩

/-- What the row asks, of a call that answers true and leaves what was there. -/
theorem post_law {H : Type} {enc : TypeId × Value → H} {P : Program} (hl : laidOutB P = true) {f : Func} {s : ChangeSpec} {fresh handsOn : Bool} {W W' : World} {args : Array Value} {ds gs : List (DataW H)} {before : List MemPlace} {tb : TypeId}
    (hW : DataW.Whole enc P f.params.toList s.vars false W args.toList ds gs before) (hv : s.vars = []) (hr : f.resultTypes = #[tb]) (htb : P.underlying tb = some .bool) (hts : typesRowed P f.params.toList = true)
    (hs : (s.fn H (ds ++ gs)) = { results := [.lit (.bool true)], args := ds }) (hb : Below W.heap.size W W') : s.post enc P f false fresh handsOn false W args (.bool true) W' := by
  obtain ⟨p, q, hA, hV, rfl, hfz, hnd⟩ := id hW
  have hlt := hW.lt
  rw [hv] at hV
  obtain ⟨rfl, rfl⟩ := trodVars_none hV
  simp only [List.append_nil] at hs
  refine ⟨ds, [], p ++ [], [], p, [], hW, ?_, ?_, ?_, ?_, fun h => by cases h⟩
  · rw [List.append_nil, hs, hr]
    exact trodAll_mk1 (shut_bool htb true)
  · rw [List.append_nil, hs]
    exact trodAll_stays hl hb hts hA (fun x hx => hlt x (by simp [hx])) (fun x hx => by simpa using hlt x (by simp [hx]))
  · rw [List.append_nil, hs, hv]
    rfl
  · exact hb.frame _

end Go.AI
