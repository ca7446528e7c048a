/-
  Steps as arguments: their cells. Conditions: none.
-/
import Derived.Test.YtmbkjnjfipafmaaRfWk
import Derived.Test.YtmbkjnjfipafmaaArgs
namespace Go.Proofs.Ytmbkjnjfipafmaa
open Go.RowKit Go.Maps Go.WideShapes Go.Deep

/-- The cells of a step: what it does, an id, an object. -/
def IsStep (cs : List Value) : Prop := ∃ d i : Int, ∃ r : Rf, cs = [.int .i64 d, .int .i64 i, .int .i64 r.1, .int .u32 r.2] ∧ (Lit.int .i64 d).wf = true ∧ (Lit.int .i64 i).wf = true ∧ refWf r
set_option maxRecDepth 100000 in
theorem isStep_of {H : Type} {enc : TypeId × Value → H} {w : World} {n : Nat} {cs : List Value} {y : DataW H × List MemPlace} (hl : cs.length = 4) (ht : DataW.trod enc Try.prog w 0 (fun _ => true) true n 60 cs = some y) : IsStep cs := by
  match cs, hl with
  | [c0, c1, c2, c3], _ =>
    obtain ⟨_, _, h0⟩ := field_of (c := 1) Try.underlying60 ht 0 _ rfl rfl rfl (by kernel_rfl)
    obtain ⟨_, _, h1⟩ := field_of (c := 1) Try.underlying60 ht 1 _ rfl rfl rfl (by kernel_rfl)
    obtain ⟨_, _, h2⟩ := field_of (c := 2) Try.underlying60 ht 2 _ rfl rfl rfl (by kernel_rfl)
    obtain ⟨_, _, k0⟩ := field_of (c := 1) Try.underlying36 h2 0 _ rfl rfl rfl (by kernel_rfl)
    obtain ⟨_, _, k1⟩ := field_of (c := 1) Try.underlying36 h2 1 _ rfl rfl rfl (by kernel_rfl)
    obtain ⟨a, rfl, wa⟩ := int_cell Try.underlying3 h0
    obtain ⟨b, rfl, wb⟩ := int_cell Try.underlying3 h1
    obtain ⟨c, rfl, wc⟩ := int_cell Try.underlying3 k0
    obtain ⟨d, rfl, wd⟩ := int_cell Try.underlying34 k1
    exact ⟨a, b, (c, d), rfl, wa, wb, wc, wd⟩
set_option maxRecDepth 100000 in
theorem steps_of {H : Type} {enc : TypeId × Value → H} {w : World} {v : Value} {d : DataW H} {p : List MemPlace}
    (hval : Value.okWide Try.prog w .any 0 55 v) (h : DataW.Trod enc Try.prog w 0 (fun _ => true) true 55 v d p) : ∃ css, Recs w v 4 css ∧ ∀ cs ∈ css, IsStep cs :=
  recs_of Try.underlying55 4 (by kernel_rfl) (by decide) IsStep (fun _ _ _ hl ht => isStep_of hl ht) hval h
set_option maxRecDepth 100000 in
theorem step_of {H : Type} {enc : TypeId × Value → H} {w : World} {v : Value} {d : DataW H} {p : List MemPlace}
    (hval : Value.okWide Try.prog w .any 0 60 v) (h : DataW.Trod enc Try.prog w 0 (fun _ => true) true 60 v d p) : ∃ cs : List Value, v = .agg cs.toArray ∧ IsStep cs := by
  obtain ⟨cs, rfl, hsz⟩ := okWide_struct Try.underlying60 hval
  have h4 : cs.size = 4 := hsz.trans (by kernel_rfl)
  obtain ⟨fuel, hf⟩ := h
  refine ⟨cs.toList, by simp, isStep_of (enc := enc) (w := w) (by simpa using h4) (n := fuel) (y := (d, p)) ?_⟩
  simpa [Value.cells] using hf

end Go.Proofs.Ytmbkjnjfipafmaa
