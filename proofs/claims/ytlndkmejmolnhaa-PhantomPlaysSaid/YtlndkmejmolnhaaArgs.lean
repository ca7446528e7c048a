/-
  Arguments that are slices of structs: what the frame of a claim knows of them, as lists of cells. Conditions: none.
-/
import Derived.Test.YtlndkmejmolnhaaBase
import Derived.ProofKit
import Derived.Deep.Slices
import Derived.Deep.Fields
import Derived.ChangeSame
namespace Go.Proofs.Ytlndkmejmolnhaa
open Go.RowKit Go.ChangeShapes Go.WideShapes Go.Deep

/-- A slice of elements of c cells each that came in: 'css' are the cells of its elements. -/
def Recs (w : World) (v : Value) (c : Nat) (css : List (List Value)) : Prop :=
  ∃ a cap, v = .slice a css.length cap ∧ css.length ≤ cap ∧ cap ≤ maxLen ∧ (a = none → cap = 0) ∧ (∀ cs ∈ css, cs.length = c) ∧
    (css = [] ∨ ∃ b off, a = some ⟨b, off, none⟩ ∧ b < w.heap.size ∧ ∀ i cs, css[i]? = some cs → ∀ j x, cs[j]? = some x → w.cell? ⟨b, off + i * c + j, none⟩ = some x)

theorem Recs.upd {w w' : World} {v : Value} {c : Nat} {css : List (List Value)} (h : Recs w v c css) {S : List Nat} (u : Upd S w w') (hS : ∀ x, x ∈ S → w.heap.size ≤ x) : Recs w' v c css := by
  obtain ⟨a, cap, he, h1, h2, h3, h4, h5⟩ := h
  refine ⟨a, cap, he, h1, h2, h3, h4, ?_⟩
  rcases h5 with h5 | ⟨b, off, ha, hb, hc⟩
  · exact .inl h5
  · exact .inr ⟨b, off, ha, Nat.lt_of_lt_of_le hb u.size, fun i cs hi j x hx => by rw [u.cell (by exact hb) (fun hm => by have := hS _ hm; simp at this; omega)]; exact hc i cs hi j x hx⟩
theorem Recs.at {w : World} {a : Option Addr} {n cap c : Nat} {css : List (List Value)} (h : Recs w (.slice a n cap) c css) {i : Nat} (hi : i < css.length) :
    ∃ b off, a = some ⟨b, off, none⟩ ∧ b < w.heap.size ∧ css[i].length = c ∧ ∀ j x, css[i][j]? = some x → w.cell? ⟨b, off + i * c + j, none⟩ = some x := by
  obtain ⟨a', cap', he, h1, h2, h3, h4, h5⟩ := h
  simp at he
  obtain ⟨rfl, rfl, rfl⟩ := he
  rcases h5 with rfl | ⟨b, off, ha, hb, hc⟩
  · simp at hi
  · exact ⟨b, off, ha, hb, h4 _ (List.getElem_mem hi), hc i _ (List.getElem?_eq_getElem hi)⟩

theorem lists_of {α : Type} {p : Nat → α → Prop} : ∀ n : Nat, (∀ i, i < n → ∃ x, p i x) → ∃ xs : List α, xs.length = n ∧ ∀ i x, xs[i]? = some x → p i x
  | 0, _ => ⟨[], rfl, by simp⟩
  | n + 1, h => by
    obtain ⟨xs, h1, h2⟩ := lists_of n (fun i hi => h i (by omega))
    obtain ⟨x, hx⟩ := h n (by omega)
    refine ⟨xs ++ [x], by simp [h1], fun i y hy => ?_⟩
    rw [List.getElem?_append] at hy
    split at hy
    · exact h2 i y hy
    · have : i = n := by
        have := List.getElem?_eq_some_iff.1 hy
        obtain ⟨h3, _⟩ := this
        simp at h3; omega
      subst this
      rw [h1] at hy
      simp at hy
      subst hy; exact hx

section
variable {H : Type} {enc : TypeId × Value → H} {P : Program} {w : World}
/-- The frame's reading of a slice, as lists of cells; F is what each element's reading says of its cells. -/
theorem recs_of {t e : TypeId} {v : Value} {d : DataW H} {p : List MemPlace} (ht : P.underlying t = some (.slice e)) (c : Nat) (hc : P.cellsOf e = c) (hc0 : 0 < c) (F : List Value → Prop)
    (hF : ∀ n cs y, cs.length = c → DataW.trod enc P w 0 (fun _ => true) true n e cs = some y → F cs)
    (hval : Value.okWide P w .any 0 t v) (h : DataW.Trod enc P w 0 (fun _ => true) true t v d p) :
    ∃ css, Recs w v c css ∧ ∀ cs ∈ css, F cs := by
  obtain ⟨a, len, cap, rfl⟩ := okWide_slice ht hval
  obtain ⟨fuel, hf⟩ := h
  rcases open_slice ht hf with ⟨hcs, _⟩ | ⟨x, l, cp, m, n, D, Pl, hcs, _, hl, hm, hmm, _, hi⟩
  · simp [Value.cells] at hcs
    obtain ⟨rfl, rfl, rfl⟩ := hcs
    exact ⟨[], ⟨none, 0, rfl, Nat.le_refl _, Nat.zero_le _, fun _ => rfl, by simp, .inl rfl⟩, by simp⟩
  · simp [Value.cells] at hcs
    obtain ⟨rfl, rfl, rfl⟩ := hcs
    simp at hmm
    subst hmm
    have hex : ∀ i, i < len → ∃ cs : List Value, cs.length = c ∧ F cs ∧ ∀ j y, cs[j]? = some y → w.cell? (x.add (i * c + j)) = some y := by
      intro i him
      obtain ⟨cs', hc1, ht'⟩ := hi i (by omega)
      rw [hc] at hc1
      obtain ⟨_, hcl, hat⟩ := World.cells?_some hc1
      refine ⟨cs', hcl, hF _ _ _ hcl ht', fun j y hy => ?_⟩
      have hj : j < c := by have := (List.getElem?_eq_some_iff.1 hy).1; omega
      rw [← Go.Deep.add_add, hat j hj, hy]
    obtain ⟨css, hl1, hl2⟩ := lists_of len hex
    refine ⟨css, ⟨some x, m, by rw [hl1], by rw [hl1]; exact hl, hm, by simp, fun cs hcs => ?_, ?_⟩, fun cs hcs => ?_⟩
    · obtain ⟨i, hi'⟩ := List.mem_iff_getElem?.1 hcs
      exact (hl2 i cs hi').1
    · cases hcss : css with
      | nil => exact .inl rfl
      | cons cs0 rest =>
        right
        obtain ⟨b, off, spot⟩ := x
        have h0 := hl2 0 cs0 (by simp [hcss])
        have hx0 : cs0[0]? = some (cs0[0]'(by omega)) := List.getElem?_eq_getElem _
        have hcell := h0.2.2 0 _ hx0
        have hspot : spot = none := by
          have := World.cell?_spot hcell
          simpa [Addr.add] using this
        subst hspot
        have hadd : ∀ i, (⟨b, off, none⟩ : Addr).add i = ⟨b, off + i, none⟩ := fun i => by unfold Addr.add; split <;> simp_all
        refine ⟨b, off, rfl, ?_, fun i cs hi' j y hy => ?_⟩
        · rw [hadd] at hcell
          exact World.block_lt_of_cell? w _ hcell
        · have := (hl2 i cs (by rw [hcss]; exact hi')).2.2 j y hy
          rw [hadd] at this
          rw [← this, Nat.add_assoc]
    · obtain ⟨i, hi'⟩ := List.mem_iff_getElem?.1 hcs
      exact (hl2 i cs hi').2.1
/-- A cell that reads as an integer is one. -/
theorem int_cell {t : TypeId} {k : IntKind} {n : Nat} {v : Value} {y : DataW H × List MemPlace} (hu : P.underlying t = some (.int k)) (h : DataW.trod enc P w 0 (fun _ => true) true n t [v] = some y) :
    ∃ x, v = .int k x ∧ (Lit.int k x).wf = true := by
  obtain ⟨a, e0, rfl, wa⟩ := DataW.trod_int hu h
  exact ⟨a, by simpa using e0, wa⟩
/-- A struct's field reads on its own cells. -/
theorem field_of {t : TypeId} {fs : Array Field} {n : Nat} {cs : List Value} {y : DataW H × List MemPlace} (hu : P.underlying t = some (.struct fs))
    (h : DataW.trod enc P w 0 (fun _ => true) true n t cs = some y) (i : Nat) (f : Field) (hf : fs[i]? = some f) {o c : Nat} {ft : TypeId} (ho : f.offset = o) (hft : f.type = ft) (hc : P.cellsOf ft = c) :
    ∃ m y', DataW.trod enc P w 0 (fun _ => true) true m ft ((cs.drop o).take c) = some y' := by
  obtain ⟨xs, m, _, _, _, hlen, hg⟩ := DataW.trod_struct hu h
  have hi : i < fs.size := (Array.getElem?_eq_some_iff.1 hf).1
  have e := hg i f hf
  rw [List.getElem?_eq_getElem (show i < xs.length by omega), ho, hft, hc] at e
  exact ⟨m, _, e⟩
end
end Go.Proofs.Ytlndkmejmolnhaa
