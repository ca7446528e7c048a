/-
  Plain laws: a table of phantom references as a function from ids to objects, and what its two maps read. Conditions: none.
-/
import Derived.Test.YtlndkmejmolnhaaClnPlain
namespace Go.Proofs.Ytlndkmejmolnhaa
open Go.RowKit Go.Maps

/-- An object: its slot and its generation. -/
abbrev Rf := Int × Int
def refV (r : Rf) : Value := .agg #[.int .i64 r.1, .int .u32 r.2]
def refD (r : Rf) : DataW Unit := .agg [.lit (.int .i64 r.1), .lit (.int .u32 r.2)]
def refWf (r : Rf) : Prop := (Lit.int .i64 r.1).wf = true ∧ (Lit.int .u32 r.2).wf = true
/-- How an object reads as an element of a map. -/
def refElem (v : Value) : Option (DataW Unit × List MemPlace) :=
  match v with
  | .agg cs => match cs.toList with
    | [.int .i64 s, .int .u32 g] => some (refD (s, g), [])
    | _ => none
  | _ => none
theorem refElem_mk (r : Rf) : refElem (refV r) = some (refD r, []) := rfl
theorem refElem_inv {v : Value} {z : DataW Unit × List MemPlace} (h : refElem v = some z) : ∃ r, v = refV r ∧ z = (refD r, []) := by
  unfold refElem at h
  split at h
  · rename_i cs
    split at h
    · rename_i s g hcs
      simp at h
      refine ⟨(s, g), ?_, h.symm⟩
      obtain ⟨l⟩ := cs
      simp at hcs
      subst hcs
      rfl
    · cases h
  · cases h
theorem refD_inj {r s : Rf} (h : refD r = refD s) : r = s := by
  obtain ⟨a, b⟩ := r
  obtain ⟨c, d⟩ := s
  simp [refD] at h
  simp [h]

/-- What a map's reading has at a key. -/
def look (D : DataW Unit) (k : Lit) : Option (DataW Unit) := if Maps.has D k then some (D.atKey k .nil) else none
theorem look_none {D : DataW Unit} {k : Lit} (h : Maps.has D k = false) : look D k = none := by simp [look, h]
theorem has_of_look {D : DataW Unit} {k : Lit} {d : DataW Unit} (h : look D k = some d) : Maps.has D k = true := by
  unfold look at h
  split at h
  · assumption
  · cases h
theorem has_false_of_look {D : DataW Unit} {k : Lit} (h : look D k = none) : Maps.has D k = false := by
  unfold look at h
  split at h
  · cases h
  · rename_i hh
    simpa using hh
theorem atKey_has {D : DataW Unit} {k : Lit} (h : Maps.has D k = true) (z z' : DataW Unit) : D.atKey k z = D.atKey k z' := by
  cases D <;> try (simp [Maps.has] at h; done)
  rename_i es
  cases hf : es.find? (fun p => p.1.sameKey k) with
  | some p => simp [DataW.atKey, hf]
  | none =>
    rw [List.find?_eq_none] at hf
    rw [Maps.has_eq, List.any_eq_true] at h
    obtain ⟨p, hp, hs⟩ := h
    exact absurd hs (hf p hp)
theorem at_of_look {D : DataW Unit} {k : Lit} {d : DataW Unit} (h : look D k = some d) (z : DataW Unit) : D.atKey k z = d := by
  have hh := has_of_look h
  rw [look, if_pos hh] at h
  rw [atKey_has hh z .nil]
  exact Option.some.inj h
theorem look_put_same {D : DataW Unit} {k : Lit} (hD : IsMap D) (hk : WideAt.IsKeyLit k) (d : DataW Unit) : look (D.put k d) k = some d := by
  rw [look, if_pos (has_put_same hD hk d), atKey_put_same hD hk]
theorem look_put_other {D : DataW Unit} {k k' : Lit} (hne : k' ≠ k) (d : DataW Unit) : look (D.put k d) k' = look D k' := by
  rw [look, look, has_put_other hne, atKey_put_other hne]
theorem look_del_same {D : DataW Unit} {k : Lit} : look (D.del k) k = none := look_none has_del_same
theorem look_del_other {D : DataW Unit} {k k' : Lit} (hne : k' ≠ k) : look (D.del k) k' = look D k' := by
  rw [look, look, has_del_other hne, atKey_del_other hne]

/-- What the ids watch. -/
def setG (g : Nat → Option Rf) (i : Nat) (o : Option Rf) : Nat → Option Rf := fun j => if j = i then o else g j
theorem setG_same (g : Nat → Option Rf) (i : Nat) (o : Option Rf) : setG g i o i = o := by simp [setG]
theorem setG_other (g : Nat → Option Rf) {i j : Nat} (o : Option Rf) (h : j ≠ i) : setG g i o j = g j := by simp [setG, h]
def cardG (g : Nat → Option Rf) : Nat := cntP (fun i => (g i).isSome) 256
theorem cardG_set (g : Nat → Option Rf) {i : Nat} (o : Option Rf) (hi : i < 256) : cardG (setG g i o) + (if (g i).isSome then 1 else 0) = cardG g + (if o.isSome then 1 else 0) := by
  have := cntP_turn (p := fun i => (g i).isSome) (q := fun j => (setG g i o j).isSome) hi (fun j _ hne => by simp [setG_other g o hne])
  simpa [cardG, setG_same] using this
theorem cardG_le (g : Nat → Option Rf) : cardG g ≤ 256 := cntP_le _ _

/-- The first map reads as g. -/
structure Reads1 (D : DataW Unit) (g : Nat → Option Rf) : Prop where
  isMap : IsMap D
  rd : ∀ i : Nat, i < 256 → look D (.int .i64 i) = (g i).map refD
  keys : ∀ kl, Maps.has D kl = true → ∃ i : Nat, i < 256 ∧ kl = .int .i64 i
  size : Maps.size D = cardG g
theorem cardG_none : cardG (fun _ => none) = 0 := by
  unfold cardG cntP
  simp
theorem reads1_empty : Reads1 (.map []) (fun _ => none) :=
  ⟨isMap_empty, fun i _ => look_none rfl, fun kl h => by simp [Maps.has] at h, by rw [cardG_none]; rfl⟩
theorem key_int (i : Int) : WideAt.IsKeyLit (.int .i64 i) := trivial
theorem Reads1.has {D : DataW Unit} {g : Nat → Option Rf} (h : Reads1 D g) {i : Nat} (hi : i < 256) : Maps.has D (.int .i64 i) = (g i).isSome := by
  have := h.rd i hi
  cases hg : g i with
  | none => rw [hg] at this; exact has_false_of_look this
  | some r => rw [hg] at this; exact has_of_look this
theorem Reads1.put {D : DataW Unit} {g : Nat → Option Rf} (h : Reads1 D g) (ht : Tidy D) {i : Nat} {r : Rf} (hi : i < 256) : Reads1 (D.put (.int .i64 i) (refD r)) (setG g i (some r)) := by
  refine ⟨h.isMap.put _ _, fun j hj => ?_, fun kl hkl => ?_, ?_⟩
  · by_cases e : j = i
    · subst e; rw [setG_same, look_put_same h.isMap (key_int _)]; rfl
    · rw [setG_other g _ e, look_put_other (lit_ne e)]; exact h.rd j hj
  · by_cases e : kl = .int .i64 i
    · exact ⟨i, hi, e⟩
    · rw [has_put_other e] at hkl; exact h.keys kl hkl
  · rw [size_put ht, h.size, h.has hi]
    have := cardG_set g (some r) hi
    cases hg : g i <;> simp [hg] at this ⊢ <;> omega
theorem Reads1.del {D : DataW Unit} {g : Nat → Option Rf} (h : Reads1 D g) (ht : Tidy D) {i : Nat} (hi : i < 256) : Reads1 (D.del (.int .i64 i)) (setG g i none) := by
  refine ⟨h.isMap.del _, fun j hj => ?_, fun kl hkl => ?_, ?_⟩
  · by_cases e : j = i
    · subst e; rw [setG_same, look_del_same]; rfl
    · rw [setG_other g _ e, look_del_other (lit_ne e)]; exact h.rd j hj
  · by_cases e : kl = .int .i64 i
    · exact ⟨i, hi, e⟩
    · rw [has_del_other e] at hkl; exact h.keys kl hkl
  · have h1 := size_del (k := .int .i64 i) ht
    rw [h.size, h.has hi] at h1
    have := cardG_set g none hi
    cases hg : g i <;> simp [hg] at this h1 <;> omega

/-- The second map reads as g, the other way round; K: how an object reads as a key. -/
structure Reads2 (K : Rf → Lit) (D : DataW Unit) (g : Nat → Option Rf) : Prop where
  isMap : IsMap D
  yes : ∀ i r, g i = some r → look D (K r) = some (.lit (.int .i64 (i : Int)))
  no : ∀ r, refWf r → (∀ i, g i ≠ some r) → Maps.has D (K r) = false
  size : Maps.size D = cardG g
theorem reads2_empty (K : Rf → Lit) : Reads2 K (.map []) (fun _ => none) :=
  ⟨isMap_empty, fun i r h => by simp at h, fun _ _ _ => rfl, by rw [cardG_none]; rfl⟩
theorem Reads2.put {K : Rf → Lit} {D : DataW Unit} {g : Nat → Option Rf} (hK : ∀ r s, refWf r → refWf s → K r = K s → r = s) (hk : ∀ r, WideAt.IsKeyLit (K r)) (hw : ∀ i r, g i = some r → refWf r)
    (h : Reads2 K D g) (ht : Tidy D) {i : Nat} {r : Rf} (hi : i < 256) (hr : refWf r) (hg : g i = none) (hn : ∀ j, g j ≠ some r) : Reads2 K (D.put (K r) (.lit (.int .i64 (i : Int)))) (setG g i (some r)) := by
  refine ⟨h.isMap.put _ _, fun j s hj => ?_, fun s hs hno => ?_, ?_⟩
  · by_cases e : j = i
    · subst e
      rw [setG_same] at hj
      obtain rfl := Option.some.inj hj
      exact look_put_same h.isMap (hk _) _
    · rw [setG_other g _ e] at hj
      rw [look_put_other (fun hKs => hn j (by rw [← hK _ _ (hw j s hj) hr hKs]; exact hj))]
      exact h.yes j s hj
  · have hne : s ≠ r := fun e => hno i (by rw [setG_same, e])
    rw [has_put_other (fun hKs => hne (hK _ _ hs hr hKs))]
    refine h.no s hs fun j hj => hno j ?_
    by_cases e : j = i
    · subst e; rw [hg] at hj; cases hj
    · rw [setG_other g _ e]; exact hj
  · rw [size_put ht, h.size, h.no r hr hn]
    have := cardG_set g (some r) hi
    simp [hg] at this ⊢
    omega
theorem Reads2.del {K : Rf → Lit} {D : DataW Unit} {g : Nat → Option Rf} (hK : ∀ r s, refWf r → refWf s → K r = K s → r = s) (hw : ∀ i r, g i = some r → refWf r) (hinj : ∀ i j r, g i = some r → g j = some r → i = j)
    (h : Reads2 K D g) (ht : Tidy D) {i : Nat} {r : Rf} (hi : i < 256) (hg : g i = some r) : Reads2 K (D.del (K r)) (setG g i none) := by
  refine ⟨h.isMap.del _, fun j s hj => ?_, fun s hs hno => ?_, ?_⟩
  · by_cases e : j = i
    · subst e; rw [setG_same] at hj; cases hj
    · rw [setG_other g _ e] at hj
      rw [look_del_other (fun hKs => e (hinj j i r (by rw [← hK _ _ (hw j s hj) (hw i r hg) hKs]; exact hj) hg))]
      exact h.yes j s hj
  · by_cases e : s = r
    · subst e; exact has_del_same
    · rw [has_del_other (fun hKs => e (hK _ _ hs (hw i r hg) hKs))]
      refine h.no s hs fun j hj => hno j ?_
      by_cases e' : j = i
      · subst e'; rw [hg] at hj; exact absurd (Option.some.inj hj).symm e
      · rw [setG_other g _ e']; exact hj
  · have h1 := size_del (k := K r) ht
    rw [h.size, has_of_look (h.yes i r hg)] at h1
    have := cardG_set g none hi
    simp [hg] at this h1
    omega

/-- A table: its size, what its ids watch. -/
structure Pt where
  size : Nat
  g : Nat → Option Rf
/-- Objects that there can be. -/
def goodR (r : Rf) : Prop := 0 ≤ r.1 ∧ r.1 < 256 ∧ 0 < r.2 ∧ r.2 < 4294967296
instance (r : Rf) : Decidable (goodR r) := by unfold goodR; infer_instance
theorem goodR.wf {r : Rf} (h : goodR r) : refWf r := by
  obtain ⟨h1, h2, h3, h4⟩ := h
  exact ⟨WalkArith.wf_i64 (by omega), WalkArith.wf_u32 (by omega)⟩
structure Pt.ok (s : Pt) : Prop where
  pos : 1 ≤ s.size
  le : s.size ≤ 256
  good : ∀ i r, s.g i = some r → i < s.size ∧ goodR r
  inj : ∀ i j r, s.g i = some r → s.g j = some r → i = j
/-- The id that watches an object. -/
def Pt.byI (s : Pt) (r : Rf) : Option Nat := (List.range s.size).find? fun i => decide (s.g i = some r)
theorem byI_some {s : Pt} {r : Rf} {i : Nat} (h : s.byI r = some i) : s.g i = some r := by
  have := List.find?_some h
  simpa using this
theorem byI_none {s : Pt} (ho : s.ok) {r : Rf} (h : s.byI r = none) (i : Nat) : s.g i ≠ some r := by
  intro hi
  unfold Pt.byI at h
  rw [List.find?_eq_none] at h
  have := h i (List.mem_range.2 (ho.good i r hi).1)
  simp [hi] at this
theorem byI_of {s : Pt} (ho : s.ok) {r : Rf} {i : Nat} (h : s.g i = some r) : s.byI r = some i := by
  cases hb : s.byI r with
  | none => exact absurd h (byI_none ho hb i)
  | some j => rw [ho.inj i j r h (byI_some hb)]
def Pt.set (s : Pt) (i : Nat) (o : Option Rf) : Pt := ⟨s.size, setG s.g i o⟩
theorem Pt.ok.setNone {s : Pt} (h : s.ok) (i : Nat) : (s.set i none).ok := by
  refine ⟨h.pos, h.le, fun j r hj => ?_, fun j k r hj hk => ?_⟩
  · by_cases e : j = i
    · subst e; simp only [Pt.set, setG_same] at hj; cases hj
    · exact h.good j r (by simpa [Pt.set, setG_other _ _ e] using hj)
  · by_cases e : j = i
    · subst e; simp only [Pt.set, setG_same] at hj; cases hj
    · by_cases e' : k = i
      · subst e'; simp only [Pt.set, setG_same] at hk; cases hk
      · exact h.inj j k r (by simpa [Pt.set, setG_other _ _ e] using hj) (by simpa [Pt.set, setG_other _ _ e'] using hk)
theorem Pt.ok.setSome {s : Pt} (h : s.ok) {i : Nat} {r : Rf} (hi : i < s.size) (hr : goodR r) (hn : ∀ j, s.g j ≠ some r) : (s.set i (some r)).ok := by
  refine ⟨h.pos, h.le, fun j x hj => ?_, fun j k x hj hk => ?_⟩
  · by_cases e : j = i
    · subst e
      simp only [Pt.set, setG_same] at hj
      obtain rfl := Option.some.inj hj
      exact ⟨hi, hr⟩
    · exact h.good j x (by simpa [Pt.set, setG_other _ _ e] using hj)
  · by_cases e : j = i
    · subst e
      simp only [Pt.set, setG_same] at hj
      obtain rfl := Option.some.inj hj
      by_cases e' : k = j
      · exact e'.symm
      · exact absurd (by simpa [Pt.set, setG_other _ _ e'] using hk) (hn k)
    · by_cases e' : k = i
      · subst e'
        simp only [Pt.set, setG_same] at hk
        obtain rfl := Option.some.inj hk
        exact absurd (by simpa [Pt.set, setG_other _ _ e] using hj) (hn j)
      · exact h.inj j k x (by simpa [Pt.set, setG_other _ _ e] using hj) (by simpa [Pt.set, setG_other _ _ e'] using hk)
/-- What an id watches; an id that there is not watches nothing. -/
def Pt.ofI (s : Pt) (id : Int) : Option Rf := if 0 ≤ id ∧ id < s.size then s.g id.toNat else none
def Pt.addE (s : Pt) (id : Int) (r : Rf) : Int :=
  if 0 ≤ id ∧ id < s.size then (if goodR r then (if (s.ofI id).isSome ∨ (s.byI r).isSome then 6 else 0) else 2) else 3
def Pt.addS (s : Pt) (id : Int) (r : Rf) : Pt := if s.addE id r = 0 then s.set id.toNat (some r) else s
def Pt.clrE (s : Pt) (id : Int) : Int := if 0 ≤ id ∧ id < s.size then (if (s.ofI id).isSome then 0 else 5) else 3
def Pt.clrR (s : Pt) (id : Int) : Rf := (s.ofI id).getD (0, 0)
def Pt.clrS (s : Pt) (id : Int) : Pt := if (s.ofI id).isSome then s.set id.toNat none else s
def Pt.card (s : Pt) : Nat := cardG s.g

end Go.Proofs.Ytlndkmejmolnhaa
