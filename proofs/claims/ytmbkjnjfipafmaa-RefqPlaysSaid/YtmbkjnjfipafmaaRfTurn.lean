/-
  One turn of a known reference queue: what it does, as plain functions. Conditions: none.
-/
import Derived.Test.YtmbkjnjfipafmaaRfLaw
import Derived.Deep.DeepCutAuto
import Derived.Deep.CutBlock
namespace Go.Proofs.Ytmbkjnjfipafmaa
open Go.RowKit Go.Maps

/-- What a turn does. -/
def turnS (s : Rs) (kd a o : Nat) : Rs := if kd % 6 ≤ 1 then s.regS' ((a % s.size : Nat) : Int) (objR o) else if kd % 6 ≤ 3 then s.fndS (objR o) else if kd % 6 = 4 then s.pollS else s.canS ((a % s.size : Nat) : Int)
def TurnPost (kb : Nat) (B : RfB) (h : Nat) (s : Rs) (w : World) (e : Ending) (w' : World) : Prop := ∃ v, e = .returned (.bool true) ∧ KnAt w' kb B h v s ∧ Upd (kb :: h :: B.S) w w'
theorem regS_size (s : Rs) (i : Int) (r : Rf) : (s.regS' i r).size = s.size ∧ (s.regS' i r).places = s.places := by
  unfold Rs.regS' Rs.regS
  repeat' split
  all_goals exact ⟨rfl, rfl⟩
theorem fndS_size (s : Rs) (r : Rf) : (s.fndS r).size = s.size ∧ (s.fndS r).places = s.places := by
  unfold Rs.fndS
  repeat' split
  all_goals exact ⟨rfl, rfl⟩
theorem canS_size (s : Rs) (i : Int) : (s.canS i).size = s.size ∧ (s.canS i).places = s.places := by
  unfold Rs.canS
  split
  all_goals exact ⟨rfl, rfl⟩
theorem turnS_size (s : Rs) (kd a o : Nat) : (turnS s kd a o).size = s.size ∧ (turnS s kd a o).places = s.places := by
  unfold turnS
  repeat' split
  · exact regS_size _ _ _
  · exact fndS_size _ _
  · exact ⟨rfl, rfl⟩
  · exact canS_size _ _
theorem objR_wf (o : Nat) : refWf (objR o) := (objR_good o).wf
theorem Parts.kb {w w' : World} {B : RfB} {p : Pt} {q : Qu} {f : Nat → Nat} (h : Parts w B p q f) {S : List Nat} (u : Upd S w w') (hn : ∀ x, x ∈ B.all → x ∉ S) : Parts w' B p q f :=
  ⟨u.keep h.blk (hn _ (by simp [RfB.all])), h.t.upd u (hn _ (by simp [RfB.all])) (hn _ (by simp [RfB.all])) (hn _ (by simp [RfB.all])), h.q.upd u (hn _ (by simp [RfB.all])), h.c.upd u (hn _ (by simp [RfB.all])) (hn _ (by simp [RfB.all])), h.ne⟩
/-- Where an id waits. -/
theorem fndI_in {l : List Int} {i : Int} (h : i ∈ l) : ∃ j : Nat, fndI l i = j ∧ fnd l i = some j ∧ j < l.length := by
  cases hf : fnd l i with
  | none => exact absurd h (fnd_none.1 hf)
  | some j => exact ⟨j, by rw [fndI, hf], rfl, (fnd_spec hf).1⟩
theorem fndI_out {l : List Int} {i : Int} (h : i ∉ l) : fndI l i = -1 := by rw [fndI, fnd_none.2 h]
theorem headD_of {l : List Int} (h : 0 < l.length) : l.headD 0 = l[0] := by
  cases l with
  | nil => simp at h
  | cons x l => rfl
theorem notEmpty_of {l : List Int} (h : 0 < l.length) : (!l.isEmpty) = true := by
  cases l with
  | nil => simp at h
  | cons x l => rfl
theorem pollS_nil {s : Rs} (h : s.l.length = 0) : s.pollS = s := by
  obtain ⟨a, b, g, l⟩ := s
  have : l = [] := List.eq_nil_of_length_eq_zero h
  subst this
  rfl
theorem canS_rem {s : Rs} {i : Nat} (hi : i < s.size) : s.canS i = s.remS i := by
  unfold Rs.canS Rs.canB
  rw [Int.toNat_natCast, decide_eq_true ⟨by omega, by omega⟩]
  by_cases hz : s.cl i = 0
  · rw [hz]
    obtain ⟨h1, h2⟩ := cl_zero hz
    obtain ⟨a, b, g, l⟩ := s
    have e1 : Go.Proofs.Ytmbkjnjfipafmaa.setG g i none = g := psetG_none h1
    have e2 : l.erase (i : Int) = l := List.erase_of_not_mem h2
    simp [Rs.remS, e1, e2]
  · rw [if_pos (by simpa using hz)]
theorem canB_eq {s : Rs} {i : Nat} (hi : i < s.size) : s.canB i = decide (s.cl i ≠ 0) := by
  unfold Rs.canB
  rw [Int.toNat_natCast, decide_eq_true ⟨by omega, by omega⟩]
  simp
theorem erase_idx {l : List Int} {i : Int} {j : Nat} (h : fnd l i = some j) : l.erase i = l.eraseIdx j := by
  have := remS_erase ⟨0, l⟩ i
  unfold Qu.remS at this
  rw [h] at this
  simpa using this.symm

end Go.Proofs.Ytmbkjnjfipafmaa
