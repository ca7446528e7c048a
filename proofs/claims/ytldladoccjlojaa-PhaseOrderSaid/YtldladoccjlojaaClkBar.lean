/-
  Barriers as plain functions: how often a barrier has changed in a cycle, and what a turn does to it. Conditions: none.
-/
import Derived.Test.YtldladoccjlojaaClkMore
import Derived.Test.YtldladoccjlojaaRow
namespace Go.Proofs.Ytldladoccjlojaa
open Go.RowKit

/-- How often the barrier of mutator m has changed in this cycle. -/
def Ck.chg (k : Ck) (m : Nat) : Nat := if k.p = 0 then 0 else if k.p = 1 then (if k.s m = true then 1 else 0) else if k.p ≤ 3 then 1 else 2
theorem rd_s {k : Ck} (h : k.rd = true) {m : Nat} (hok : k.ok) (hm : m < k.n) : k.s m = true := by
  have h4 := hok.2.1
  simp only [Ck.rd, Bool.and_eq_true, beq_iff_eq] at h
  obtain ⟨⟨⟨h0, h1⟩, h2⟩, h3⟩ := h
  have : m = 0 ∨ m = 1 ∨ m = 2 ∨ m = 3 := by omega
  rcases this with rfl | rfl | rfl | rfl
  · rw [h0]; simpa using hm
  · rw [h1]; simpa using hm
  · rw [h2]; simpa using hm
  · rw [h3]; simpa using hm
theorem rd_all {k : Ck} (hok : k.ok) : k.rd = allTo k.s k.n := by
  cases h : allTo k.s k.n
  · cases h2 : k.rd
    · rfl
    · have := (allTo_iff k.s k.n).2 (fun i hi => rd_s h2 hok hi)
      rw [this] at h; cases h
  · have ha := (allTo_iff k.s k.n).1 h
    have hz := hok.2.2.2.2
    have key : ∀ i, k.s i = decide (i < k.n) := fun i => by
      by_cases hi : i < k.n
      · rw [ha i hi]; simp [hi]
      · rw [hz i (by omega)]; simp [hi]
    simp only [Ck.rd, key, beq_self_eq_true, Bool.and_self]
theorem turn_cases (k : Ck) (t : Int) : (k.turn t = k) ∨ (k.p = 0 ∧ k.turn t = k.to 1) ∨ (k.p ≠ 0 ∧ (k.shakes = true → k.rd = true) ∧ k.turn t = k.next) ∨ (k.shakes = true ∧ ∃ j, k.turn t = k.ack j) := by
  unfold Ck.turn
  split
  · split
    · right; left; exact ⟨‹_›, rfl⟩
    · left; rfl
  · split
    · split
      · left; rfl
      · split
        · left; rfl
        · rename_i h1 h2
          right; right; left
          refine ⟨h1, fun hs => ?_, rfl⟩
          cases hr : k.rd
          · exact absurd ⟨hs, hr⟩ h2
          · rfl
    · split
      · right; right; right; exact ⟨‹_›, _, rfl⟩
      · left; rfl
theorem bar_step (k : Ck) (t : Int) (m : Nat) (hok : k.ok) (hm : m < k.n) :
    ((k.turn t).bar m = true → k.bar m = false → k.p = 1) ∧ ((k.turn t).bar m = false → k.bar m = true → k.p = 3) ∧
      (k.turn t).chg m = (if (k.turn t).p = 0 then 0 else k.chg m) + (if (k.turn t).bar m = k.bar m then 0 else 1) := by
  have hrs := fun h => rd_s (k := k) h hok hm
  have hp : k.p = 0 ∨ k.p = 1 ∨ k.p = 2 ∨ k.p = 3 ∨ k.p = 4 ∨ k.p = 5 := by have := hok.2.2.1; omega
  rcases turn_cases k t with h | ⟨h0, h⟩ | ⟨h0, hr, h⟩ | ⟨hs, j, h⟩
  · rw [h]
    refine ⟨(fun a b => absurd (a.symm.trans b) (by simp)), (fun a b => absurd (a.symm.trans b) (by simp)), ?_⟩
    by_cases e : k.p = 0
    · simp [e, Ck.chg]
    · simp [e]
  · rw [h]
    simp [Ck.bar, Ck.to, Ck.chg, h0]
  · rw [h]
    obtain ⟨p, n, c, s⟩ := k
    rcases hp with rfl | rfl | rfl | rfl | rfl | rfl <;> simp_all [Ck.bar, Ck.next, Ck.chg, Ck.shakes]
  · rw [h]
    obtain ⟨p, n, c, s⟩ := k
    have h12 : p = 1 ∨ p = 2 := by simpa [Ck.shakes] using hs
    rcases h12 with rfl | rfl
    · by_cases e : m = j
      · subst e; cases hsm : s m <;> simp_all [Ck.bar, Ck.ack, Ck.chg]
      · cases hsm : s m <;> simp_all [Ck.bar, Ck.ack, Ck.chg]
    · simp [Ck.bar, Ck.ack, Ck.chg]
theorem chg_le (k : Ck) (m : Nat) : k.chg m ≤ 2 := by
  unfold Ck.chg; repeat' split
  all_goals omega
theorem bar_0 {k : Ck} {m : Nat} (h : k.p = 0) : k.bar m = false := by simp [Ck.bar, h]
theorem bar_1 {k : Ck} {m : Nat} (h : k.p = 1) : k.bar m = k.s m := by simp [Ck.bar, h]
theorem bar_2 {k : Ck} {m : Nat} (h : k.p = 2) : k.bar m = true := by simp [Ck.bar, h]
theorem bar_3 {k : Ck} {m : Nat} (h : k.p = 3) : k.bar m = true := by simp [Ck.bar, h]
theorem bar_4 {k : Ck} {m : Nat} (h : k.p = 4) : k.bar m = false := by simp [Ck.bar, h]
theorem bar_5 {k : Ck} {m : Nat} (h : k.p = 5) : k.bar m = false := by simp [Ck.bar, h]

end Go.Proofs.Ytldladoccjlojaa
