/-
  More of clocks: Ready's answer as one word; answers only in a handshake. Conditions: none.
-/
import Derived.Test.YtldladoccjlojaaClkTurn
namespace Go.Proofs.Ytldladoccjlojaa
open Go.RowKit

def Ck.ready (k : Ck) : Bool := k.shakes && k.rd
theorem ready_at (b : Nat) (k : Ck) (w : World) (h : CkAt w b k) : Calls Try.prog 12 #[.pointer (some ⟨b, 0, none⟩)] w fun e w' => e = .returned (.bool k.ready) ∧ Upd [] w w' := by
  cases hs : k.shakes
  · rw [show k.ready = false from by simp [Ck.ready, hs]]
    exact ready_not b k w h hs
  · rw [show k.ready = k.rd from by simp [Ck.ready, hs]]
    exact ready_shakes b k k.rd w h hs rfl
/-- Answers lie there only in a handshake. -/
def Ck.inv (k : Ck) : Prop := ∀ i, k.s i = true → k.shakes = true
theorem inv_new (n : Nat) : (ckNew n).inv := fun i h => by simp [ckNew] at h
theorem inv_to (k : Ck) (p : Nat) : (k.to p).inv := fun i h => by simp [Ck.to] at h
theorem inv_next (k : Ck) : k.next.inv := fun i h => by simp [Ck.next] at h
theorem inv_ack (k : Ck) (j : Nat) (h : k.shakes = true) : (k.ack j).inv := fun _ _ => h
theorem inv_turn (k : Ck) (t : Int) (h : k.inv) : (k.turn t).inv := by
  unfold Ck.turn
  split
  · split
    · exact inv_to _ _
    · exact h
  · split
    · split
      · exact h
      · split
        · exact h
        · exact inv_next _
    · split
      · rename_i hs; exact inv_ack _ _ hs
      · exact h
theorem ack_same (k : Ck) (j : Nat) (h : k.s j = true) : k.ack j = k := by
  obtain ⟨p, n, c, s⟩ := k
  simp only [Ck.ack, Ck.mk.injEq, true_and]
  funext i
  by_cases e : i = j
  · subst e; rw [if_pos rfl]; exact h.symm
  · rw [if_neg e]

end Go.Proofs.Ytldladoccjlojaa
