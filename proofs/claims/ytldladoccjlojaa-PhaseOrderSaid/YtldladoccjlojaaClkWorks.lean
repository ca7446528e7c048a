/-
  The examples of the chapter hold: 'works' returns true and writes nothing that was there. Conditions: none.
-/
import Derived.Test.YtldladoccjlojaaClk2
namespace Go.Proofs.Ytldladoccjlojaa
open Go.RowKit

set_option maxRecDepth 100000 in
set_option maxHeartbeats 2000000 in
theorem works_ok (w : World) : Calls Try.prog 10 #[] w fun e w' => e = .returned (.bool true) ∧ Upd [] w w' := by
  go_enter Try.func10, Try.ntmps10
  go_wp2_with fail
  refine (new_at 2 _ (by omega) (by omega)).mono ?_; rintro e w1 ⟨rfl, a1, u1⟩
  have hw0 : w.heap.size ≤ w.heap.size := Nat.le_refl _
  generalize hb : w.heap.size = b at a1 ⊢
  have HW := Lib.hid (Nat.le_of_eq hb); clear hb hw0
  go_wp2_with fail
  refine (ack_not b _ 0 _ a1 (by decide) (by decide)).mono ?_; rintro e wx ⟨rfl, rfl⟩
  go_wp2_with fail
  refine (go_idle b _ _ a1 rfl).mono ?_; rintro e wx ⟨rfl, rfl⟩
  go_wp2_with fail
  refine (begin_idle b _ _ a1 rfl).mono ?_; rintro e w2 ⟨rfl, a2, u2⟩
  go_wp2_with fail
  refine (begin_not b _ _ a2 (by decide)).mono ?_; rintro e wx ⟨rfl, rfl⟩
  go_wp2_with fail
  refine (ack_in b _ 1 _ a2 (by decide) (by decide)).mono ?_
  rw [show ((ckNew 2).to 1).s 1 = false from rfl]; rintro e w3 ⟨rfl, a3, u3⟩
  go_wp2_with fail
  refine (ack_in b _ 1 _ a3 (by decide) (by decide)).mono ?_
  rw [show (((ckNew 2).to 1).ack 1).s 1 = true from rfl]; rintro e w4 ⟨rfl, a4, u4⟩
  go_wp2_with fail
  refine (go_busy b _ _ a4 (by decide) (by decide)).mono ?_; rintro e w5 ⟨rfl, u5⟩
  have a5 := a4.upd u5 (by simp)
  go_wp2_with fail
  refine (barrier_in b _ 0 _ a5 (by decide)).mono ?_
  rw [show ((((ckNew 2).to 1).ack 1).ack 1).bar 0 = false from by decide]; rintro e wx ⟨rfl, rfl⟩
  go_wp2_with fail
  refine (barrier_in b _ 1 _ a5 (by decide)).mono ?_
  rw [show ((((ckNew 2).to 1).ack 1).ack 1).bar 1 = true from by decide]; rintro e wx ⟨rfl, rfl⟩
  go_wp2_with fail
  refine (ack_in b _ 0 _ a5 (by decide) (by decide)).mono ?_
  rw [show ((((ckNew 2).to 1).ack 1).ack 1).s 0 = false from rfl]; rintro e w6 ⟨rfl, a6, u6⟩
  go_wp2_with fail
  refine (ready_shakes b _ true _ a6 (by decide) (by decide)).mono ?_; rintro e w7 ⟨rfl, u7⟩
  have a7 := a6.upd u7 (by simp)
  go_wp2_with fail
  refine (go_next b _ _ a7 (by decide) (by decide) (by decide)).mono ?_; rintro e w8 ⟨rfl, a8, u8⟩
  generalize hk : (((((ckNew 2).to 1).ack 1).ack 1).ack 0).next = k at a8
  have hk0 : k.s 0 = false := by rw [← hk]; rfl
  have hkp : k.p = 2 := by rw [← hk]; rfl
  have hkb : k.bar 0 = true := by rw [← hk]; decide
  have hkc : k.c = 0 := by rw [← hk]; decide
  have hkn : 0 < k.n := by rw [← hk]; decide
  have K0 := Lib.hid hk0; have KP := Lib.hid hkp; have KB := Lib.hid hkb; have KC := Lib.hid hkc
  clear hk hk0 hkp hkb hkc
  go_wp2_with fail
  refine (seen_in b k 0 _ a8 hkn).mono ?_; rw [K0.out]; rintro e wx ⟨rfl, rfl⟩
  go_wp2_with fail
  refine (phase_at b k _ a8).mono ?_; rw [KP.out]; rintro e wx ⟨rfl, rfl⟩
  go_wp2_with fail
  refine (barrier_in b k 0 _ a8 hkn).mono ?_; rw [KB.out]; rintro e wx ⟨rfl, rfl⟩
  go_wp2_with fail
  refine (cycles_at b k _ a8).mono ?_; rw [KC.out]; rintro e wx ⟨rfl, rfl⟩
  go_wp2_with fail
  go_ret
  have hw := HW.out
  exact ⟨rfl, (((((((u1.fresh1 u2 hw).fresh1 u3 hw).fresh1 u4 hw).trans u5).fresh1 u6 hw).trans u7).fresh1 u8 hw)⟩

end Go.Proofs.Ytldladoccjlojaa
