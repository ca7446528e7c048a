/-
  The examples of the chapter hold: 'works' returns true and writes nothing that was there. Conditions: none.
-/
import Derived.Test.YtphpimbhhmkdkaaCln
namespace Go.Proofs.Ytphpimbhhmkdkaa
open Go.RowKit Go.Maps

set_option maxRecDepth 100000 in
set_option maxHeartbeats 1000000 in
theorem works_ok (w : World) : Calls Try.prog 15 #[] w fun e w' => e = .returned (.bool true) ∧ Upd [] w w' := by
  go_enter Try.func15, Try.ntmps15
  go_wp2_with fail
  refine (new_at _).mono ?_; rintro e w1 ⟨rfl, a1, u1⟩
  have hm : w.heap.size ≤ w.heap.size := Nat.le_refl _
  generalize hM : w.heap.size = m at a1 hm ⊢
  have HM := Lib.hid hM; clear hM
  generalize m + 1 = b at *
  go_wp2_with fail
  refine (arm_new b m _ 4 _ a1 (by decide) rfl).mono ?_; rintro e w2 ⟨rfl, a2, u2⟩
  go_wp2_with fail
  refine (arm_have b m _ 4 _ a2 (by decide) (by decide)).mono ?_; rintro e wx ⟨rfl, rfl⟩
  go_wp2_with fail
  refine (arm_new b m _ 7 _ a2 (by decide) rfl).mono ?_; rintro e w3 ⟨rfl, a3, u3⟩
  go_wp2_with fail
  refine (arm_beyond b m _ 256 _ a3 (by omega)).mono ?_; rintro e wx ⟨rfl, rfl⟩
  go_wp2_with fail
  refine (fire_armed b m _ 4 _ a3 (by decide) rfl).mono ?_; rintro e w4 ⟨rfl, a4, u4⟩
  go_wp2_with fail
  refine (fire_not b m _ 4 _ a4 (by decide) (by decide)).mono ?_
  rw [show findE (upd (upd (upd (fun _ => 0) 4 1) 7 1) 4 2) 4 = 0 from rfl]; rintro e wx ⟨rfl, rfl⟩
  go_wp2_with fail
  refine (cancel_not b m _ 4 _ a4 (by decide) (by decide)).mono ?_
  rw [show findE (upd (upd (upd (fun _ => 0) 4 1) 7 1) 4 2) 4 = 0 from rfl]; rintro e wx ⟨rfl, rfl⟩
  go_wp2_with fail
  refine (get_in b m _ 4 _ a4 (by decide) (by decide)).mono ?_
  rw [show upd (upd (upd (fun _ => 0) 4 1) 7 1) 4 2 4 = 2 from rfl]; rintro e w5 ⟨rfl, u5⟩
  have a5 := a4.upd u5 (by simp) (by simp)
  have hb5 := a5.lt
  have hm5 := a5.mlt
  go_wp2_with fail
  have hx : (w5.alloc (Obj.cells #[.int .i64 4, .int .i64 2] 31)).heap[w5.heap.size]? = some (.cells #[.int .i64 4, .int .i64 2] 31 (0, 0)) := new_of _ _
  have a5' := a5.upd ((Upd.refl [] w5).alloc (Obj.cells #[.int .i64 4, .int .i64 2] 31)) (by simp) (by simp)
  have u5' : Upd [] w4 (w5.alloc (Obj.cells #[.int .i64 4, .int .i64 2] 31)) := u5.alloc _
  generalize w5.alloc (Obj.cells #[.int .i64 4, .int .i64 2] 31) = w6 at *
  generalize w5.heap.size = X at hx ⊢
  have hXm : X ≠ m := by
    rintro rfl
    obtain ⟨_, _, ⟨es, c, hm', _⟩, _⟩ := a5'
    rw [hx] at hm'; simp at hm'
  refine (cancel_armed b m _ 7 _ a5' (by decide) rfl).mono ?_; rintro e w7 ⟨rfl, a7, u7⟩
  go_wp2_with fail
  refine (fire_not b m _ 7 _ a7 (by decide) (by decide)).mono ?_
  rw [show findE (upd (upd (upd (upd (fun _ => 0) 4 1) 7 1) 4 2) 7 3) 7 = 0 from rfl]; rintro e wx ⟨rfl, rfl⟩
  go_wp2_with fail
  refine (counts_at b m _ _ a7).mono ?_
  rw [show cnt (upd (upd (upd (upd (fun _ => 0) 4 1) 7 1) 4 2) 7 3) 1 = 0 from by decide +kernel, show cnt (upd (upd (upd (upd (fun _ => 0) 4 1) 7 1) 4 2) 7 3) 2 = 1 from by decide +kernel, show cnt (upd (upd (upd (upd (fun _ => 0) 4 1) 7 1) 4 2) 7 3) 3 = 1 from by decide +kernel]
  rintro e w8 ⟨rfl, u8⟩
  have a8 := a7.upd u8 (by simp) (by simp)
  have hx8 := u8.keep (u7.keep hx (by simpa using hXm)) (by simp)
  have x0 : w8.cell? ⟨X, 0, none⟩ = some (.int .i64 4) := cell_of hx8 0
  have x1 : w8.cell? ⟨X, 1, none⟩ = some (.int .i64 2) := cell_of hx8 1
  clear hx8 hx
  go_wp2_with fail
  refine (arm_have b m _ 4 _ a8 (by decide) (by decide)).mono ?_; rintro e wx ⟨rfl, rfl⟩
  go_wp2_with fail
  refine (forget_done b m _ 4 _ a8 (by decide) (by decide) (by decide)).mono ?_; rintro e w9 ⟨rfl, a9, u9⟩
  go_wp2_with fail
  refine (arm_new b m _ 4 _ a9 (by decide) rfl).mono ?_; rintro e w10 ⟨rfl, a10, u10⟩
  go_wp2_with fail
  refine (forget_armed b m _ 4 _ a10 (by decide) rfl).mono ?_; rintro e wx ⟨rfl, rfl⟩
  go_wp2_with fail
  refine (len_at b m _ _ a10).mono ?_
  rw [show card (upd (upd (upd (upd (upd (upd (fun _ => 0) 4 1) 7 1) 4 2) 7 3) 4 0) 4 1) = 2 from by decide +kernel]
  rintro e wx ⟨rfl, rfl⟩
  go_wp2_with fail
  go_ret
  have hw : w.heap.size ≤ m := Nat.le_of_eq HM.out
  exact ⟨rfl, (((((((u1.fresh1 u2 hw).fresh1 u3 hw).fresh1 u4 hw).trans u5').fresh1 u7 hw).trans u8).fresh1 u9 hw).fresh1 u10 hw⟩

end Go.Proofs.Ytphpimbhhmkdkaa
