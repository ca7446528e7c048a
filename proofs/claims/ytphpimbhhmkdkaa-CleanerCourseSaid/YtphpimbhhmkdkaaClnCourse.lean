/-
  CleanerCourse. Conditions: none.
-/
import Derived.Test.YtphpimbhhmkdkaaClnWorks
namespace Go.Proofs.Ytphpimbhhmkdkaa
open Go.RowKit Go.Maps

theorem findE_1 {f : Nat → Nat} {i : Nat} (h : f i ≠ 0) : findE f i = 0 := by rw [findE, if_neg h]

theorem upd_zero {g : Nat → Nat} {k : Nat} (h : ∀ j, j ≠ k → g j = 0) (j : Nat) : upd g k 0 j = 0 := by
  by_cases e : j = k
  · rw [e, upd_same]
  · rw [upd_other _ _ e, h j e]

set_option maxRecDepth 100000 in
set_option maxHeartbeats 4000000 in
theorem course_ok (i t : Int) (c : Bool) (w : World) (hi0 : 0 ≤ i) (hi1 : i < 256) (ht0 : 0 ≤ t) (ht1 : t < 256) :
    Calls Try.prog 4 #[.int .u8 i, .bool c, .int .u8 t] w fun e w' => e = .returned (.bool true) ∧ Upd [] w w' := by
  obtain ⟨k, rfl⟩ : ∃ k : Nat, i = k := ⟨i.toNat, by omega⟩
  obtain ⟨K, hK⟩ : ∃ K : Nat, 1 + t % 20 = K := ⟨(1 + t % 20).toNat, by omega⟩
  have hK1 : K ≤ 20 := by omega
  have hk : k < 256 := by omega
  go_enter Try.func4, Try.ntmps4
  go_wp2_with fail
  refine (new_at _).mono ?_; rintro e w1 ⟨rfl, a1, u1⟩
  have hm0 : w.heap.size ≤ w.heap.size := Nat.le_refl _
  generalize hM : w.heap.size = m at a1 hm0 ⊢
  have HM := Lib.hid (Nat.le_of_eq hM); clear hM
  generalize m + 1 = b at *
  go_wp2_with fail
  go_loopw [26] (fun x wr => ∃ (n : Nat) (f : Nat → Nat), n ≤ K ∧ x = .int .u8 n ∧ ClAt wr b m f ∧ (∀ j, f j = 0) ∧ Upd [] w wr) (fun x _ => K - (intOf x).toNat)
  case atStart => exact ⟨0, fun _ => 0, by omega, rfl, a1, fun _ => rfl, u1⟩
  case round =>
    obtain ⟨n, f, hn, rfl, a, hz, hup⟩ := hrel
    by_cases hlt : n < K
    · cases c
      · skip
        go_wp2_with fail
        refine (arm_new b m f k _ a hk (hz k)).mono ?_; rintro e w2 ⟨rfl, a2, u2⟩
        go_wp2_with fail
        refine (arm_have b m _ k _ a2 hk (by rw [upd_same]; omega)).mono ?_; rintro e wx ⟨rfl, rfl⟩
        go_wp2_with fail
        refine (forget_armed b m _ k _ a2 hk (upd_same _ _ _)).mono ?_; rintro e wx ⟨rfl, rfl⟩
        go_wp2_with fail
        refine (fire_armed b m _ k _ a2 hk (upd_same _ _ _)).mono ?_; rintro e w3 ⟨rfl, a3, u3⟩
        have hs : upd (upd f k 1) k 2 k = 2 := upd_same _ _ _
        have hw := HM.out
        have up3 : Upd [] w w3 := (hup.fresh1 u2 hw).fresh1 u3 hw
        have hz3 : ∀ j, j ≠ k → upd (upd f k 1) k 2 j = 0 := fun j hj => by rw [upd_other _ _ hj, upd_other _ _ hj, hz]
        generalize upd (upd f k 1) k 2 = g at *
        have hE : findE g k = 0 := findE_1 (by omega)
        go_wp2_with fail
        refine (cancel_not b m _ k _ a3 hk (by omega)).mono ?_; rw [hE]; rintro e wx ⟨rfl, rfl⟩
        go_wp2_with fail
        refine (fire_not b m _ k _ a3 hk (by omega)).mono ?_; rw [hE]; rintro e wx ⟨rfl, rfl⟩
        go_wp2_with fail
        refine (get_in b m _ k _ a3 hk (by omega)).mono ?_; rw [hs]; rintro e w4 ⟨rfl, u4⟩
        have a4 := a3.upd u4 (by simp) (by simp)
        go_wp2_with fail
        have hx : (w4.alloc (Obj.cells #[.int .i64 k, .int .i64 2] 31)).heap[w4.heap.size]? = some (.cells #[.int .i64 k, .int .i64 2] 31 (0, 0)) := new_of _ _
        have a5 := a4.upd ((Upd.refl [] w4).alloc (Obj.cells #[.int .i64 k, .int .i64 2] 31)) (by simp) (by simp)
        have up5 : Upd [] w (w4.alloc (Obj.cells #[.int .i64 k, .int .i64 2] 31)) := (up3.trans u4).alloc _
        generalize w4.alloc (Obj.cells #[.int .i64 k, .int .i64 2] 31) = w5 at *
        generalize w4.heap.size = X at hx ⊢
        have x0 : w5.cell? ⟨X, 0, none⟩ = some (.int .i64 k) := cell_of hx 0
        have x1 : w5.cell? ⟨X, 1, none⟩ = some (.int .i64 2) := cell_of hx 1
        clear hx
        have hbl := a5.lt
        go_wp2_with fail
        refine (arm_have b m _ k _ a5 hk (by omega)).mono ?_; rintro e wx ⟨rfl, rfl⟩
        go_wp2_with fail
        refine (forget_done b m _ k _ a5 hk (by omega) (by omega)).mono ?_; rintro e w6 ⟨rfl, a6, u6⟩
        go_wp2_with fail
        refine (forget_none b m _ k _ a6 hk (upd_same _ _ _)).mono ?_; rintro e wx ⟨rfl, rfl⟩
        go_wp2_with fail
        go_roundw
        case rel => exact ⟨n + 1, _, by omega, rfl, a6, upd_zero hz3, up5.fresh1 u6 hw⟩
        case measure => simp [intOf]; omega
      · skip
        go_wp2_with fail
        refine (arm_new b m f k _ a hk (hz k)).mono ?_; rintro e w2 ⟨rfl, a2, u2⟩
        go_wp2_with fail
        refine (arm_have b m _ k _ a2 hk (by rw [upd_same]; omega)).mono ?_; rintro e wx ⟨rfl, rfl⟩
        go_wp2_with fail
        refine (forget_armed b m _ k _ a2 hk (upd_same _ _ _)).mono ?_; rintro e wx ⟨rfl, rfl⟩
        go_wp2_with fail
        refine (cancel_armed b m _ k _ a2 hk (upd_same _ _ _)).mono ?_; rintro e w3 ⟨rfl, a3, u3⟩
        have hs : upd (upd f k 1) k 3 k = 3 := upd_same _ _ _
        have hw := HM.out
        have up3 : Upd [] w w3 := (hup.fresh1 u2 hw).fresh1 u3 hw
        have hz3 : ∀ j, j ≠ k → upd (upd f k 1) k 3 j = 0 := fun j hj => by rw [upd_other _ _ hj, upd_other _ _ hj, hz]
        generalize upd (upd f k 1) k 3 = g at *
        have hE : findE g k = 0 := findE_1 (by omega)
        go_wp2_with fail
        refine (fire_not b m _ k _ a3 hk (by omega)).mono ?_; rw [hE]; rintro e wx ⟨rfl, rfl⟩
        go_wp2_with fail
        refine (cancel_not b m _ k _ a3 hk (by omega)).mono ?_; rw [hE]; rintro e wx ⟨rfl, rfl⟩
        go_wp2_with fail
        refine (get_in b m _ k _ a3 hk (by omega)).mono ?_; rw [hs]; rintro e w4 ⟨rfl, u4⟩
        have a4 := a3.upd u4 (by simp) (by simp)
        go_wp2_with fail
        have hx : (w4.alloc (Obj.cells #[.int .i64 k, .int .i64 3] 31)).heap[w4.heap.size]? = some (.cells #[.int .i64 k, .int .i64 3] 31 (0, 0)) := new_of _ _
        have a5 := a4.upd ((Upd.refl [] w4).alloc (Obj.cells #[.int .i64 k, .int .i64 3] 31)) (by simp) (by simp)
        have up5 : Upd [] w (w4.alloc (Obj.cells #[.int .i64 k, .int .i64 3] 31)) := (up3.trans u4).alloc _
        generalize w4.alloc (Obj.cells #[.int .i64 k, .int .i64 3] 31) = w5 at *
        generalize w4.heap.size = X at hx ⊢
        have x0 : w5.cell? ⟨X, 0, none⟩ = some (.int .i64 k) := cell_of hx 0
        have x1 : w5.cell? ⟨X, 1, none⟩ = some (.int .i64 3) := cell_of hx 1
        clear hx
        have hbl := a5.lt
        go_wp2_with fail
        refine (arm_have b m _ k _ a5 hk (by omega)).mono ?_; rintro e wx ⟨rfl, rfl⟩
        go_wp2_with fail
        refine (forget_done b m _ k _ a5 hk (by omega) (by omega)).mono ?_; rintro e w6 ⟨rfl, a6, u6⟩
        go_wp2_with fail
        refine (forget_none b m _ k _ a6 hk (upd_same _ _ _)).mono ?_; rintro e wx ⟨rfl, rfl⟩
        go_wp2_with fail
        go_roundw
        case rel => exact ⟨n + 1, _, by omega, rfl, a6, upd_zero hz3, up5.fresh1 u6 hw⟩
        case measure => simp [intOf]; omega
    · have hE : n = K := by omega
      have hc0 : card f = 0 := by
        have : card f = cntP (fun _ => false) 256 := cntP_congr (fun i _ => by simp [hz])
        rw [this]; unfold cntP; simp
      go_wp2_with fail
      refine (len_at b m _ _ a).mono ?_; rw [hc0]; rintro e wx ⟨rfl, rfl⟩
      go_wp2_with fail
      refine (works_ok _).mono ?_; rintro e w2 ⟨rfl, u2⟩
      go_wp2_with fail
      go_ret
      exact ⟨rfl, hup.trans u2⟩

theorem course_fr (w : World) (i : Int) (hi : (Lit.int .u8 i).wf = true) (c : Bool) (t : Int) (ht : (Lit.int .u8 t).wf = true) :
    Calls Try.prog 4 #[.int .u8 i, .bool c, .int .u8 t] w fun e w' => e = .returned (.bool true) ∧ Upd [] w w' :=
  course_ok i t c w (wf_u8 hi).1 (wf_u8 hi).2 (wf_u8 ht).1 (wf_u8 ht).2

end Go.Proofs.Ytphpimbhhmkdkaa
