/-
  CleanerFull. Conditions: none.
-/
import Derived.Test.YtphpimbhhmkdkaaClnWorks
namespace Go.Proofs.Ytphpimbhhmkdkaa
open Go.RowKit Go.Maps

/-- The first n ids are armed. -/
def armedTo (n : Nat) : Nat → Nat := fun i => if i < n then 1 else 0
theorem armedTo_succ (n : Nat) : upd (armedTo n) n 1 = armedTo (n + 1) := by
  funext i
  unfold armedTo
  by_cases e : i = n
  · rw [e, upd_same, if_pos (by omega)]
  · rw [upd_other _ _ e]
    by_cases h : i < n
    · rw [if_pos h, if_pos (by omega)]
    · rw [if_neg h, if_neg (by omega)]
/-- The first n ids have been looked at: a of them fired, c cancelled. -/
def Parted (f : Nat → Nat) (n a c : Nat) : Prop :=
  (∀ i, i < 256 → n ≤ i → f i = 1) ∧ (∀ i, i < 256 → f i ≠ 0) ∧ cntP (fun i => decide (f i = 2)) n = a ∧ cntP (fun i => decide (f i = 3)) n = c
theorem Parted.step {f : Nat → Nat} {n a c s : Nat} (h : Parted f n a c) (hs : s = 1 ∨ s = 2 ∨ s = 3) :
    Parted (upd f n s) (n + 1) (a + if s = 2 then 1 else 0) (c + if s = 3 then 1 else 0) := by
  obtain ⟨h1, h2, h3, h4⟩ := h
  have hc : ∀ t, cntP (fun i => decide (upd f n s i = t)) (n + 1) = cntP (fun i => decide (f i = t)) n + if s = t then 1 else 0 := fun t => by
    rw [cntP_succ, cntP_congr (q := fun i => decide (f i = t)) (fun i hi => by rw [upd_other f s (by omega)])]
    simp [upd_same]
  refine ⟨fun i hi hni => ?_, fun i hi => ?_, by rw [hc, h3], by rw [hc, h4]⟩
  · rw [upd_other f s (by omega)]; exact h1 i hi (by omega)
  · by_cases e : i = n
    · rw [e, upd_same]; omega
    · rw [upd_other f s e]; exact h2 i hi
theorem Parted.stay {f : Nat → Nat} {n a c : Nat} (h : Parted f n a c) (hn : n < 256) : Parted f (n + 1) a c := by
  have := h.step (.inl rfl)
  have hu : upd f n 1 = f := by
    funext i
    by_cases e : i = n
    · rw [e, upd_same, h.1 n hn (by omega)]
    · rw [upd_other _ _ e]
  rw [hu] at this
  simpa using this
theorem Parted.full {f : Nat → Nat} {a c : Nat} (h : Parted f 256 a c) (hf : ∀ i, i < 256 → f i ≤ 3) : cnt f 2 = a ∧ cnt f 3 = c ∧ card f = 256 ∧ (cnt f 1 : Int) = 256 - (a : Int) - (c : Int) := by
  obtain ⟨_, h2, h3, h4⟩ := h
  have hc : card f = 256 := by
    have : card f = cntP (fun _ => true) 256 := cntP_congr (fun i hi => by simpa using h2 i hi)
    rw [this]; decide +kernel
  have := card_eq f hf
  refine ⟨h3, h4, hc, ?_⟩
  rw [cnt] at this
  unfold cnt at *
  omega
theorem Parted.le {f : Nat → Nat} {n a c : Nat} (h : Parted f n a c) : a ≤ n ∧ c ≤ n := by
  obtain ⟨_, _, h3, h4⟩ := h
  rw [← h3, ← h4]
  exact ⟨cntP_le _ _, cntP_le _ _⟩

set_option maxRecDepth 100000 in
set_option maxHeartbeats 4000000 in
theorem full_fr (w : World) (p : Int) (hp : (Lit.int .u8 p).wf = true) (q : Int) (hq : (Lit.int .u8 q).wf = true) :
    Calls Try.prog 5 #[.int .u8 p, .int .u8 q] w fun e w' => e = .returned (.bool true) ∧ Upd [] w w' := by
  obtain ⟨hp0, hp1⟩ := wf_u8 hp
  obtain ⟨hq0, hq1⟩ := wf_u8 hq
  clear hp hq
  go_enter Try.func5, Try.ntmps5
  go_wp2_with fail
  refine (new_at _).mono ?_; rintro e w1 ⟨rfl, a1, u1⟩
  have hm0 : w.heap.size ≤ w.heap.size := Nat.le_refl _
  generalize hM : w.heap.size = m at a1 hm0 ⊢
  have HM := Lib.hid (Nat.le_of_eq hM); clear hM
  generalize m + 1 = b at *
  go_wp2_with fail
  go_loopw [18] (fun x wr => ∃ (n : Nat), n ≤ 256 ∧ x = .int .i64 n ∧ ClAt wr b m (armedTo n) ∧ Upd [] w wr) (fun x _ => 256 - (intOf x).toNat)
  case atStart => exact ⟨0, by omega, rfl, a1, u1⟩
  case round =>
    obtain ⟨n, hn, rfl, a, hup⟩ := hrel
    by_cases hlt : n < 256
    · go_wp2_with fail
      refine (arm_new b m _ n _ a hlt (by unfold armedTo; rw [if_neg (by omega)])).mono ?_; rintro e w2 ⟨rfl, a2, u2⟩
      rw [armedTo_succ] at a2
      have hw := HM.out
      go_wp2_with fail
      go_roundw
      case rel => exact ⟨n + 1, by omega, rfl, a2, hup.fresh1 u2 hw⟩
      case measure => simp [intOf]; omega
    · obtain rfl : n = 256 := by omega
      rw [show Value.int .i64 ((256 : Nat) : Int) = .int .i64 256 from rfl]
      go_wp2_with fail
      go_loopw [26, 7, 8] (fun x y z wr => ∃ (n c d : Nat) (f : Nat → Nat), n ≤ 256 ∧ x = .int .i64 n ∧ y = .int .i64 c ∧ z = .int .i64 d ∧ ClAt wr b m f ∧ Parted f n c d ∧ Upd [] w wr) (fun x _ _ _ => 256 - (intOf x).toNat)
      case atStart =>
        refine ⟨0, 0, 0, _, by omega, rfl, rfl, rfl, a, ⟨fun i hi _ => by unfold armedTo; rw [if_pos hi], fun i hi => by unfold armedTo; rw [if_pos hi]; omega, rfl, rfl⟩, hup⟩
      case round =>
        obtain ⟨n, c, d, f, hn, rfl, rfl, rfl, a, hpt, hup⟩ := hrel
        by_cases hlt : n < 256
        · obtain ⟨hcn, hdn⟩ := hpt.le
          have hf1 := hpt.1 n hlt (by omega)
          have hw := HM.out
          cases hb : (bits BinOp.and IntKind.i64 (n : Int) p == p)
          · cases hb2 : (bits BinOp.and IntKind.i64 (n : Int) q == q)
            · go_wp2_with fail
              go_roundw
              case rel => exact ⟨n + 1, c, d, f, by omega, rfl, rfl, rfl, a, hpt.stay hlt, hup⟩
              case measure => simp [intOf]; omega
            · go_wp2_with fail
              refine (cancel_armed b m _ n _ a hlt hf1).mono ?_; rintro e w2 ⟨rfl, a2, u2⟩
              go_wp2_with fail
              go_roundw
              case rel => exact ⟨n + 1, c, d + 1, _, by omega, rfl, rfl, rfl, a2, hpt.step (by omega), hup.fresh1 u2 hw⟩
              case measure => simp [intOf]; omega
          · go_wp2_with fail
            refine (fire_armed b m _ n _ a hlt hf1).mono ?_; rintro e w2 ⟨rfl, a2, u2⟩
            go_wp2_with fail
            go_roundw
            case rel => exact ⟨n + 1, c + 1, d, _, by omega, rfl, rfl, rfl, a2, hpt.step (by omega), hup.fresh1 u2 hw⟩
            case measure => simp [intOf]; omega
        · obtain rfl : n = 256 := by omega
          obtain ⟨e1, e2, e3, e4⟩ := hpt.full a.small
          have E2 := Lib.hid e2; have E1 := Lib.hid e1; have E3 := Lib.hid e3
          have e5 : ((cnt f 1 : Int) == 256 - (c : Int) - (d : Int)) = true := by simpa using e4
          have hcb := hpt.le
          clear e1 e2 e3
          go_wp2_with fail
          refine (counts_at b m _ _ a).mono ?_; rw [E1.out, E2.out]; rintro e w2 ⟨rfl, u2⟩
          have a2 := a.upd u2 (by simp) (by simp)
          go_wp2_with fail
          refine (len_at b m _ _ a2).mono ?_; rw [E3.out]; rintro e wx ⟨rfl, rfl⟩
          go_wp2_with fail
          refine (works_ok _).mono ?_; rintro e w3 ⟨rfl, u3⟩
          go_wp2_with fail
          go_ret
          exact ⟨rfl, (hup.trans u2).trans u3⟩

end Go.Proofs.Ytphpimbhhmkdkaa
