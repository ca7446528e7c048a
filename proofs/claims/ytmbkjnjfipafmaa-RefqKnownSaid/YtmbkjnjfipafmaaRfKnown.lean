/-
  RefqKnown: what was registered, found, polled and cancelled is known. Conditions: none.
-/
import Derived.Test.YtmbkjnjfipafmaaRfTurnE
namespace Go.Proofs.Ytmbkjnjfipafmaa
open Go.RowKit Go.Maps

set_option maxRecDepth 100000 in
set_option maxHeartbeats 4000000 in
theorem known_ok (a b : Nat) (ha : a < 256) (hb : b < 256) (v : Value) (css : List (List Value)) (w : World) (hv : Recs w v 3 css) (hF : ∀ cs ∈ css, IsTurn cs) :
    Calls Try.prog 4 #[.int .u8 (a : Int), .int .u8 (b : Int), v] w fun e w' => e = .returned (.bool true) ∧ Upd [] w w' := by
  have HV := Lib.hid hv
  obtain ⟨ad, cap, rfl, hcc, hcm, -⟩ := hv
  have hm : cap ≤ 9223372036854775807 := by unfold maxLen at hcm; omega
  have HF := Lib.hid hF; clear hF hcm
  by_cases h200 : css.length ≤ 200
  · have hg : ¬ (200 : Int) < (css.length : Int) := by omega
    go_enter Try.func4, Try.ntmps4
    go_wp2_with fail
    refine (begin_ok a b ha hb w).mono ?_; rintro e w1 ⟨kb, B, h, rfl, k1, hsc, u1⟩
    have K1 := Lib.hid k1; have SC := Lib.hid hsc; have U1 := Lib.hid u1
    clear k1 hsc u1
    generalize rs0 (1 + a) (1 + b % 64) = s0 at *
    go_wp2_with fail
    go_loopw [8] (fun x wr => ∃ i : Nat, i ≤ css.length ∧ x = .int .i64 i ∧ (∃ vv, KnAt wr kb B h vv (runT s0 (css.take i))) ∧ Upd [] w wr) (fun x _ => css.length - (intOf x).toNat)
    case atStart => exact ⟨0, by omega, rfl, ⟨_, K1.out⟩, U1.out⟩
    case round =>
      obtain ⟨i, hi, rfl, ⟨vv, hk⟩, hup⟩ := hrel
      have K := Lib.hid hk; have UP := Lib.hid hup
      by_cases hlt : i < css.length
      · obtain ⟨g, off, kd, x, o, rfl, hcs, hkd, hx, ho, hcell⟩ := turn_cells HV.out HF.out hlt rfl
        have HST := Lib.hid (runT_step s0 css hlt hcs)
        obtain ⟨c0, c1, c2, hgl⟩ := hcell _ hup
        obtain ⟨m, hmm⟩ : ∃ m, i % 8 = m := ⟨_, rfl⟩
        have htm : Int.tmod (i : Int) 8 = (m : Int) := by rw [Int.tmod_eq_emod_of_nonneg (by omega), ← hmm]; rfl
        clear hk hup hcs hcell hmm
        go_wp2_with fail
        refine (turn_any K.out kd x o hkd hx ho).mono ?_; rintro e w2 ⟨v2, rfl, k2, u2⟩
        have K2 := Lib.hid (show KnAt w2 kb B h v2 (runT s0 (css.take (i + 1))) from by rw [HST.out]; exact k2)
        have U2 := Lib.hid (UP.out.kn u2 SC.out)
        clear k2 u2 c0 c1 c2 hgl
        by_cases hm0 : m = 0
        · subst hm0
          go_wp2_with fail
          refine (agrees_ok K2.out).mono ?_; rintro e w3 ⟨rfl, u3⟩
          have K3 := Lib.hid (K2.out.upd0 u3); have U3 := Lib.hid (U2.out.trans u3)
          clear u3
          go_wp2_with fail
          go_roundw
          case rel => exact ⟨i + 1, by omega, by go_num, ⟨_, K3.out⟩, U3.out⟩
          case measure => simp [intOf]; omega
        · have hmb : ((m : Int) == 0) = false := by simp; omega
          go_wp2_with fail
          go_roundw
          case rel => exact ⟨i + 1, by omega, by go_num, ⟨_, K2.out⟩, U2.out⟩
          case measure => simp [intOf]; omega
      · clear hk hup
        go_wp2_with fail
        refine (agrees_ok K.out).mono ?_; rintro e w3 ⟨rfl, u3⟩
        go_wp2_with fail
        refine (works_ok _).mono ?_; rintro e w4 ⟨rfl, u4⟩
        go_wp2_with fail
        go_ret
        exact ⟨rfl, (UP.out.trans u3).trans u4⟩
  · have hg : (200 : Int) < (css.length : Int) := by omega
    clear h200
    go_enter Try.func4, Try.ntmps4
    go_wp2_with fail
    refine (works_ok _).mono ?_; rintro e w4 ⟨rfl, u4⟩
    go_wp2_with fail
    go_ret
    exact ⟨rfl, u4⟩

theorem known_fr (w : World) (a : Int) (wa : (Lit.int .u8 a).wf = true) (b : Int) (wb : (Lit.int .u8 b).wf = true) (v : Value) (css : List (List Value)) (h : Recs w v 3 css ∧ ∀ cs ∈ css, IsTurn cs) :
    Calls Try.prog 4 #[.int .u8 a, .int .u8 b, v] w fun e w' => e = .returned (.bool true) ∧ Upd [] w w' := by
  have h1 := wf_u8 wa
  have h2 := wf_u8 wb
  obtain ⟨x, rfl⟩ := Int.eq_ofNat_of_zero_le h1.1
  obtain ⟨y, rfl⟩ := Int.eq_ofNat_of_zero_le h2.1
  exact known_ok x y (by omega) (by omega) v css w h.1 h.2

end Go.Proofs.Ytmbkjnjfipafmaa
