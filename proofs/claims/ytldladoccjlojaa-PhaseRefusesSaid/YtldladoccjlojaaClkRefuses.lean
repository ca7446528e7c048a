/-
  PhaseRefuses. Conditions: none. (Under way.)
-/
import Derived.Test.YtldladoccjlojaaClkMore
namespace Go.Proofs.Ytldladoccjlojaa
open Go.RowKit

set_option maxRecDepth 100000 in
set_option maxHeartbeats 4000000 in
theorem refuses_ok (u : Int) (hu0 : 0 ≤ u) (hu1 : u < 256) (v : Value) (us : List Int) (far : Int) (hf0 : 0 ≤ far) (hf1 : far < 65536) (w : World) (hv : Bytes .u8 w v us) :
    Calls Try.prog 6 #[.int .u8 u, v, .int .u16 far] w fun e w' => e = .returned (.bool true) ∧ Upd [] w w' := by
  have HV := Lib.hid hv
  obtain ⟨a, cap, rfl, hcc, hcm, _⟩ := hv
  have hm : cap ≤ 9223372036854775807 := by unfold maxLen at hcm; omega
  obtain ⟨n, hn⟩ : ∃ n : Nat, 1 + u % 4 = n := ⟨(1 + u % 4).toNat, by omega⟩
  have hn1 : 1 ≤ n := by omega
  have hn4 : n ≤ 4 := by omega
  by_cases hlong : 100 < us.length
  · go_enter Try.func6, Try.ntmps6
    go_wp2_with fail
    refine (works_ok _).mono ?_; rintro e w1 ⟨rfl, u1⟩
    go_wp2_with fail
    go_ret
    exact ⟨rfl, u1⟩
  · have HN := Lib.hid hn; clear hn
    go_enter Try.func6, Try.ntmps6
    go_wp2_with fail
    refine (begin_ok u n _ hu0 hu1 HN.out).mono ?_; rintro e w1 ⟨rfl, a1, u1⟩
    have hw0 : w.heap.size ≤ w.heap.size := Nat.le_refl _
    generalize hb : w.heap.size = b at a1 ⊢
    have HW := Lib.hid (Nat.le_of_eq hb); clear hb hw0
    go_wp2_with fail
    go_loopw [9] (fun x wr => ∃ (i : Nat) (k : Ck), i ≤ us.length ∧ x = .int .i64 i ∧ CkAt wr b k ∧ k.n = n ∧ k.c ≤ i ∧ k.inv ∧ Upd [] w wr) (fun x _ => us.length - (intOf x).toNat)
    case atStart => exact ⟨0, _, by omega, rfl, a1, rfl, by simp [ckNew], inv_new _, u1⟩
    case round =>
      obtain ⟨i, k, hi, rfl, hk, hkn, hkc, hinv, hup⟩ := hrel
      by_cases hlt : i < us.length
      · obtain ⟨ab, off, rfl, hab, hcell, hwf⟩ := (HV.out.upd hup (by simp)).at hlt
        obtain ⟨ht0, ht1⟩ := wf_u8 hwf
        have hT := turn_at b k us[i] wr hk ht0 ht1 (by omega)
        rw [hkn] at hT
        have KN := Lib.hid hkn; clear hkn
        generalize us[i] = t at *
        go_wp2_with fail
        refine hT.mono ?_; clear hT; rintro e w2 ⟨rfl, a2, u2⟩
        have hw := HW.out
        have hc2 := turn_c k t
        go_wp2_with fail
        go_roundw
        case rel => exact ⟨i + 1, _, by omega, by go_num, a2, by rw [turn_n]; exact KN.out, by omega, inv_turn _ _ hinv, hup.fresh1 u2 hw⟩
        case measure => simp [intOf]; omega
      · have HINV := Lib.hid hinv; clear hinv HV
        have hkn1 := hk.1.1
        have hkn4 := hk.1.2.1
        have hkp5 := hk.1.2.2.1
        have KN := Lib.hid hkn.symm
        have hkn' : n = k.n := hkn.symm
        subst hkn'
        go_wp2_with fail
        refine (phase_at b k _ hk).mono ?_; rintro e wx ⟨rfl, rfl⟩
        go_wp2_with fail
        refine (ready_at b k _ hk).mono ?_; rintro e w2 ⟨rfl, u2⟩
        have a2 := hk.upd u2 (by simp)
        go_wp2_with fail
        refine (cycles_at b k _ a2).mono ?_; rintro e wx ⟨rfl, rfl⟩
        go_wp2_with fail
        refine (ack_beyond b k _ _ a2 (.inl (by omega))).mono ?_; rintro e wx ⟨rfl, rfl⟩
        go_wp2_with fail
        refine (ack_beyond b k _ _ a2 (.inr (by omega))).mono ?_; rintro e wx ⟨rfl, rfl⟩
        go_wp2_with fail
        refine (seen_beyond b k _ _ a2 (.inr (by omega))).mono ?_; rintro e wx ⟨rfl, rfl⟩
        go_wp2_with fail
        refine (new_err _ _ (.inl (by omega))).mono ?_; rintro e wx ⟨rfl, rfl⟩
        go_wp2_with fail
        refine (new_err _ _ (.inr (by omega))).mono ?_; rintro e wx ⟨rfl, rfl⟩
        go_wp2_with fail
        have hup2 := hup.trans u2
        go_loopw [24] (fun x wr => ∃ m : Nat, m ≤ k.n ∧ x = .int .i64 m ∧ CkAt wr b k ∧ Upd [] w wr) (fun x _ => k.n - (intOf x).toNat)
        case atStart => exact ⟨0, by omega, rfl, a2, hup2⟩
        case round =>
          obtain ⟨m, hm, rfl, a3, up3⟩ := hrel
          by_cases hlt2 : m < k.n
          · cases hs : k.s m
            · have hT := seen_in b k m _ a3 hlt2
              rw [hs] at hT
              have HS := Lib.hid hs; clear hs
              go_wp2_with fail
              refine hT.mono ?_; clear hT; rintro e wx ⟨rfl, rfl⟩
              go_wp2_with fail
              go_roundw
              case rel => exact ⟨m + 1, by omega, by go_num, a3, up3⟩
              case measure => simp [intOf]; omega
            · have hT := seen_in b k m _ a3 hlt2
              have HSH := Lib.hid (HINV.out m hs)
              rw [hs] at hT
              have HS := Lib.hid hs; clear hs
              go_wp2_with fail
              refine hT.mono ?_; clear hT; rintro e wx ⟨rfl, rfl⟩
              go_wp2_with fail
              refine (ack_in b k m _ a3 hlt2 HSH.out).mono ?_; rw [HS.out, ack_same k m HS.out]; rintro e w4 ⟨rfl, a4, u4⟩
              have hw := HW.out
              go_wp2_with fail
              go_roundw
              case rel => exact ⟨m + 1, by omega, by go_num, a4, up3.fresh1 u4 hw⟩
              case measure => simp [intOf]; omega
          · by_cases hp : k.p = 0
            · have HP := Lib.hid hp
              have b1 : ((k.p : Int) != 0) = false := by simp [hp]
              have b2 : ((k.p : Int) == 0) = true := by simp [hp]
              clear hp
              go_wp2_with fail
              refine (go_idle b k _ a3 HP.out).mono ?_; rintro e wx ⟨rfl, rfl⟩
              go_wp2_with fail
              refine (phase_at b k _ a3).mono ?_; rintro e wx ⟨rfl, rfl⟩
              go_wp2_with fail
              refine (ready_at b k _ a3).mono ?_; rintro e w5 ⟨rfl, u5⟩
              have a5 := a3.upd u5 (by simp)
              go_wp2_with fail
              refine (cycles_at b k _ a5).mono ?_; rintro e wx ⟨rfl, rfl⟩
              go_wp2_with fail
              refine (works_ok _).mono ?_; rintro e w6 ⟨rfl, u6⟩
              go_wp2_with fail
              go_ret
              exact ⟨rfl, (up3.trans u5).trans u6⟩
            · have HP := Lib.hid hp
              have b1 : ((k.p : Int) != 0) = true := by simp; omega
              have b2 : ((k.p : Int) == 0) = false := by simp; omega
              clear hp
              go_wp2_with fail
              refine (begin_not b k _ a3 HP.out).mono ?_; rintro e wx ⟨rfl, rfl⟩
              go_wp2_with fail
              refine (phase_at b k _ a3).mono ?_; rintro e wx ⟨rfl, rfl⟩
              go_wp2_with fail
              refine (ready_at b k _ a3).mono ?_; rintro e w5 ⟨rfl, u5⟩
              have a5 := a3.upd u5 (by simp)
              go_wp2_with fail
              refine (cycles_at b k _ a5).mono ?_; rintro e wx ⟨rfl, rfl⟩
              go_wp2_with fail
              refine (works_ok _).mono ?_; rintro e w6 ⟨rfl, u6⟩
              go_wp2_with fail
              go_ret
              exact ⟨rfl, (up3.trans u5).trans u6⟩

theorem refuses_fr (w : World) (u : Int) (hu : (Lit.int .u8 u).wf = true) (v : Value) (us : List Int) (hv : Bytes .u8 w v us) (far : Int) (hf : (Lit.int .u16 far).wf = true) :
    Calls Try.prog 6 #[.int .u8 u, v, .int .u16 far] w fun e w' => e = .returned (.bool true) ∧ Upd [] w w' :=
  refuses_ok u (wf_u8 hu).1 (wf_u8 hu).2 v us far (by have := bounds_u16 hf; omega) (by have := bounds_u16 hf; omega) w hv

end Go.Proofs.Ytldladoccjlojaa
