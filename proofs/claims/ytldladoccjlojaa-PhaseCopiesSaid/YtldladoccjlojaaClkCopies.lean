/-
  PhaseCopies: copies of a clock go on by themselves, alike. Conditions: none.
-/
import Derived.Test.YtldladoccjlojaaClkMore
namespace Go.Proofs.Ytldladoccjlojaa
open Go.RowKit

set_option maxRecDepth 100000 in
set_option maxHeartbeats 4000000 in
theorem copies_ok (u : Int) (hu0 : 0 ≤ u) (hu1 : u < 256) (v v2 : Value) (us vs : List Int) (w : World) (hv : Bytes .u8 w v us) (hv2 : Bytes .u8 w v2 vs) :
    Calls Try.prog 9 #[.int .u8 u, v, v2] w fun e w' => e = .returned (.bool true) ∧ Upd [] w w' := by
  have HV := Lib.hid hv
  have HV2 := Lib.hid hv2
  obtain ⟨a, cap, rfl, hcc, hcm, _⟩ := hv
  obtain ⟨a2, cap2, rfl, hcc2, hcm2, _⟩ := hv2
  have hm : cap ≤ 9223372036854775807 := by unfold maxLen at hcm; omega
  have hm2 : cap2 ≤ 9223372036854775807 := by unfold maxLen at hcm2; omega
  obtain ⟨n, hn⟩ : ∃ n : Nat, 1 + u % 4 = n := ⟨(1 + u % 4).toNat, by omega⟩
  have hn1 : 1 ≤ n := by omega
  have hn4 : n ≤ 4 := by omega
  by_cases hl1 : 100 < us.length
  · go_enter Try.func9, Try.ntmps9
    go_wp2_with fail
    refine (works_ok _).mono ?_; rintro e w1 ⟨rfl, u1⟩
    go_wp2_with fail
    go_ret
    exact ⟨rfl, u1⟩
  by_cases hl2 : 100 < vs.length
  · go_enter Try.func9, Try.ntmps9
    go_wp2_with fail
    refine (works_ok _).mono ?_; rintro e w1 ⟨rfl, u1⟩
    go_wp2_with fail
    go_ret
    exact ⟨rfl, u1⟩
  · have HN := Lib.hid hn; clear hn
    go_enter Try.func9, Try.ntmps9
    go_wp2_with fail
    refine (begin_ok u n _ hu0 hu1 HN.out).mono ?_; rintro e w1 ⟨rfl, a1, u1⟩
    have hw0 : w.heap.size ≤ w.heap.size := Nat.le_refl _
    generalize hb : w.heap.size = b at a1 ⊢
    have HW := Lib.hid (Nat.le_of_eq hb); clear hb hw0
    go_wp2_with fail
    go_loopw [9] (fun x wr => ∃ (i : Nat) (k : Ck), i ≤ us.length ∧ x = .int .i64 i ∧ CkAt wr b k ∧ k.n = n ∧ k.c ≤ i ∧ Upd [] w wr) (fun x _ => us.length - (intOf x).toNat)
    case atStart => exact ⟨0, _, by omega, rfl, a1, rfl, by simp [ckNew], u1⟩
    case round =>
      obtain ⟨i, k, hi, rfl, hk, hkn, hkc, hup⟩ := hrel
      by_cases hlt : i < us.length
      · obtain ⟨ab, off, rfl, hab, hcell, hwf⟩ := (HV.out.upd hup (by simp)).at hlt
        obtain ⟨ht0, ht1⟩ := wf_u8 hwf
        have hT := turn_at b k us[i] wr hk ht0 ht1 (by omega)
        rw [hkn] at hT
        have KN := Lib.hid hkn; clear hkn
        generalize us[i] = t at *
        go_wp2_with fail
        refine hT.mono ?_; clear hT; rintro e w2 ⟨rfl, a2, u2⟩
        have hw := HW.out
        have hc2 := turn_c k t
        go_wp2_with fail
        go_roundw
        case rel => exact ⟨i + 1, _, by omega, by go_num, a2, by rw [turn_n]; exact KN.out, by omega, hup.fresh1 u2 hw⟩
        case measure => simp [intOf]; omega
      · have KN := Lib.hid hkn; clear hkn
        have hbk := hk.lt
        have hw := HW.out
        go_wp2_with fail
        refine (copy_at b k _ hk).mono ?_; rintro e w2 ⟨rfl, a2, u2⟩
        have hAb : b < wr.heap.size := hbk
        have hAs := a2.lt
        have hA0 : w.heap.size ≤ wr.heap.size := hup.size
        generalize wr.heap.size = A at *
        have k2 := hk.upd u2 (by simp)
        go_wp2_with fail
        refine (copy_at b k _ k2).mono ?_; rintro e w3 ⟨rfl, a3, u3⟩
        have hB0 : w.heap.size ≤ w2.heap.size := (hup.trans u2).size
        have hBs := a3.lt
        generalize w2.heap.size = B at *
        have k3 := k2.upd u3 (by simp)
        have a23 := a2.upd u3 (by simp)
        have up3 := (hup.trans u2).trans u3
        clear k2 hk a2
        go_wp2_with fail
        refine (phase_at b k _ k3).mono ?_; rintro e wx ⟨rfl, rfl⟩
        go_wp2_with fail
        refine (ready_at b k _ k3).mono ?_; rintro e w4 ⟨rfl, u4⟩
        have k4 := k3.upd u4 (by simp)
        have a4 := a23.upd u4 (by simp)
        have b4 := a3.upd u4 (by simp)
        have up4 := up3.trans u4
        go_wp2_with fail
        refine (cycles_at b k _ k4).mono ?_; rintro e wx ⟨rfl, rfl⟩
        go_wp2_with fail
        clear hup u2 u3 u4 up3 k3 a3 a23 u1 a1
        go_loopw [15] (fun x wr => ∃ (j : Nat) (q : Ck), j ≤ vs.length ∧ x = .int .i64 j ∧ CkAt wr b k ∧ CkAt wr A q ∧ CkAt wr B q ∧ q.n = n ∧ q.c ≤ k.c + j ∧ Upd [] w wr) (fun x _ => vs.length - (intOf x).toNat)
        case atStart => exact ⟨0, k, by omega, rfl, k4, a4, b4, KN.out, by omega, up4⟩
        case round =>
          obtain ⟨j, q, hj, rfl, hk, ha, hb, hqn, hqc, hup⟩ := hrel
          by_cases hlt2 : j < vs.length
          · obtain ⟨ab, off, rfl, hab, hcell0, hwf⟩ := HV2.out.at hlt2
            have hcell := (hup.cell (p := ⟨ab, off + j, none⟩) hab (by simp)).trans hcell0
            have hal := hup.size
            obtain ⟨ht0, ht1⟩ := wf_u8 hwf
            have hT := turn_at A q vs[j] wr ha ht0 ht1 (by omega)
            have hT2 := fun w' (h : CkAt w' B q) => turn_at B q vs[j] w' h ht0 ht1 (by omega)
            rw [hqn] at hT hT2
            have QN := Lib.hid hqn; clear hqn
            have hcl := hup.size
            have HT2 := Lib.hid hT2; clear hT2
            have hvs : vs[j] = vs[j] := rfl
            generalize vs[j] = t at *
            go_wp2_with fail
            refine hT.mono ?_; clear hT; rintro e w5 ⟨rfl, a5, u5⟩
            have up5 := hup.fresh1 u5 hA0
            have hcell5 := (up5.cell (p := ⟨ab, off + j, none⟩) hab (by simp)).trans hcell0
            have b5 := hb.upd u5 (by simp; omega)
            have k5 := hk.upd u5 (by simp; omega)
            have hal5 := up5.size
            clear hcell hk hb hup
            go_wp2_with fail
            refine (HT2.out _ b5).mono ?_; rintro e w6 ⟨rfl, b6, u6⟩
            have up6 := up5.fresh1 u6 hB0
            have a6 := a5.upd u6 (by simp; omega)
            have k6 := k5.upd u6 (by simp; omega)
            have hc2 := turn_c q t
            have TN := Lib.hid (turn_n q t)
            generalize q.turn t = q2 at *
            clear hcell5 a5 b5 k5 up5 u5 u6 ha HT2 hcell0
            go_wp2_with fail
            refine (phase_at A q2 _ a6).mono ?_; rintro e wx ⟨rfl, rfl⟩
            go_wp2_with fail
            refine (phase_at B q2 _ b6).mono ?_; rintro e wx ⟨rfl, rfl⟩
            go_wp2_with fail
            refine (ready_at A q2 _ a6).mono ?_; rintro e w7 ⟨rfl, u7⟩
            have a7 := a6.upd u7 (by simp)
            have b7 := b6.upd u7 (by simp)
            have k7 := k6.upd u7 (by simp)
            have up7 := up6.trans u7
            clear a6 b6 k6 up6 u7
            go_wp2_with fail
            refine (ready_at B q2 _ b7).mono ?_; rintro e w8 ⟨rfl, u8⟩
            have a8 := a7.upd u8 (by simp)
            have b8 := b7.upd u8 (by simp)
            have k8 := k7.upd u8 (by simp)
            have up8 := up7.trans u8
            clear a7 b7 k7 up7 u8
            go_wp2_with fail
            refine (cycles_at A q2 _ a8).mono ?_; rintro e wx ⟨rfl, rfl⟩
            go_wp2_with fail
            refine (cycles_at B q2 _ b8).mono ?_; rintro e wx ⟨rfl, rfl⟩
            go_wp2_with fail
            go_roundw
            case rel => exact ⟨j + 1, q2, by omega, by go_num, k8, a8, b8, by rw [TN.out]; exact QN.out, by omega, up8⟩
            case measure => simp [intOf]; omega
          · go_wp2_with fail
            refine (phase_at b k _ hk).mono ?_; rintro e wx ⟨rfl, rfl⟩
            go_wp2_with fail
            refine (ready_at b k _ hk).mono ?_; rintro e w5 ⟨rfl, u5⟩
            have k5 := hk.upd u5 (by simp)
            go_wp2_with fail
            refine (cycles_at b k _ k5).mono ?_; rintro e wx ⟨rfl, rfl⟩
            go_wp2_with fail
            refine (works_ok _).mono ?_; rintro e w6 ⟨rfl, u6⟩
            go_wp2_with fail
            go_ret
            exact ⟨rfl, (hup.trans u5).trans u6⟩

theorem copies_fr (w : World) (u : Int) (hu : (Lit.int .u8 u).wf = true) (v : Value) (us : List Int) (hv : Bytes .u8 w v us) (v2 : Value) (vs : List Int) (hv2 : Bytes .u8 w v2 vs) :
    Calls Try.prog 9 #[.int .u8 u, v, v2] w fun e w' => e = .returned (.bool true) ∧ Upd [] w w' :=
  copies_ok u (wf_u8 hu).1 (wf_u8 hu).2 v v2 us vs w hv hv2

end Go.Proofs.Ytldladoccjlojaa
