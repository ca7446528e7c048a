/-
  PhaseOrder: phases follow one another by Begin and Go alone; a handshake ends only when all have answered; a cycle has ended each time it becomes idle. Conditions: none.
-/
import Derived.Test.YtldladoccjlojaaClkBar
import Derived.Deep.DeepCutAuto
import Derived.Deep.CutBlock
import Derived.Outline
namespace Go.Proofs.Ytldladoccjlojaa
open Go.RowKit

theorem infoB : (Try.prog.info? 4).map (fun i => (i.zero, i.size, i.bytes)) = some (some (.bool false), 1, 1) := by kernel_rfl
theorem makeB (n : Nat) (hn : n ≤ 4) (w : World) : (Instr.makeSlice 27 (.int .i64 (n : Int)) (.int .i64 (n : Int))).run Try.prog w = .ok (.slice (some ⟨w.heap.size, 0, none⟩) n n) (w.alloc (.cells (vcells (fun _ => .bool false) n) 4)) := by
  obtain ⟨i0, hi, hz0, hz1, hz2⟩ := info_parts infoB
  exact make_v 27 4 i0 _ 1 n Try.underlying27 hi hz0 hz1 hz2 rfl .i64 .i64 (by omega) (by omega) w

/-- What holds between the rounds, and behind the switch of a round. -/
def OrdRel (w : World) (b n i : Nat) (at' ended ans : Value) (wr : World) : Prop :=
  ∃ (k : Ck) (g : Nat), at' = .int .i64 k.p ∧ ended = .int .i64 k.c ∧ ans = .slice (some ⟨g, 0, none⟩) n n ∧ CkAt wr b k ∧ k.n = n ∧ k.c ≤ i ∧ k.inv ∧
    VRow wr g 4 n (fun j => .bool (k.s j)) ∧ g ≠ b ∧ w.heap.size ≤ g ∧ Upd [] w wr
theorem ack_idem {k : Ck} {m : Nat} (j : Nat) : (if j = m then Value.bool true else .bool (k.s j)) = .bool ((k.ack m).s j) := by
  simp only [Ck.ack]
  by_cases e : j = m
  · rw [if_pos e, if_pos e]
  · rw [if_neg e, if_neg e]

set_option maxRecDepth 100000 in
set_option maxHeartbeats 16000000 in
theorem order_ok (u : Int) (hu0 : 0 ≤ u) (hu1 : u < 256) (v : Value) (us : List Int) (w : World) (hv : Bytes .u8 w v us) :
    Calls Try.prog 3 #[.int .u8 u, v] w fun e w' => e = .returned (.bool true) ∧ Upd [] w w' := by
  have HV := Lib.hid hv
  obtain ⟨a, cap, rfl, hcc, hcm, -⟩ := hv
  have hm : cap ≤ 9223372036854775807 := by unfold maxLen at hcm; omega
  obtain ⟨n, hn⟩ : ∃ n : Nat, 1 + u % 4 = n := ⟨(1 + u % 4).toNat, by omega⟩
  have hn1 : 1 ≤ n := by omega
  have hn4 : n ≤ 4 := by omega
  by_cases hlong : 300 < us.length
  · go_enter Try.func3, Try.ntmps3
    go_wp2_with fail
    refine (works_ok _).mono ?_; rintro e w1 ⟨rfl, u1⟩
    go_wp2_with fail
    go_ret
    exact ⟨rfl, u1⟩
  · have HN := Lib.hid hn; clear hn
    have hmB := makeB n hn4
    go_enter Try.func3, Try.ntmps3
    go_wp2_with fail
    refine (begin_ok u n _ hu0 hu1 HN.out).mono ?_; rintro e w1 ⟨rfl, a1, u1⟩
    have hw0 : w.heap.size ≤ w.heap.size := Nat.le_refl _
    generalize hb : w.heap.size = b at a1 ⊢
    have HW := Lib.hid (Nat.le_of_eq hb); clear hb hw0
    have hbl := a1.lt
    go_wp2_with fail
    have r1 : VRow (w1.alloc (.cells (vcells (fun _ => .bool false) n) 4)) w1.heap.size 4 n (fun _ => .bool false) := VRow.new _ _ _ _
    have u2 : Upd [] w1 (w1.alloc (.cells (vcells (fun _ => .bool false) n) 4)) := (Upd.refl _ _).alloc _
    have hg1 : b < w1.heap.size := hbl
    have hg0 : w.heap.size ≤ w1.heap.size := u1.size
    have a2 := a1.upd u2 (by simp)
    have up2 := u1.trans u2
    generalize w1.alloc (.cells (vcells (fun _ => .bool false) n) 4) = w2 at *
    generalize w1.heap.size = g0 at *
    clear u2 a1 u1 hbl
    go_loopw [7, 8, 9, 10] (fun y z x c wr => ∃ i : Nat, i ≤ us.length ∧ c = .int .i64 i ∧ OrdRel w b n i y z x wr) (fun _ _ _ c _ => us.length - (intOf c).toNat)
    case atStart =>
      exact ⟨0, by omega, rfl, ckNew n, g0, rfl, rfl, rfl, a2, rfl, by simp [ckNew], inv_new _, r1, by omega, hg0, up2⟩
    case round =>
      clear r1 a2 up2 hg1 hg0
      obtain ⟨i, hi, rfl, k, g, rfl, rfl, rfl, hk, hkn, hkc, hinv, rg, hne, hg, hup⟩ := hrel
      by_cases hlt : i < us.length
      · obtain ⟨ab, off, rfl, hab, hcell, hwf⟩ := (HV.out.upd hup (by simp)).at hlt
        obtain ⟨ht0, ht1⟩ := wf_u8 hwf
        generalize us[i] = t at *
        have HAB : ∀ w' : World, Upd [] wr w' → w'.cell? ⟨ab, off + i, none⟩ = some (.int .u8 t) := fun w' h => (h.cell (p := ⟨ab, off + i, none⟩) hab (by simp)).trans hcell
        have HABH := Lib.hid HAB; clear HAB
        have hgl := rg.lt
        have RG := Lib.hid rg; clear rg
        go_wp2_with fail
        go_loop [12, 13] (fun x y => ∃ q : Nat, q ≤ n ∧ x = .bool (allTo k.s q) ∧ y = .int .i64 q) (fun _ y => n - (intOf y).toNat)
        case atStart => exact ⟨0, by omega, rfl, rfl⟩
        case round =>
          obtain ⟨q, hq, rfl, rfl⟩ := hrel
          by_cases hltq : q < n
          · have cg := RG.out.cell hltq
            have hS : allTo k.s (q + 1) = (allTo k.s q && k.s q) := rfl
            have HS := Lib.hid hS; clear hS
            cases hA : allTo k.s q
            · have HA := Lib.hid hA; clear hA
              go_wp2_with fail
              go_round
              case rel => exact ⟨q + 1, by omega, by rw [HS.out, HA.out]; rfl, by go_num⟩
              case measure => simp [intOf]; omega
            · have HA := Lib.hid hA; clear hA
              go_wp2_with fail
              go_round
              case rel => exact ⟨q + 1, by omega, by rw [HS.out, HA.out]; rfl, by go_num⟩
              case measure => simp [intOf]; omega
          · obtain rfl : q = n := by omega
            have hrd := rd_all hk.1
            rw [hkn] at hrd
            have hq5 : k.p = 0 ∨ k.p = 1 ∨ k.p = 2 ∨ k.p = 3 ∨ k.p = 4 ∨ k.p = 5 := by have := hk.1.2.2.1; omega
            have KN := Lib.hid hkn; clear hkn
            have INV := Lib.hid hinv; clear hinv
            rw [← hrd]
            clear hrd
            have hmn : ((t / 8).toNat % q) < q := Nat.mod_lt _ (by omega)
            have hme : t / 8 % (q : Int) = (((t / 8).toNat % q : Nat) : Int) := by
              obtain ⟨y, hy⟩ : ∃ y : Nat, t / 8 = y := ⟨(t / 8).toNat, by omega⟩
              rw [hy, Int.toNat_natCast]; rfl
            generalize (t / 8).toNat % q = m at hmn hme
            have hqz : (q : Int) ≠ 0 := by omega
            have hqz2 : ((q : Int) == 0) = false := by simp; omega
            have HME := Lib.hid hme; clear hme
            rcases hq5 with hp | hp | hp | hp | hp | hp
            · as_aux_lemma =>
              have HP := Lib.hid hp
              have hsh : k.shakes = false := by simp [Ck.shakes, hp]
              have HSH := Lib.hid hsh
              have hrv : k.ready = false := by rw [Ck.ready, hsh]; rfl
              have HRV := Lib.hid hrv
              rw [hp]
              clear hp hsh hrv
              go_wp2_with fail
              refine (ready_at b k _ hk).mono ?_; rw [HRV.out]; rintro e w4 ⟨rfl, u4⟩
              have up4 := hup.trans u4
              have a4 := hk.upd u4 (by simp)
              have r4 := RG.out.upd u4 (by simp)
              have c4 := HABH.out _ u4
              have habl : ab < w4.heap.size := Nat.lt_of_lt_of_le hab u4.size
              have hw := HW.out
              go_upto_block 4 with fail
              go_cut [7, 8, 9] (fun y z x wx => OrdRel w b q (i + 1) y z x wx)
              case first =>
                by_cases h8 : t % 8 = 0
                · have hb8 : (t % 8 == 0) = true := by simp [h8]
                  clear h8
                  go_wp2_with fail
                  refine (begin_idle b k _ a4 HP.out).mono ?_; rintro e w5 ⟨rfl, a5, u5⟩
                  have up5 := up4.fresh1 u5 hw
                  have r6 := (VRow.new w5 4 q (fun _ => .bool false)).upd ((Upd.refl [] _).drew) (by simp)
                  have u6 : Upd [] w5 (w5.alloc (.cells (vcells (fun _ => .bool false) q) 4)).drew := ((Upd.refl _ _).alloc _).drew
                  have a6 := a5.upd u6 (by simp)
                  have hg6 : w5.heap.size ≠ b := by have := a5.lt; omega
                  have hg7 := up5.size
                  go_wp2_with fail
                  go_region
                  all_goals
                    go_wp2_with fail
                    go_meet
                    case rel => exact ⟨k.to 1, w5.heap.size, rfl, rfl, rfl, a6, KN.out, by simp only [Ck.to]; omega, inv_to _ _, r6, hg6, hg7, up5.trans u6⟩
                · have hb8 : (t % 8 == 0) = false := by simpa using h8
                  clear h8
                  by_cases h4 : t % 8 < 4
                  · go_wp2_with fail
                    refine (go_idle b k _ a4 HP.out).mono ?_; rintro e wx ⟨rfl, rfl⟩
                    go_wp2_with fail
                    go_meet
                    case rel => exact ⟨k, g, by rw [HP.out]; rfl, rfl, rfl, a4, KN.out, by omega, INV.out, r4, hne, hg, up4⟩
                  · have hme := HME.out
                    have cm := r4.cell hmn
                    have fm := r4.free m
                    have hg4 := r4.lt
                    have hks : k.s m = false := by
                      cases h : k.s m
                      · rfl
                      · have := INV.out m h; rw [HSH.out] at this; cases this
                    rw [hks] at cm
                    have HKS := Lib.hid hks; clear hks
                    have R4 := Lib.hid r4; clear r4
                    go_wp2_with fail
                    refine (ack_not b k m _ a4 (by rw [KN.out]; exact hmn) HSH.out).mono ?_; rintro e wx ⟨rfl, rfl⟩
                    go_wp2_with fail
                    go_meet
                    case rel => exact ⟨k, g, by rw [HP.out]; rfl, rfl, rfl, a4.upd (S := [g]) ((Upd.refl _ _).setCell (by simp) _) (by simpa using hne.symm), KN.out, by omega, INV.out, (R4.out.set m _).congr (fun j _ => by by_cases e : j = m; rw [if_pos e, e, HKS.out]; rw [if_neg e]), hne, hg, up4.fresh1 (k := g) ((Upd.refl _ _).setCell (by simp) _) hg⟩
              case rest =>
                clear up4 a4 r4 c4 hk hup RG HABH hcell
                obtain ⟨k2, g2, rfl, rfl, rfl, hk, hkn, hkc2, hinv2, rg, hne2, hg2, hup⟩ := hcut
                have hgl2 := rg.lt
                have KN2 := Lib.hid hkn; clear hkn
                have RG2 := Lib.hid rg; clear rg
                go_wp2_with fail
                refine (phase_at b k2 _ hk).mono ?_; rintro e wx ⟨rfl, rfl⟩
                go_wp2_with fail
                refine (cycles_at b k2 _ hk).mono ?_; rintro e wx ⟨rfl, rfl⟩
                go_wp2_with fail
                go_loop [19] (fun y => ∃ x : Nat, x ≤ q ∧ y = .int .i64 x) (fun y => q - (intOf y).toNat)
                case atStart => exact ⟨0, by omega, rfl⟩
                case round =>
                  obtain ⟨x, hx, rfl⟩ := hrel
                  by_cases hltx : x < q
                  · have cg := RG2.out.cell hltx
                    have hT := seen_in b k2 x _ hk (by rw [KN2.out]; exact hltx)
                    generalize k2.s x = sx at *
                    go_wp2_with fail
                    refine hT.mono ?_; clear hT; rintro e wx ⟨rfl, rfl⟩
                    go_wp2_with fail
                    go_round
                    case rel => exact ⟨x + 1, by omega, by go_num⟩
                    case measure => simp [intOf]; omega
                  · go_wp2_with fail
                    go_roundw
                    case rel => exact ⟨i + 1, by omega, by go_num, k2, g2, rfl, rfl, rfl, hk, KN2.out, hkc2, hinv2, RG2.out, hne2, hg2, hup⟩
                    case measure => simp [intOf]; omega
            · cases hrd : k.rd
              · as_aux_lemma =>
                have HP := Lib.hid hp
                have HR := Lib.hid hrd
                have hsh : k.shakes = true := by simp [Ck.shakes, hp]
                have HSH := Lib.hid hsh
                have hrv : k.ready = false := by rw [Ck.ready, hsh, hrd]; rfl
                have HRV := Lib.hid hrv
                rw [hp]
                clear hp hsh hrv hrd
                go_wp2_with fail
                refine (ready_at b k _ hk).mono ?_; rw [HRV.out]; rintro e w4 ⟨rfl, u4⟩
                have up4 := hup.trans u4
                have a4 := hk.upd u4 (by simp)
                have r4 := RG.out.upd u4 (by simp)
                have c4 := HABH.out _ u4
                have habl : ab < w4.heap.size := Nat.lt_of_lt_of_le hab u4.size
                have hw := HW.out
                go_upto_block 4 with fail
                go_cut [7, 8, 9] (fun y z x wx => OrdRel w b q (i + 1) y z x wx)
                case first =>
                  by_cases h8 : t % 8 = 0
                  · have hb8 : (t % 8 == 0) = true := by simp [h8]
                    clear h8
                    go_wp2_with fail
                    refine (begin_not b k _ a4 (by rw [HP.out]; omega)).mono ?_; rintro e wx ⟨rfl, rfl⟩
                    go_wp2_with fail
                    go_meet
                    case rel => exact ⟨k, g, by rw [HP.out]; rfl, rfl, rfl, a4, KN.out, by omega, INV.out, r4, hne, hg, up4⟩
                  · have hb8 : (t % 8 == 0) = false := by simpa using h8
                    clear h8
                    by_cases h4 : t % 8 < 4
                    · go_wp2_with fail
                      refine (go_busy b k _ a4 HSH.out HR.out).mono ?_; rintro e w5 ⟨rfl, u5⟩
                      go_wp2_with fail
                      go_meet
                      case rel => exact ⟨k, g, by rw [HP.out]; rfl, rfl, rfl, a4.upd u5 (by simp), KN.out, by omega, INV.out, r4.upd u5 (by simp), hne, hg, up4.trans u5⟩
                    · have hme := HME.out
                      have cm := r4.cell hmn
                      have fm := r4.free m
                      have hg4 := r4.lt
                      cases hks : k.s m
                      · rw [hks] at cm
                        have HKS := Lib.hid hks; clear hks
                        have R4 := Lib.hid r4; clear r4
                        go_wp2_with fail
                        refine (ack_in b k m _ a4 (by rw [KN.out]; exact hmn) HSH.out).mono ?_; rw [HKS.out]; rintro e w5 ⟨rfl, a5, u5⟩
                        have up5 := up4.fresh1 u5 hw
                        have r5 := R4.out.upd u5 (by simpa using hne)
                        have cm5 := r5.cell hmn
                        have fm5 := r5.free m
                        have hg5 := r5.lt
                        rw [HKS.out] at cm5
                        have R5 := Lib.hid r5; clear r5 cm fm hg4
                        go_wp2_with fail
                        go_meet
                        case rel => exact ⟨k.ack m, g, by simp only [Ck.ack]; rw [HP.out]; rfl, rfl, rfl, a5.upd (S := [g]) ((Upd.refl _ _).setCell (by simp) _) (by simpa using hne.symm), KN.out, by simp only [Ck.ack]; omega, inv_ack _ _ HSH.out, (R5.out.set m _).congr (fun j _ => ack_idem j), hne, hg, up5.fresh1 (k := g) ((Upd.refl _ _).setCell (by simp) _) hg⟩
                      · rw [hks] at cm
                        have HKS := Lib.hid hks; clear hks
                        have R4 := Lib.hid r4; clear r4
                        go_wp2_with fail
                        refine (ack_in b k m _ a4 (by rw [KN.out]; exact hmn) HSH.out).mono ?_; rw [HKS.out]; rintro e w5 ⟨rfl, a5, u5⟩
                        have up5 := up4.fresh1 u5 hw
                        have r5 := R4.out.upd u5 (by simpa using hne)
                        have cm5 := r5.cell hmn
                        have fm5 := r5.free m
                        have hg5 := r5.lt
                        rw [HKS.out] at cm5
                        have R5 := Lib.hid r5; clear r5 cm fm hg4
                        go_wp2_with fail
                        go_meet
                        case rel => exact ⟨k.ack m, g, by simp only [Ck.ack]; rw [HP.out]; rfl, rfl, rfl, a5.upd (S := [g]) ((Upd.refl _ _).setCell (by simp) _) (by simpa using hne.symm), KN.out, by simp only [Ck.ack]; omega, inv_ack _ _ HSH.out, (R5.out.set m _).congr (fun j _ => ack_idem j), hne, hg, up5.fresh1 (k := g) ((Upd.refl _ _).setCell (by simp) _) hg⟩
                case rest =>
                  clear up4 a4 r4 c4 hk hup RG HABH hcell
                  obtain ⟨k2, g2, rfl, rfl, rfl, hk, hkn, hkc2, hinv2, rg, hne2, hg2, hup⟩ := hcut
                  have hgl2 := rg.lt
                  have KN2 := Lib.hid hkn; clear hkn
                  have RG2 := Lib.hid rg; clear rg
                  go_wp2_with fail
                  refine (phase_at b k2 _ hk).mono ?_; rintro e wx ⟨rfl, rfl⟩
                  go_wp2_with fail
                  refine (cycles_at b k2 _ hk).mono ?_; rintro e wx ⟨rfl, rfl⟩
                  go_wp2_with fail
                  go_loop [19] (fun y => ∃ x : Nat, x ≤ q ∧ y = .int .i64 x) (fun y => q - (intOf y).toNat)
                  case atStart => exact ⟨0, by omega, rfl⟩
                  case round =>
                    obtain ⟨x, hx, rfl⟩ := hrel
                    by_cases hltx : x < q
                    · have cg := RG2.out.cell hltx
                      have hT := seen_in b k2 x _ hk (by rw [KN2.out]; exact hltx)
                      generalize k2.s x = sx at *
                      go_wp2_with fail
                      refine hT.mono ?_; clear hT; rintro e wx ⟨rfl, rfl⟩
                      go_wp2_with fail
                      go_round
                      case rel => exact ⟨x + 1, by omega, by go_num⟩
                      case measure => simp [intOf]; omega
                    · go_wp2_with fail
                      go_roundw
                      case rel => exact ⟨i + 1, by omega, by go_num, k2, g2, rfl, rfl, rfl, hk, KN2.out, hkc2, hinv2, RG2.out, hne2, hg2, hup⟩
                      case measure => simp [intOf]; omega
              · as_aux_lemma =>
                have HP := Lib.hid hp
                have HR := Lib.hid hrd
                have hsh : k.shakes = true := by simp [Ck.shakes, hp]
                have HSH := Lib.hid hsh
                have hrv : k.ready = true := by rw [Ck.ready, hsh, hrd]; rfl
                have HRV := Lib.hid hrv
                rw [hp]
                clear hp hsh hrv hrd
                go_wp2_with fail
                refine (ready_at b k _ hk).mono ?_; rw [HRV.out]; rintro e w4 ⟨rfl, u4⟩
                have up4 := hup.trans u4
                have a4 := hk.upd u4 (by simp)
                have r4 := RG.out.upd u4 (by simp)
                have c4 := HABH.out _ u4
                have habl : ab < w4.heap.size := Nat.lt_of_lt_of_le hab u4.size
                have hw := HW.out
                go_upto_block 4 with fail
                go_cut [7, 8, 9] (fun y z x wx => OrdRel w b q (i + 1) y z x wx)
                case first =>
                  by_cases h8 : t % 8 = 0
                  · have hb8 : (t % 8 == 0) = true := by simp [h8]
                    clear h8
                    go_wp2_with fail
                    refine (begin_not b k _ a4 (by rw [HP.out]; omega)).mono ?_; rintro e wx ⟨rfl, rfl⟩
                    go_wp2_with fail
                    go_meet
                    case rel => exact ⟨k, g, by rw [HP.out]; rfl, rfl, rfl, a4, KN.out, by omega, INV.out, r4, hne, hg, up4⟩
                  · have hb8 : (t % 8 == 0) = false := by simpa using h8
                    clear h8
                    by_cases h4 : t % 8 < 4
                    · go_wp2_with fail
                      refine (go_next b k _ a4 (by rw [HP.out]; omega) (.inr HR.out) (by omega)).mono ?_; rintro e w5 ⟨rfl, a5, u5⟩
                      have up5 := up4.fresh1 u5 hw
                      have r6 := (VRow.new w5 4 q (fun _ => .bool false)).upd ((Upd.refl [] _).drew) (by simp)
                      have u6 : Upd [] w5 (w5.alloc (.cells (vcells (fun _ => .bool false) q) 4)).drew := ((Upd.refl _ _).alloc _).drew
                      have a6 := a5.upd u6 (by simp)
                      have hg6 : w5.heap.size ≠ b := by have := a5.lt; omega
                      have hg7 := up5.size
                      have hk3 : k.next.c ≤ i + 1 := by simp only [Ck.next]; split <;> omega
                      go_wp2_with fail
                      go_region
                      all_goals
                        go_wp2_with fail
                        go_meet
                        case rel => exact ⟨k.next, w5.heap.size, by simp [Ck.next, HP.out], by simp [Ck.next, HP.out], rfl, a6, KN.out, hk3, inv_next _, r6, hg6, hg7, up5.trans u6⟩
                    · have hme := HME.out
                      have cm := r4.cell hmn
                      have fm := r4.free m
                      have hg4 := r4.lt
                      have hks : k.s m = true := rd_s HR.out a4.1 (by rw [KN.out]; exact hmn)
                      rw [hks] at cm
                      have HKS := Lib.hid hks; clear hks
                      have R4 := Lib.hid r4; clear r4
                      go_wp2_with fail
                      refine (ack_in b k m _ a4 (by rw [KN.out]; exact hmn) HSH.out).mono ?_; rw [HKS.out]; rintro e w5 ⟨rfl, a5, u5⟩
                      have up5 := up4.fresh1 u5 hw
                      have r5 := R4.out.upd u5 (by simpa using hne)
                      have cm5 := r5.cell hmn
                      have fm5 := r5.free m
                      have hg5 := r5.lt
                      rw [HKS.out] at cm5
                      have R5 := Lib.hid r5; clear r5 cm fm hg4
                      go_wp2_with fail
                      go_meet
                      case rel => exact ⟨k.ack m, g, by simp only [Ck.ack]; rw [HP.out]; rfl, rfl, rfl, a5.upd (S := [g]) ((Upd.refl _ _).setCell (by simp) _) (by simpa using hne.symm), KN.out, by simp only [Ck.ack]; omega, inv_ack _ _ HSH.out, (R5.out.set m _).congr (fun j _ => ack_idem j), hne, hg, up5.fresh1 (k := g) ((Upd.refl _ _).setCell (by simp) _) hg⟩
                case rest =>
                  clear up4 a4 r4 c4 hk hup RG HABH hcell
                  obtain ⟨k2, g2, rfl, rfl, rfl, hk, hkn, hkc2, hinv2, rg, hne2, hg2, hup⟩ := hcut
                  have hgl2 := rg.lt
                  have KN2 := Lib.hid hkn; clear hkn
                  have RG2 := Lib.hid rg; clear rg
                  go_wp2_with fail
                  refine (phase_at b k2 _ hk).mono ?_; rintro e wx ⟨rfl, rfl⟩
                  go_wp2_with fail
                  refine (cycles_at b k2 _ hk).mono ?_; rintro e wx ⟨rfl, rfl⟩
                  go_wp2_with fail
                  go_loop [19] (fun y => ∃ x : Nat, x ≤ q ∧ y = .int .i64 x) (fun y => q - (intOf y).toNat)
                  case atStart => exact ⟨0, by omega, rfl⟩
                  case round =>
                    obtain ⟨x, hx, rfl⟩ := hrel
                    by_cases hltx : x < q
                    · have cg := RG2.out.cell hltx
                      have hT := seen_in b k2 x _ hk (by rw [KN2.out]; exact hltx)
                      generalize k2.s x = sx at *
                      go_wp2_with fail
                      refine hT.mono ?_; clear hT; rintro e wx ⟨rfl, rfl⟩
                      go_wp2_with fail
                      go_round
                      case rel => exact ⟨x + 1, by omega, by go_num⟩
                      case measure => simp [intOf]; omega
                    · go_wp2_with fail
                      go_roundw
                      case rel => exact ⟨i + 1, by omega, by go_num, k2, g2, rfl, rfl, rfl, hk, KN2.out, hkc2, hinv2, RG2.out, hne2, hg2, hup⟩
                      case measure => simp [intOf]; omega
            · cases hrd : k.rd
              · as_aux_lemma =>
                have HP := Lib.hid hp
                have HR := Lib.hid hrd
                have hsh : k.shakes = true := by simp [Ck.shakes, hp]
                have HSH := Lib.hid hsh
                have hrv : k.ready = false := by rw [Ck.ready, hsh, hrd]; rfl
                have HRV := Lib.hid hrv
                rw [hp]
                clear hp hsh hrv hrd
                go_wp2_with fail
                refine (ready_at b k _ hk).mono ?_; rw [HRV.out]; rintro e w4 ⟨rfl, u4⟩
                have up4 := hup.trans u4
                have a4 := hk.upd u4 (by simp)
                have r4 := RG.out.upd u4 (by simp)
                have c4 := HABH.out _ u4
                have habl : ab < w4.heap.size := Nat.lt_of_lt_of_le hab u4.size
                have hw := HW.out
                go_upto_block 4 with fail
                go_cut [7, 8, 9] (fun y z x wx => OrdRel w b q (i + 1) y z x wx)
                case first =>
                  by_cases h8 : t % 8 = 0
                  · have hb8 : (t % 8 == 0) = true := by simp [h8]
                    clear h8
                    go_wp2_with fail
                    refine (begin_not b k _ a4 (by rw [HP.out]; omega)).mono ?_; rintro e wx ⟨rfl, rfl⟩
                    go_wp2_with fail
                    go_meet
                    case rel => exact ⟨k, g, by rw [HP.out]; rfl, rfl, rfl, a4, KN.out, by omega, INV.out, r4, hne, hg, up4⟩
                  · have hb8 : (t % 8 == 0) = false := by simpa using h8
                    clear h8
                    by_cases h4 : t % 8 < 4
                    · go_wp2_with fail
                      refine (go_busy b k _ a4 HSH.out HR.out).mono ?_; rintro e w5 ⟨rfl, u5⟩
                      go_wp2_with fail
                      go_meet
                      case rel => exact ⟨k, g, by rw [HP.out]; rfl, rfl, rfl, a4.upd u5 (by simp), KN.out, by omega, INV.out, r4.upd u5 (by simp), hne, hg, up4.trans u5⟩
                    · have hme := HME.out
                      have cm := r4.cell hmn
                      have fm := r4.free m
                      have hg4 := r4.lt
                      cases hks : k.s m
                      · rw [hks] at cm
                        have HKS := Lib.hid hks; clear hks
                        have R4 := Lib.hid r4; clear r4
                        go_wp2_with fail
                        refine (ack_in b k m _ a4 (by rw [KN.out]; exact hmn) HSH.out).mono ?_; rw [HKS.out]; rintro e w5 ⟨rfl, a5, u5⟩
                        have up5 := up4.fresh1 u5 hw
                        have r5 := R4.out.upd u5 (by simpa using hne)
                        have cm5 := r5.cell hmn
                        have fm5 := r5.free m
                        have hg5 := r5.lt
                        rw [HKS.out] at cm5
                        have R5 := Lib.hid r5; clear r5 cm fm hg4
                        go_wp2_with fail
                        go_meet
                        case rel => exact ⟨k.ack m, g, by simp only [Ck.ack]; rw [HP.out]; rfl, rfl, rfl, a5.upd (S := [g]) ((Upd.refl _ _).setCell (by simp) _) (by simpa using hne.symm), KN.out, by simp only [Ck.ack]; omega, inv_ack _ _ HSH.out, (R5.out.set m _).congr (fun j _ => ack_idem j), hne, hg, up5.fresh1 (k := g) ((Upd.refl _ _).setCell (by simp) _) hg⟩
                      · rw [hks] at cm
                        have HKS := Lib.hid hks; clear hks
                        have R4 := Lib.hid r4; clear r4
                        go_wp2_with fail
                        refine (ack_in b k m _ a4 (by rw [KN.out]; exact hmn) HSH.out).mono ?_; rw [HKS.out]; rintro e w5 ⟨rfl, a5, u5⟩
                        have up5 := up4.fresh1 u5 hw
                        have r5 := R4.out.upd u5 (by simpa using hne)
                        have cm5 := r5.cell hmn
                        have fm5 := r5.free m
                        have hg5 := r5.lt
                        rw [HKS.out] at cm5
                        have R5 := Lib.hid r5; clear r5 cm fm hg4
                        go_wp2_with fail
                        go_meet
                        case rel => exact ⟨k.ack m, g, by simp only [Ck.ack]; rw [HP.out]; rfl, rfl, rfl, a5.upd (S := [g]) ((Upd.refl _ _).setCell (by simp) _) (by simpa using hne.symm), KN.out, by simp only [Ck.ack]; omega, inv_ack _ _ HSH.out, (R5.out.set m _).congr (fun j _ => ack_idem j), hne, hg, up5.fresh1 (k := g) ((Upd.refl _ _).setCell (by simp) _) hg⟩
                case rest =>
                  clear up4 a4 r4 c4 hk hup RG HABH hcell
                  obtain ⟨k2, g2, rfl, rfl, rfl, hk, hkn, hkc2, hinv2, rg, hne2, hg2, hup⟩ := hcut
                  have hgl2 := rg.lt
                  have KN2 := Lib.hid hkn; clear hkn
                  have RG2 := Lib.hid rg; clear rg
                  go_wp2_with fail
                  refine (phase_at b k2 _ hk).mono ?_; rintro e wx ⟨rfl, rfl⟩
                  go_wp2_with fail
                  refine (cycles_at b k2 _ hk).mono ?_; rintro e wx ⟨rfl, rfl⟩
                  go_wp2_with fail
                  go_loop [19] (fun y => ∃ x : Nat, x ≤ q ∧ y = .int .i64 x) (fun y => q - (intOf y).toNat)
                  case atStart => exact ⟨0, by omega, rfl⟩
                  case round =>
                    obtain ⟨x, hx, rfl⟩ := hrel
                    by_cases hltx : x < q
                    · have cg := RG2.out.cell hltx
                      have hT := seen_in b k2 x _ hk (by rw [KN2.out]; exact hltx)
                      generalize k2.s x = sx at *
                      go_wp2_with fail
                      refine hT.mono ?_; clear hT; rintro e wx ⟨rfl, rfl⟩
                      go_wp2_with fail
                      go_round
                      case rel => exact ⟨x + 1, by omega, by go_num⟩
                      case measure => simp [intOf]; omega
                    · go_wp2_with fail
                      go_roundw
                      case rel => exact ⟨i + 1, by omega, by go_num, k2, g2, rfl, rfl, rfl, hk, KN2.out, hkc2, hinv2, RG2.out, hne2, hg2, hup⟩
                      case measure => simp [intOf]; omega
              · as_aux_lemma =>
                have HP := Lib.hid hp
                have HR := Lib.hid hrd
                have hsh : k.shakes = true := by simp [Ck.shakes, hp]
                have HSH := Lib.hid hsh
                have hrv : k.ready = true := by rw [Ck.ready, hsh, hrd]; rfl
                have HRV := Lib.hid hrv
                rw [hp]
                clear hp hsh hrv hrd
                go_wp2_with fail
                refine (ready_at b k _ hk).mono ?_; rw [HRV.out]; rintro e w4 ⟨rfl, u4⟩
                have up4 := hup.trans u4
                have a4 := hk.upd u4 (by simp)
                have r4 := RG.out.upd u4 (by simp)
                have c4 := HABH.out _ u4
                have habl : ab < w4.heap.size := Nat.lt_of_lt_of_le hab u4.size
                have hw := HW.out
                go_upto_block 4 with fail
                go_cut [7, 8, 9] (fun y z x wx => OrdRel w b q (i + 1) y z x wx)
                case first =>
                  by_cases h8 : t % 8 = 0
                  · have hb8 : (t % 8 == 0) = true := by simp [h8]
                    clear h8
                    go_wp2_with fail
                    refine (begin_not b k _ a4 (by rw [HP.out]; omega)).mono ?_; rintro e wx ⟨rfl, rfl⟩
                    go_wp2_with fail
                    go_meet
                    case rel => exact ⟨k, g, by rw [HP.out]; rfl, rfl, rfl, a4, KN.out, by omega, INV.out, r4, hne, hg, up4⟩
                  · have hb8 : (t % 8 == 0) = false := by simpa using h8
                    clear h8
                    by_cases h4 : t % 8 < 4
                    · go_wp2_with fail
                      refine (go_next b k _ a4 (by rw [HP.out]; omega) (.inr HR.out) (by omega)).mono ?_; rintro e w5 ⟨rfl, a5, u5⟩
                      have up5 := up4.fresh1 u5 hw
                      have r6 := (VRow.new w5 4 q (fun _ => .bool false)).upd ((Upd.refl [] _).drew) (by simp)
                      have u6 : Upd [] w5 (w5.alloc (.cells (vcells (fun _ => .bool false) q) 4)).drew := ((Upd.refl _ _).alloc _).drew
                      have a6 := a5.upd u6 (by simp)
                      have hg6 : w5.heap.size ≠ b := by have := a5.lt; omega
                      have hg7 := up5.size
                      have hk3 : k.next.c ≤ i + 1 := by simp only [Ck.next]; split <;> omega
                      go_wp2_with fail
                      go_region
                      all_goals
                        go_wp2_with fail
                        go_meet
                        case rel => exact ⟨k.next, w5.heap.size, by simp [Ck.next, HP.out], by simp [Ck.next, HP.out], rfl, a6, KN.out, hk3, inv_next _, r6, hg6, hg7, up5.trans u6⟩
                    · have hme := HME.out
                      have cm := r4.cell hmn
                      have fm := r4.free m
                      have hg4 := r4.lt
                      have hks : k.s m = true := rd_s HR.out a4.1 (by rw [KN.out]; exact hmn)
                      rw [hks] at cm
                      have HKS := Lib.hid hks; clear hks
                      have R4 := Lib.hid r4; clear r4
                      go_wp2_with fail
                      refine (ack_in b k m _ a4 (by rw [KN.out]; exact hmn) HSH.out).mono ?_; rw [HKS.out]; rintro e w5 ⟨rfl, a5, u5⟩
                      have up5 := up4.fresh1 u5 hw
                      have r5 := R4.out.upd u5 (by simpa using hne)
                      have cm5 := r5.cell hmn
                      have fm5 := r5.free m
                      have hg5 := r5.lt
                      rw [HKS.out] at cm5
                      have R5 := Lib.hid r5; clear r5 cm fm hg4
                      go_wp2_with fail
                      go_meet
                      case rel => exact ⟨k.ack m, g, by simp only [Ck.ack]; rw [HP.out]; rfl, rfl, rfl, a5.upd (S := [g]) ((Upd.refl _ _).setCell (by simp) _) (by simpa using hne.symm), KN.out, by simp only [Ck.ack]; omega, inv_ack _ _ HSH.out, (R5.out.set m _).congr (fun j _ => ack_idem j), hne, hg, up5.fresh1 (k := g) ((Upd.refl _ _).setCell (by simp) _) hg⟩
                case rest =>
                  clear up4 a4 r4 c4 hk hup RG HABH hcell
                  obtain ⟨k2, g2, rfl, rfl, rfl, hk, hkn, hkc2, hinv2, rg, hne2, hg2, hup⟩ := hcut
                  have hgl2 := rg.lt
                  have KN2 := Lib.hid hkn; clear hkn
                  have RG2 := Lib.hid rg; clear rg
                  go_wp2_with fail
                  refine (phase_at b k2 _ hk).mono ?_; rintro e wx ⟨rfl, rfl⟩
                  go_wp2_with fail
                  refine (cycles_at b k2 _ hk).mono ?_; rintro e wx ⟨rfl, rfl⟩
                  go_wp2_with fail
                  go_loop [19] (fun y => ∃ x : Nat, x ≤ q ∧ y = .int .i64 x) (fun y => q - (intOf y).toNat)
                  case atStart => exact ⟨0, by omega, rfl⟩
                  case round =>
                    obtain ⟨x, hx, rfl⟩ := hrel
                    by_cases hltx : x < q
                    · have cg := RG2.out.cell hltx
                      have hT := seen_in b k2 x _ hk (by rw [KN2.out]; exact hltx)
                      generalize k2.s x = sx at *
                      go_wp2_with fail
                      refine hT.mono ?_; clear hT; rintro e wx ⟨rfl, rfl⟩
                      go_wp2_with fail
                      go_round
                      case rel => exact ⟨x + 1, by omega, by go_num⟩
                      case measure => simp [intOf]; omega
                    · go_wp2_with fail
                      go_roundw
                      case rel => exact ⟨i + 1, by omega, by go_num, k2, g2, rfl, rfl, rfl, hk, KN2.out, hkc2, hinv2, RG2.out, hne2, hg2, hup⟩
                      case measure => simp [intOf]; omega
            · as_aux_lemma =>
              have HP := Lib.hid hp
              have hsh : k.shakes = false := by simp [Ck.shakes, hp]
              have HSH := Lib.hid hsh
              have hrv : k.ready = false := by rw [Ck.ready, hsh]; rfl
              have HRV := Lib.hid hrv
              rw [hp]
              clear hp hsh hrv
              go_wp2_with fail
              refine (ready_at b k _ hk).mono ?_; rw [HRV.out]; rintro e w4 ⟨rfl, u4⟩
              have up4 := hup.trans u4
              have a4 := hk.upd u4 (by simp)
              have r4 := RG.out.upd u4 (by simp)
              have c4 := HABH.out _ u4
              have habl : ab < w4.heap.size := Nat.lt_of_lt_of_le hab u4.size
              have hw := HW.out
              go_upto_block 4 with fail
              go_cut [7, 8, 9] (fun y z x wx => OrdRel w b q (i + 1) y z x wx)
              case first =>
                by_cases h8 : t % 8 = 0
                · have hb8 : (t % 8 == 0) = true := by simp [h8]
                  clear h8
                  go_wp2_with fail
                  refine (begin_not b k _ a4 (by rw [HP.out]; omega)).mono ?_; rintro e wx ⟨rfl, rfl⟩
                  go_wp2_with fail
                  go_meet
                  case rel => exact ⟨k, g, by rw [HP.out]; rfl, rfl, rfl, a4, KN.out, by omega, INV.out, r4, hne, hg, up4⟩
                · have hb8 : (t % 8 == 0) = false := by simpa using h8
                  clear h8
                  by_cases h4 : t % 8 < 4
                  · go_wp2_with fail
                    refine (go_next b k _ a4 (by rw [HP.out]; omega) (.inl HSH.out) (by omega)).mono ?_; rintro e w5 ⟨rfl, a5, u5⟩
                    have up5 := up4.fresh1 u5 hw
                    have r6 := (VRow.new w5 4 q (fun _ => .bool false)).upd ((Upd.refl [] _).drew) (by simp)
                    have u6 : Upd [] w5 (w5.alloc (.cells (vcells (fun _ => .bool false) q) 4)).drew := ((Upd.refl _ _).alloc _).drew
                    have a6 := a5.upd u6 (by simp)
                    have hg6 : w5.heap.size ≠ b := by have := a5.lt; omega
                    have hg7 := up5.size
                    have hk3 : k.next.c ≤ i + 1 := by simp only [Ck.next]; split <;> omega
                    go_wp2_with fail
                    go_region
                    all_goals
                      go_wp2_with fail
                      go_meet
                      case rel => exact ⟨k.next, w5.heap.size, by simp [Ck.next, HP.out], by simp [Ck.next, HP.out], rfl, a6, KN.out, hk3, inv_next _, r6, hg6, hg7, up5.trans u6⟩
                  · have hme := HME.out
                    have cm := r4.cell hmn
                    have fm := r4.free m
                    have hg4 := r4.lt
                    have hks : k.s m = false := by
                      cases h : k.s m
                      · rfl
                      · have := INV.out m h; rw [HSH.out] at this; cases this
                    rw [hks] at cm
                    have HKS := Lib.hid hks; clear hks
                    have R4 := Lib.hid r4; clear r4
                    go_wp2_with fail
                    refine (ack_not b k m _ a4 (by rw [KN.out]; exact hmn) HSH.out).mono ?_; rintro e wx ⟨rfl, rfl⟩
                    go_wp2_with fail
                    go_meet
                    case rel => exact ⟨k, g, by rw [HP.out]; rfl, rfl, rfl, a4.upd (S := [g]) ((Upd.refl _ _).setCell (by simp) _) (by simpa using hne.symm), KN.out, by omega, INV.out, (R4.out.set m _).congr (fun j _ => by by_cases e : j = m; rw [if_pos e, e, HKS.out]; rw [if_neg e]), hne, hg, up4.fresh1 (k := g) ((Upd.refl _ _).setCell (by simp) _) hg⟩
              case rest =>
                clear up4 a4 r4 c4 hk hup RG HABH hcell
                obtain ⟨k2, g2, rfl, rfl, rfl, hk, hkn, hkc2, hinv2, rg, hne2, hg2, hup⟩ := hcut
                have hgl2 := rg.lt
                have KN2 := Lib.hid hkn; clear hkn
                have RG2 := Lib.hid rg; clear rg
                go_wp2_with fail
                refine (phase_at b k2 _ hk).mono ?_; rintro e wx ⟨rfl, rfl⟩
                go_wp2_with fail
                refine (cycles_at b k2 _ hk).mono ?_; rintro e wx ⟨rfl, rfl⟩
                go_wp2_with fail
                go_loop [19] (fun y => ∃ x : Nat, x ≤ q ∧ y = .int .i64 x) (fun y => q - (intOf y).toNat)
                case atStart => exact ⟨0, by omega, rfl⟩
                case round =>
                  obtain ⟨x, hx, rfl⟩ := hrel
                  by_cases hltx : x < q
                  · have cg := RG2.out.cell hltx
                    have hT := seen_in b k2 x _ hk (by rw [KN2.out]; exact hltx)
                    generalize k2.s x = sx at *
                    go_wp2_with fail
                    refine hT.mono ?_; clear hT; rintro e wx ⟨rfl, rfl⟩
                    go_wp2_with fail
                    go_round
                    case rel => exact ⟨x + 1, by omega, by go_num⟩
                    case measure => simp [intOf]; omega
                  · go_wp2_with fail
                    go_roundw
                    case rel => exact ⟨i + 1, by omega, by go_num, k2, g2, rfl, rfl, rfl, hk, KN2.out, hkc2, hinv2, RG2.out, hne2, hg2, hup⟩
                    case measure => simp [intOf]; omega
            · as_aux_lemma =>
              have HP := Lib.hid hp
              have hsh : k.shakes = false := by simp [Ck.shakes, hp]
              have HSH := Lib.hid hsh
              have hrv : k.ready = false := by rw [Ck.ready, hsh]; rfl
              have HRV := Lib.hid hrv
              rw [hp]
              clear hp hsh hrv
              go_wp2_with fail
              refine (ready_at b k _ hk).mono ?_; rw [HRV.out]; rintro e w4 ⟨rfl, u4⟩
              have up4 := hup.trans u4
              have a4 := hk.upd u4 (by simp)
              have r4 := RG.out.upd u4 (by simp)
              have c4 := HABH.out _ u4
              have habl : ab < w4.heap.size := Nat.lt_of_lt_of_le hab u4.size
              have hw := HW.out
              go_upto_block 4 with fail
              go_cut [7, 8, 9] (fun y z x wx => OrdRel w b q (i + 1) y z x wx)
              case first =>
                by_cases h8 : t % 8 = 0
                · have hb8 : (t % 8 == 0) = true := by simp [h8]
                  clear h8
                  go_wp2_with fail
                  refine (begin_not b k _ a4 (by rw [HP.out]; omega)).mono ?_; rintro e wx ⟨rfl, rfl⟩
                  go_wp2_with fail
                  go_meet
                  case rel => exact ⟨k, g, by rw [HP.out]; rfl, rfl, rfl, a4, KN.out, by omega, INV.out, r4, hne, hg, up4⟩
                · have hb8 : (t % 8 == 0) = false := by simpa using h8
                  clear h8
                  by_cases h4 : t % 8 < 4
                  · go_wp2_with fail
                    refine (go_next b k _ a4 (by rw [HP.out]; omega) (.inl HSH.out) (by omega)).mono ?_; rintro e w5 ⟨rfl, a5, u5⟩
                    have up5 := up4.fresh1 u5 hw
                    have r6 := (VRow.new w5 4 q (fun _ => .bool false)).upd ((Upd.refl [] _).drew) (by simp)
                    have u6 : Upd [] w5 (w5.alloc (.cells (vcells (fun _ => .bool false) q) 4)).drew := ((Upd.refl _ _).alloc _).drew
                    have a6 := a5.upd u6 (by simp)
                    have hg6 : w5.heap.size ≠ b := by have := a5.lt; omega
                    have hg7 := up5.size
                    have hk3 : k.next.c ≤ i + 1 := by simp only [Ck.next]; split <;> omega
                    go_wp2_with fail
                    go_region
                    all_goals
                      go_wp2_with fail
                      go_meet
                      case rel => exact ⟨k.next, w5.heap.size, by simp [Ck.next, HP.out], by simp [Ck.next, HP.out], rfl, a6, KN.out, hk3, inv_next _, r6, hg6, hg7, up5.trans u6⟩
                  · have hme := HME.out
                    have cm := r4.cell hmn
                    have fm := r4.free m
                    have hg4 := r4.lt
                    have hks : k.s m = false := by
                      cases h : k.s m
                      · rfl
                      · have := INV.out m h; rw [HSH.out] at this; cases this
                    rw [hks] at cm
                    have HKS := Lib.hid hks; clear hks
                    have R4 := Lib.hid r4; clear r4
                    go_wp2_with fail
                    refine (ack_not b k m _ a4 (by rw [KN.out]; exact hmn) HSH.out).mono ?_; rintro e wx ⟨rfl, rfl⟩
                    go_wp2_with fail
                    go_meet
                    case rel => exact ⟨k, g, by rw [HP.out]; rfl, rfl, rfl, a4.upd (S := [g]) ((Upd.refl _ _).setCell (by simp) _) (by simpa using hne.symm), KN.out, by omega, INV.out, (R4.out.set m _).congr (fun j _ => by by_cases e : j = m; rw [if_pos e, e, HKS.out]; rw [if_neg e]), hne, hg, up4.fresh1 (k := g) ((Upd.refl _ _).setCell (by simp) _) hg⟩
              case rest =>
                clear up4 a4 r4 c4 hk hup RG HABH hcell
                obtain ⟨k2, g2, rfl, rfl, rfl, hk, hkn, hkc2, hinv2, rg, hne2, hg2, hup⟩ := hcut
                have hgl2 := rg.lt
                have KN2 := Lib.hid hkn; clear hkn
                have RG2 := Lib.hid rg; clear rg
                go_wp2_with fail
                refine (phase_at b k2 _ hk).mono ?_; rintro e wx ⟨rfl, rfl⟩
                go_wp2_with fail
                refine (cycles_at b k2 _ hk).mono ?_; rintro e wx ⟨rfl, rfl⟩
                go_wp2_with fail
                go_loop [19] (fun y => ∃ x : Nat, x ≤ q ∧ y = .int .i64 x) (fun y => q - (intOf y).toNat)
                case atStart => exact ⟨0, by omega, rfl⟩
                case round =>
                  obtain ⟨x, hx, rfl⟩ := hrel
                  by_cases hltx : x < q
                  · have cg := RG2.out.cell hltx
                    have hT := seen_in b k2 x _ hk (by rw [KN2.out]; exact hltx)
                    generalize k2.s x = sx at *
                    go_wp2_with fail
                    refine hT.mono ?_; clear hT; rintro e wx ⟨rfl, rfl⟩
                    go_wp2_with fail
                    go_round
                    case rel => exact ⟨x + 1, by omega, by go_num⟩
                    case measure => simp [intOf]; omega
                  · go_wp2_with fail
                    go_roundw
                    case rel => exact ⟨i + 1, by omega, by go_num, k2, g2, rfl, rfl, rfl, hk, KN2.out, hkc2, hinv2, RG2.out, hne2, hg2, hup⟩
                    case measure => simp [intOf]; omega
            · as_aux_lemma =>
              have HP := Lib.hid hp
              have hsh : k.shakes = false := by simp [Ck.shakes, hp]
              have HSH := Lib.hid hsh
              have hrv : k.ready = false := by rw [Ck.ready, hsh]; rfl
              have HRV := Lib.hid hrv
              rw [hp]
              clear hp hsh hrv
              go_wp2_with fail
              refine (ready_at b k _ hk).mono ?_; rw [HRV.out]; rintro e w4 ⟨rfl, u4⟩
              have up4 := hup.trans u4
              have a4 := hk.upd u4 (by simp)
              have r4 := RG.out.upd u4 (by simp)
              have c4 := HABH.out _ u4
              have habl : ab < w4.heap.size := Nat.lt_of_lt_of_le hab u4.size
              have hw := HW.out
              go_upto_block 4 with fail
              go_cut [7, 8, 9] (fun y z x wx => OrdRel w b q (i + 1) y z x wx)
              case first =>
                by_cases h8 : t % 8 = 0
                · have hb8 : (t % 8 == 0) = true := by simp [h8]
                  clear h8
                  go_wp2_with fail
                  refine (begin_not b k _ a4 (by rw [HP.out]; omega)).mono ?_; rintro e wx ⟨rfl, rfl⟩
                  go_wp2_with fail
                  go_meet
                  case rel => exact ⟨k, g, by rw [HP.out]; rfl, rfl, rfl, a4, KN.out, by omega, INV.out, r4, hne, hg, up4⟩
                · have hb8 : (t % 8 == 0) = false := by simpa using h8
                  clear h8
                  by_cases h4 : t % 8 < 4
                  · go_wp2_with fail
                    refine (go_next b k _ a4 (by rw [HP.out]; omega) (.inl HSH.out) (by omega)).mono ?_; rintro e w5 ⟨rfl, a5, u5⟩
                    have up5 := up4.fresh1 u5 hw
                    have r6 := (VRow.new w5 4 q (fun _ => .bool false)).upd ((Upd.refl [] _).drew) (by simp)
                    have u6 : Upd [] w5 (w5.alloc (.cells (vcells (fun _ => .bool false) q) 4)).drew := ((Upd.refl _ _).alloc _).drew
                    have a6 := a5.upd u6 (by simp)
                    have hg6 : w5.heap.size ≠ b := by have := a5.lt; omega
                    have hg7 := up5.size
                    have hk3 : k.next.c ≤ i + 1 := by simp only [Ck.next]; split <;> omega
                    go_wp2_with fail
                    go_region
                    all_goals
                      go_wp2_with fail
                      go_meet
                      case rel => exact ⟨k.next, w5.heap.size, by simp [Ck.next, HP.out], by simp [Ck.next, HP.out], rfl, a6, KN.out, hk3, inv_next _, r6, hg6, hg7, up5.trans u6⟩
                  · have hme := HME.out
                    have cm := r4.cell hmn
                    have fm := r4.free m
                    have hg4 := r4.lt
                    have hks : k.s m = false := by
                      cases h : k.s m
                      · rfl
                      · have := INV.out m h; rw [HSH.out] at this; cases this
                    rw [hks] at cm
                    have HKS := Lib.hid hks; clear hks
                    have R4 := Lib.hid r4; clear r4
                    go_wp2_with fail
                    refine (ack_not b k m _ a4 (by rw [KN.out]; exact hmn) HSH.out).mono ?_; rintro e wx ⟨rfl, rfl⟩
                    go_wp2_with fail
                    go_meet
                    case rel => exact ⟨k, g, by rw [HP.out]; rfl, rfl, rfl, a4.upd (S := [g]) ((Upd.refl _ _).setCell (by simp) _) (by simpa using hne.symm), KN.out, by omega, INV.out, (R4.out.set m _).congr (fun j _ => by by_cases e : j = m; rw [if_pos e, e, HKS.out]; rw [if_neg e]), hne, hg, up4.fresh1 (k := g) ((Upd.refl _ _).setCell (by simp) _) hg⟩
              case rest =>
                clear up4 a4 r4 c4 hk hup RG HABH hcell
                obtain ⟨k2, g2, rfl, rfl, rfl, hk, hkn, hkc2, hinv2, rg, hne2, hg2, hup⟩ := hcut
                have hgl2 := rg.lt
                have KN2 := Lib.hid hkn; clear hkn
                have RG2 := Lib.hid rg; clear rg
                go_wp2_with fail
                refine (phase_at b k2 _ hk).mono ?_; rintro e wx ⟨rfl, rfl⟩
                go_wp2_with fail
                refine (cycles_at b k2 _ hk).mono ?_; rintro e wx ⟨rfl, rfl⟩
                go_wp2_with fail
                go_loop [19] (fun y => ∃ x : Nat, x ≤ q ∧ y = .int .i64 x) (fun y => q - (intOf y).toNat)
                case atStart => exact ⟨0, by omega, rfl⟩
                case round =>
                  obtain ⟨x, hx, rfl⟩ := hrel
                  by_cases hltx : x < q
                  · have cg := RG2.out.cell hltx
                    have hT := seen_in b k2 x _ hk (by rw [KN2.out]; exact hltx)
                    generalize k2.s x = sx at *
                    go_wp2_with fail
                    refine hT.mono ?_; clear hT; rintro e wx ⟨rfl, rfl⟩
                    go_wp2_with fail
                    go_round
                    case rel => exact ⟨x + 1, by omega, by go_num⟩
                    case measure => simp [intOf]; omega
                  · go_wp2_with fail
                    go_roundw
                    case rel => exact ⟨i + 1, by omega, by go_num, k2, g2, rfl, rfl, rfl, hk, KN2.out, hkc2, hinv2, RG2.out, hne2, hg2, hup⟩
                    case measure => simp [intOf]; omega
      · go_wp2_with fail
        refine (works_ok _).mono ?_; rintro e w5 ⟨rfl, u5⟩
        go_wp2_with fail
        go_ret
        exact ⟨rfl, hup.trans u5⟩

theorem order_fr (w : World) (u : Int) (hu : (Lit.int .u8 u).wf = true) (v : Value) (us : List Int) (hv : Bytes .u8 w v us) :
    Calls Try.prog 3 #[.int .u8 u, v] w fun e w' => e = .returned (.bool true) ∧ Upd [] w w' :=
  order_ok u (wf_u8 hu).1 (wf_u8 hu).2 v us w hv

end Go.Proofs.Ytldladoccjlojaa
