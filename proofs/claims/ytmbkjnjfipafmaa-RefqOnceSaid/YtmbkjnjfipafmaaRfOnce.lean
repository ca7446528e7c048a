/-
  RefqOnce: each registered id is polled once at most, in the order in which objects were found. Conditions: none.
-/
import Derived.Test.YtmbkjnjfipafmaaRfOrd
import Derived.Deep.DeepCutAuto
import Derived.Deep.CutBlock
namespace Go.Proofs.Ytmbkjnjfipafmaa
open Go.RowKit Go.Maps

set_option maxRecDepth 100000 in
set_option maxHeartbeats 16000000 in
theorem once_ok (a b : Nat) (ha : a < 256) (hb : b < 256) (v : Value) (css : List (List Value)) (w : World) (hv : Recs w v 3 css) (hF : ∀ cs ∈ css, IsTurn cs) :
    Calls Try.prog 3 #[.int .u8 (a : Int), .int .u8 (b : Int), v] w fun e w' => e = .returned (.bool true) ∧ Upd [] w w' := by
  have HV := Lib.hid hv
  obtain ⟨ad, cap, rfl, hcc, hcm, -⟩ := hv
  have hm : cap ≤ 9223372036854775807 := by unfold maxLen at hcm; omega
  have HF := Lib.hid hF; clear hF hcm
  by_cases h200 : css.length ≤ 200
  · have hg : ¬ (200 : Int) < (css.length : Int) := by omega
    have hmm := @run_makeMap Try.prog
    go_enter Try.func3, Try.ntmps3
    go_wp2_with fail
    refine (begin_ok a b ha hb w).mono ?_; rintro e w1 ⟨kb, B, h, rfl, k1, hsc, u1⟩
    have SC := Lib.hid hsc
    obtain ⟨N, hN⟩ : ∃ N, (rs0 (1 + a) (1 + b % 64)).size = N := ⟨_, rfl⟩
    obtain ⟨P, hP⟩ : ∃ P, (rs0 (1 + a) (1 + b % 64)).places = P := ⟨_, rfl⟩
    have hNr := k1.rf.szs
    rw [hN] at hNr
    have hN1 : 1 ≤ N := hNr.1
    have hN2 : N ≤ 256 := hNr.2.1
    have uM : Upd [] w1 ((((w1.alloc (.map #[] 0)).alloc (.map #[] 0)).alloc (.map #[] 0)).alloc (.map #[] 0)) := ((((Upd.refl _ _).alloc _).alloc _).alloc _).alloc _
    have L0 := Lib.hid (show Lo ((((w1.alloc (.map #[] 0)).alloc (.map #[] 0)).alloc (.map #[] 0)).alloc (.map #[] 0)) kb h w1.heap.size (w1.heap.size + 1) (w1.heap.size + 1 + 1) (w1.heap.size + 1 + 1 + 1) w.heap.size N P B.b (.slice none 0 0) (rs0 (1 + a) (1 + b % 64)).l (fun _ => 0) (fun _ => 0) (fun _ => 0) (fun _ => 0) from by
      have e1 : Upd [] (w1.alloc (.map #[] 0)) ((((w1.alloc (.map #[] 0)).alloc (.map #[] 0)).alloc (.map #[] 0)).alloc (.map #[] 0)) := (((Upd.refl _ _).alloc _).alloc _).alloc _
      have e2 : Upd [] ((w1.alloc (.map #[] 0)).alloc (.map #[] 0)) ((((w1.alloc (.map #[] 0)).alloc (.map #[] 0)).alloc (.map #[] 0)).alloc (.map #[] 0)) := ((Upd.refl _ _).alloc _).alloc _
      have e3 : Upd [] (((w1.alloc (.map #[] 0)).alloc (.map #[] 0)).alloc (.map #[] 0)) ((((w1.alloc (.map #[] 0)).alloc (.map #[] 0)).alloc (.map #[] 0)).alloc (.map #[] 0)) := (Upd.refl _ _).alloc _
      have k1' := ctAt_new w1
      have k2' := ctAt_new (w1.alloc (.map #[] 0))
      have k3' := ctAt_new ((w1.alloc (.map #[] 0)).alloc (.map #[] 0))
      have k4' := ctAt_new (((w1.alloc (.map #[] 0)).alloc (.map #[] 0)).alloc (.map #[] 0))
      simp only [World.size_alloc] at k2' k3' k4'
      have hblk := uM.keep k1.l.blk (by simp)
      rw [hN, hP] at hblk
      exact ⟨hblk, ordAt_nil _ _, k1'.upd e1 (by simp), k2'.upd e2 (by simp), k3'.upd e3 (by simp), k4'⟩)
    have R0 := Lib.hid (k1.rf.upd0 uM); have U0 := Lib.hid (u1.trans uM)
    have SP := Lib.hid (show SepO kb w1.heap.size (w1.heap.size + 1) (w1.heap.size + 1 + 1) (w1.heap.size + 1 + 1 + 1) B from
      ⟨k1.ka, fun hm => by have := k1.rf.lts _ hm; omega, fun hm => by have := k1.rf.lts _ hm; omega, fun hm => by have := k1.rf.lts _ hm; omega, fun hm => by have := k1.rf.lts _ hm; omega, by omega⟩)
    have MS := Lib.hid (show w.heap.size ≤ w1.heap.size ∧ w.heap.size ≤ w1.heap.size + 1 ∧ w.heap.size ≤ w1.heap.size + 1 + 1 ∧ w.heap.size ≤ w1.heap.size + 1 + 1 + 1 from by have := u1.size; omega)
    have HN := Lib.hid hN
    clear k1 hsc u1 uM hN hP hNr
    go_wp2_with fail
    generalize (((w1.alloc (.map #[] 0)).alloc (.map #[] 0)).alloc (.map #[] 0)).alloc (.map #[] 0) = w5 at *
    generalize w1.heap.size + 1 + 1 + 1 = m4 at *
    generalize w1.heap.size + 1 + 1 = m3 at *
    generalize w1.heap.size + 1 = m2 at *
    generalize w1.heap.size = m1 at *
    clear hmm
    go_loopw [12, 13] (fun y x wr => ∃ i : Nat, i ≤ css.length ∧ x = .int .i64 i ∧ (∃ s r f p c, Lo wr kb h m1 m2 m3 m4 w.heap.size N P B.b y s.l r f p c ∧ RfAt wr B s ∧ s.size = N ∧ InvO s r f p c i) ∧ Upd [] w wr) (fun _ x _ => css.length - (intOf x).toNat)
    case atStart => exact ⟨0, by omega, rfl, ⟨_, _, _, _, _, L0.out, R0.out, HN.out, inv_start⟩, U0.out⟩
    case round =>
      clear L0 R0 U0
      obtain ⟨i, hi, rfl, ⟨s, r, f, p, c, hlo, hr, hsz, hinv⟩, hup⟩ := hrel
      obtain ⟨va, vc, rfl, hvc1, hvc2⟩ := hlo.ord.ints.form
      have LO := Lib.hid hlo; have RR := Lib.hid hr; have HSZ := Lib.hid hsz; have INV := Lib.hid hinv; have UP := Lib.hid hup
      by_cases hlt : i < css.length
      · obtain ⟨ab, aoff, kd, x, o, rfl, hcs, hkd, hx, ho, hcell⟩ := turn_cells HV.out HF.out hlt rfl
        have HC := Lib.hid hcell
        obtain ⟨-, x1, x2, hgl⟩ := hcell _ hup
        obtain ⟨id, hid⟩ : ∃ id, x % N = id := ⟨_, rfl⟩
        have hidN : id < N := by rw [← hid]; exact Nat.mod_lt _ (by omega)
        have hi256 : id < 256 := by omega
        have hmod : Int.tmod (x : Int) (N : Int) = (id : Int) := by rw [Int.tmod_eq_emod_of_nonneg (by omega), ← hid]; rfl
        have hN0 : ((N : Int) == 0) = false := by simp; omega
        have hNz : (N : Int) ≠ 0 := by omega
        have hNz1 : ¬ N = 0 := by omega
        have hl64 : s.l.length ≤ 64 := by have := hr.szs; omega
        clear hlo hr hsz hinv hup hcs hcell hid
        have k1 : wr.cell? ⟨kb, 1, none⟩ = some (.int .i64 N) := cell_of LO.out.blk 1
        have hkl := lt_of_block LO.out.blk
        have hXn : ¬ (wr.heap.size = ab) := by omega
        have hXn2 : ¬ (ab = wr.heap.size) := by omega
        have hkn : ¬ (wr.heap.size = kb) := by omega
        have hkn2 : ¬ (kb = wr.heap.size) := by omega
        have zR := zeroR
        go_wp2_with fail
        have hwa : IntKind.i64.wrap ((x : Nat) : Int) = (x : Int) := IntWalk.i64_in _ (by omega)
        go_cut [14, 15] (fun x14 x15 wx => ∃ Y, x14 = .int .i64 id ∧ x15 = .pointer (some ⟨Y, 0, none⟩) ∧ wx.heap[Y]? = some (.cells #[.int .i64 (objR o).1, .int .u32 (objR o).2] 36 (0, 0)) ∧ Upd [] wr wx)
        case first =>
          go_region_held3 (fun w' => w'.cell? ⟨ab, aoff + i * 3 + 1, none⟩ = some (.int .u8 (x : Int)) ∧ w'.cell? ⟨ab, aoff + i * 3 + 2, none⟩ = some (.int .u8 (o : Int)) ∧ w'.cell? ⟨kb, 1, none⟩ = some (.int .i64 N)) (first | go_keep | exact ⟨x1, x2, k1⟩) (first | (go_at_call 12; refine (object_at o _ ho).mono ?_; rintro e w3 ⟨rfl, u3⟩; have u4 : Upd [] wr w3 := (((Upd.refl _ _).alloc (.cells #[.int .i64 0, .int .u32 0] 36)).drew).trans u3; have hY := u3.keep (drew_of (new_of wr (.cells #[.int .i64 0, .int .u32 0] 36))) (by simp); have hX3 := HC.out _ (UP.out.trans u4); have hK3 := u4.keep LO.out.blk (by simp); have x1 := hX3.2.1; have x2 := hX3.2.2.1; have k1 := cell_of hK3 1; have y0 := cell_of hY 0; have y1 := cell_of hY 1; have yf0 : w3.frozen? ⟨wr.heap.size, 0, none⟩ = false := free_of hY 0; have yf1 : w3.frozen? ⟨wr.heap.size, 1, none⟩ = false := free_of hY 1) | (go_at_call 12; refine (object_at o _ ho).mono ?_; rintro e w3 ⟨rfl, u3⟩; have u4 : Upd [] wr w3 := ((Upd.refl _ _).drew).trans u3; have hX3 := HC.out _ (UP.out.trans u4); have hK3 := u4.keep LO.out.blk (by simp); have x1 := hX3.2.1; have x2 := hX3.2.2.1; have k1 := cell_of hK3 1))
          all_goals
            go_wp2_with fail
            go_meet
            case rel =>
              first
              | exact ⟨_, rfl, rfl, new_of _ _, u4.alloc _⟩
              | exact ⟨_, rfl, rfl, set_of (set_of hY 0 _) 1 _, (u4.setNew (Nat.le_refl _) _).setNew (Nat.le_refl _) _⟩
        case rest =>
          obtain ⟨Y, rfl, rfl, hY, uc⟩ := hcut
          clear hXn hXn2 hkn hkn2 hgl hkl x1 x2 k1 hmod hN0 hNz hNz1 zR hwa
          have HY := Lib.hid hY
          have LC := Lib.hid (LO.out.upd0 uc); have RC := Lib.hid (RR.out.upd0 uc); have UC := Lib.hid (UP.out.trans uc)
          obtain ⟨x0, -, -, xl⟩ := HC.out _ UC.out
          have HR := Lib.hid (objR_good o)
          generalize objR o = ob at *
          obtain ⟨r1, r2⟩ := ob
          dsimp only at hY HY
          clear hY uc HC LO RR UP
          have h6 : kd % 6 = 0 ∨ kd % 6 = 1 ∨ kd % 6 = 2 ∨ kd % 6 = 3 ∨ kd % 6 = 4 ∨ kd % 6 = 5 := by omega
          rcases h6 with h6 | h6 | h6 | h6 | h6 | h6
          · as_aux_lemma =>
            have hkk : Int.tmod (kd : Int) 6 = 0 := by rw [Int.tmod_eq_emod_of_nonneg (by omega)]; omega
            clear h6
            have c0 : wc.cell? ⟨kb, 0, none⟩ = some (.pointer (some ⟨B.b, 0, none⟩)) := cell_of LC.out.blk 0
            have y0 : wc.cell? ⟨Y, 0, none⟩ = some (.int .i64 r1) := cell_of HY.out 0
            have y1 : wc.cell? ⟨Y, 1, none⟩ = some (.int .u32 r2) := cell_of HY.out 1
            have KEEP := Lib.hid (show ∀ w', Upd B.S wc w' → w'.cell? ⟨kb, 0, none⟩ = some (.pointer (some ⟨B.b, 0, none⟩)) ∧ w'.cell? ⟨Y, 0, none⟩ = some (.int .i64 r1) ∧ w'.cell? ⟨Y, 1, none⟩ = some (.int .u32 r2) from fun w' u => by
              have b1 := u.keep HY.out (RC.out.notIn HY.out (by decide))
              exact ⟨cell_of (LC.out.rf RC.out SP.out u).blk 0, cell_of b1 0, cell_of b1 1⟩)
            have hrg := rfreg (RC.out.upd0 ((Upd.refl _ _).drew)) (id : Int) (r1, r2) HR.out.wf
            obtain ⟨x, hx⟩ : ∃ x, s.regE' id (r1, r2) = x := ⟨_, rfl⟩
            obtain ⟨s2, hs2⟩ : ∃ s2, s.regS' id (r1, r2) = s2 := ⟨_, rfl⟩
            have hE : s.regE' id (r1, r2) = if (s.byI (r1, r2)).isSome = true ∨ s.cl id ≠ 0 then 6 else 0 := by
              unfold Rs.regE'; rw [if_pos ⟨by omega, by have := HSZ.out; omega⟩, Int.toNat_natCast]; unfold Rs.regE; rw [if_pos HR.out]
            have hS : s.regS' id (r1, r2) = if x = 0 then s.setG id (some (r1, r2)) else s := by
              have hin : 0 ≤ (id : Int) ∧ (id : Int) < (s.size : Int) := ⟨by omega, by have := HSZ.out; omega⟩
              rw [← hx]; unfold Rs.regS' Rs.regE'; rw [if_pos hin, if_pos hin, Int.toNat_natCast]; rfl
            rw [hx] at hE
            rw [hs2] at hS
            rw [hx, hs2] at hrg
            have HE := Lib.hid hE; have HS := Lib.hid hS; have HRG := Lib.hid hrg
            clear hE hS hrg hx hs2
            go_wp2_with fail
            go_region_held3 (fun w' => w'.cell? ⟨kb, 0, none⟩ = some (.pointer (some ⟨B.b, 0, none⟩)) ∧ w'.cell? ⟨Y, 0, none⟩ = some (.int .i64 r1) ∧ w'.cell? ⟨Y, 1, none⟩ = some (.int .u32 r2)) (first | go_keep | exact ⟨c0, y0, y1⟩ | exact KK) (first | (go_at_call 13; refine HRG.out.mono ?_; rintro e w3 ⟨rfl, rf3, u3⟩; have u4 : Upd B.S wc w3 := ((Upd.refl _ _).drew).trans u3; have KK := KEEP.out _ u4))
            have L3 := Lib.hid (LC.out.rf RC.out SP.out u4)
            have R3 := Lib.hid rf3; have U3 := Lib.hid (UC.out.sinceS u4 SC.out.2.2)
            clear KK KEEP u3 u4 rf3 c0 y0 y1 HRG HY LC RC UC
            by_cases hx0 : x = 0
            · subst hx0
              have hcl : s.cl id = 0 := by
                by_cases hc : s.cl id = 0
                · exact hc
                · have := HE.out; rw [if_pos (.inr hc)] at this; cases this
              have hs2 : s2 = s.setG id (some (r1, r2)) := by rw [HS.out, if_pos rfl]
              subst hs2
              have INV2 := Lib.hid (inv_reg (x := (r1, r2)) INV.out hcl)
              have hrb := (INV.out id hi256).2.2.2
              obtain ⟨q, hq⟩ : ∃ q, r id = q := ⟨_, rfl⟩
              have hlk := L3.out.c1.look id hi256
              obtain ⟨w4, hput, k4, u4⟩ := L3.out.c1.put id hi256 (by omega)
              rw [hq] at hlk hput hrb
              have HLK := Lib.hid hlk; have HPUT := Lib.hid hput
              have L4 := Lib.hid (L3.out.w1 SP.out u4 k4)
              have R4 := Lib.hid (R3.out.updA u4 (fun y hy => by simp; rintro rfl; exact SP.out.a1 hy))
              have U4 := Lib.hid (U3.out.fresh1 u4 MS.out.1)
              have hq200 : q ≤ 200 := by omega
              clear hlk hput k4 u4 hcl hrb
              go_wp2_with (first | (at_lookup; refine wpList_lookG (by rfl) _ _ 26 false rfl _ _ _ rfl rfl HLK.out ?_) | (at_mapUpdate; refine wpList_upd rfl _ _ _ 26 rfl _ _ _ rfl rfl rfl HPUT.out ?_))
              go_roundw
              case rel => exact ⟨i + 1, by omega, by go_num, ⟨s.setG id (some (r1, r2)), _, _, _, _, L4.out, R4.out, HSZ.out, INV2.out⟩, U4.out⟩
              case measure => simp [intOf]; omega

            · have hxb : (x == 0) = false := by simpa using hx0
              have hs2 : s2 = s := by rw [HS.out, if_neg hx0]
              subst hs2
              have INV2 := Lib.hid INV.out.succ
              go_wp2_with fail
              go_roundw
              case rel => exact ⟨i + 1, by omega, by go_num, ⟨_, _, _, _, _, L3.out, R3.out, HSZ.out, INV2.out⟩, U3.out⟩
              case measure => simp [intOf]; omega
          · as_aux_lemma =>
            have hkk : Int.tmod (kd : Int) 6 = 1 := by rw [Int.tmod_eq_emod_of_nonneg (by omega)]; omega
            clear h6
            have c0 : wc.cell? ⟨kb, 0, none⟩ = some (.pointer (some ⟨B.b, 0, none⟩)) := cell_of LC.out.blk 0
            have y0 : wc.cell? ⟨Y, 0, none⟩ = some (.int .i64 r1) := cell_of HY.out 0
            have y1 : wc.cell? ⟨Y, 1, none⟩ = some (.int .u32 r2) := cell_of HY.out 1
            have KEEP := Lib.hid (show ∀ w', Upd B.S wc w' → w'.cell? ⟨kb, 0, none⟩ = some (.pointer (some ⟨B.b, 0, none⟩)) ∧ w'.cell? ⟨Y, 0, none⟩ = some (.int .i64 r1) ∧ w'.cell? ⟨Y, 1, none⟩ = some (.int .u32 r2) from fun w' u => by
              have b1 := u.keep HY.out (RC.out.notIn HY.out (by decide))
              exact ⟨cell_of (LC.out.rf RC.out SP.out u).blk 0, cell_of b1 0, cell_of b1 1⟩)
            have hrg := rfreg (RC.out.upd0 ((Upd.refl _ _).drew)) (id : Int) (r1, r2) HR.out.wf
            obtain ⟨x, hx⟩ : ∃ x, s.regE' id (r1, r2) = x := ⟨_, rfl⟩
            obtain ⟨s2, hs2⟩ : ∃ s2, s.regS' id (r1, r2) = s2 := ⟨_, rfl⟩
            have hE : s.regE' id (r1, r2) = if (s.byI (r1, r2)).isSome = true ∨ s.cl id ≠ 0 then 6 else 0 := by
              unfold Rs.regE'; rw [if_pos ⟨by omega, by have := HSZ.out; omega⟩, Int.toNat_natCast]; unfold Rs.regE; rw [if_pos HR.out]
            have hS : s.regS' id (r1, r2) = if x = 0 then s.setG id (some (r1, r2)) else s := by
              have hin : 0 ≤ (id : Int) ∧ (id : Int) < (s.size : Int) := ⟨by omega, by have := HSZ.out; omega⟩
              rw [← hx]; unfold Rs.regS' Rs.regE'; rw [if_pos hin, if_pos hin, Int.toNat_natCast]; rfl
            rw [hx] at hE
            rw [hs2] at hS
            rw [hx, hs2] at hrg
            have HE := Lib.hid hE; have HS := Lib.hid hS; have HRG := Lib.hid hrg
            clear hE hS hrg hx hs2
            go_wp2_with fail
            go_region_held3 (fun w' => w'.cell? ⟨kb, 0, none⟩ = some (.pointer (some ⟨B.b, 0, none⟩)) ∧ w'.cell? ⟨Y, 0, none⟩ = some (.int .i64 r1) ∧ w'.cell? ⟨Y, 1, none⟩ = some (.int .u32 r2)) (first | go_keep | exact ⟨c0, y0, y1⟩ | exact KK) (first | (go_at_call 13; refine HRG.out.mono ?_; rintro e w3 ⟨rfl, rf3, u3⟩; have u4 : Upd B.S wc w3 := ((Upd.refl _ _).drew).trans u3; have KK := KEEP.out _ u4))
            have L3 := Lib.hid (LC.out.rf RC.out SP.out u4)
            have R3 := Lib.hid rf3; have U3 := Lib.hid (UC.out.sinceS u4 SC.out.2.2)
            clear KK KEEP u3 u4 rf3 c0 y0 y1 HRG HY LC RC UC
            by_cases hx0 : x = 0
            · subst hx0
              have hcl : s.cl id = 0 := by
                by_cases hc : s.cl id = 0
                · exact hc
                · have := HE.out; rw [if_pos (.inr hc)] at this; cases this
              have hs2 : s2 = s.setG id (some (r1, r2)) := by rw [HS.out, if_pos rfl]
              subst hs2
              have INV2 := Lib.hid (inv_reg (x := (r1, r2)) INV.out hcl)
              have hrb := (INV.out id hi256).2.2.2
              obtain ⟨q, hq⟩ : ∃ q, r id = q := ⟨_, rfl⟩
              have hlk := L3.out.c1.look id hi256
              obtain ⟨w4, hput, k4, u4⟩ := L3.out.c1.put id hi256 (by omega)
              rw [hq] at hlk hput hrb
              have HLK := Lib.hid hlk; have HPUT := Lib.hid hput
              have L4 := Lib.hid (L3.out.w1 SP.out u4 k4)
              have R4 := Lib.hid (R3.out.updA u4 (fun y hy => by simp; rintro rfl; exact SP.out.a1 hy))
              have U4 := Lib.hid (U3.out.fresh1 u4 MS.out.1)
              have hq200 : q ≤ 200 := by omega
              clear hlk hput k4 u4 hcl hrb
              go_wp2_with (first | (at_lookup; refine wpList_lookG (by rfl) _ _ 26 false rfl _ _ _ rfl rfl HLK.out ?_) | (at_mapUpdate; refine wpList_upd rfl _ _ _ 26 rfl _ _ _ rfl rfl rfl HPUT.out ?_))
              go_roundw
              case rel => exact ⟨i + 1, by omega, by go_num, ⟨s.setG id (some (r1, r2)), _, _, _, _, L4.out, R4.out, HSZ.out, INV2.out⟩, U4.out⟩
              case measure => simp [intOf]; omega

            · have hxb : (x == 0) = false := by simpa using hx0
              have hs2 : s2 = s := by rw [HS.out, if_neg hx0]
              subst hs2
              have INV2 := Lib.hid INV.out.succ
              go_wp2_with fail
              go_roundw
              case rel => exact ⟨i + 1, by omega, by go_num, ⟨_, _, _, _, _, L3.out, R3.out, HSZ.out, INV2.out⟩, U3.out⟩
              case measure => simp [intOf]; omega
          · as_aux_lemma =>
            have hkk : Int.tmod (kd : Int) 6 = 2 := by rw [Int.tmod_eq_emod_of_nonneg (by omega)]; omega
            clear h6
            have c0 : wc.cell? ⟨kb, 0, none⟩ = some (.pointer (some ⟨B.b, 0, none⟩)) := cell_of LC.out.blk 0
            have y0 : wc.cell? ⟨Y, 0, none⟩ = some (.int .i64 r1) := cell_of HY.out 0
            have y1 : wc.cell? ⟨Y, 1, none⟩ = some (.int .u32 r2) := cell_of HY.out 1
            have KEEP := Lib.hid (show ∀ w', Upd [] wc w' → w'.cell? ⟨kb, 0, none⟩ = some (.pointer (some ⟨B.b, 0, none⟩)) ∧ w'.cell? ⟨Y, 0, none⟩ = some (.int .i64 r1) ∧ w'.cell? ⟨Y, 1, none⟩ = some (.int .u32 r2) from fun w' u => by
              have b1 := u.keep HY.out (by simp)
              exact ⟨cell_of (LC.out.upd0 u).blk 0, cell_of b1 0, cell_of b1 1⟩)
            have hrw := rfwatches (RC.out.upd0 ((Upd.refl _ _).drew)) (r1, r2) HR.out.wf
            obtain ⟨wi, hwi⟩ : ∃ x, (s.byI (r1, r2)).getD 0 = x := ⟨_, rfl⟩
            obtain ⟨wb, hwb⟩ : ∃ x, (s.byI (r1, r2)).isSome = x := ⟨_, rfl⟩
            rw [hwi, hwb] at hrw
            have HRW := Lib.hid hrw; have HWI := Lib.hid hwi; have HWB := Lib.hid hwb
            clear hrw hwi hwb
            go_wp2_with fail
            go_region_held3 (fun w' => w'.cell? ⟨kb, 0, none⟩ = some (.pointer (some ⟨B.b, 0, none⟩)) ∧ w'.cell? ⟨Y, 0, none⟩ = some (.int .i64 r1) ∧ w'.cell? ⟨Y, 1, none⟩ = some (.int .u32 r2)) (first | go_keep | exact ⟨c0, y0, y1⟩ | exact KK) (first | (go_at_call 14; refine HRW.out.mono ?_; rintro e w3 ⟨rfl, u3⟩; have u4 : Upd [] wc w3 := ((Upd.refl _ _).drew).trans u3; have KK := KEEP.out _ u4))
            have L3 := Lib.hid (LC.out.upd0 u4); have R3 := Lib.hid (RC.out.upd0 u4); have U3 := Lib.hid (UC.out.trans u4); have HY3 := Lib.hid (u4.keep HY.out (by simp))
            clear KK KEEP u3 u4 c0 y0 y1 HRW HY LC RC UC
            have c0 : w3.cell? ⟨kb, 0, none⟩ = some (.pointer (some ⟨B.b, 0, none⟩)) := cell_of L3.out.blk 0
            have y0 : w3.cell? ⟨Y, 0, none⟩ = some (.int .i64 r1) := cell_of HY3.out 0
            have y1 : w3.cell? ⟨Y, 1, none⟩ = some (.int .u32 r2) := cell_of HY3.out 1
            have KEEP := Lib.hid (show ∀ w', Upd B.S w3 w' → w'.cell? ⟨kb, 0, none⟩ = some (.pointer (some ⟨B.b, 0, none⟩)) ∧ w'.cell? ⟨Y, 0, none⟩ = some (.int .i64 r1) ∧ w'.cell? ⟨Y, 1, none⟩ = some (.int .u32 r2) from fun w' u => by
              have b1 := u.keep HY3.out (R3.out.notIn HY3.out (by decide))
              exact ⟨cell_of (L3.out.rf R3.out SP.out u).blk 0, cell_of b1 0, cell_of b1 1⟩)
            have hrg := rffound (R3.out.upd0 ((Upd.refl _ _).drew)) (r1, r2) HR.out.wf
            obtain ⟨fb, hfb⟩ : ∃ x, s.fndB (r1, r2) = x := ⟨_, rfl⟩
            obtain ⟨fe, hfe⟩ : ∃ x, s.fndE (r1, r2) = x := ⟨_, rfl⟩
            obtain ⟨s2, hs2⟩ : ∃ s2, s.fndS (r1, r2) = s2 := ⟨_, rfl⟩
            rw [hfb, hfe, hs2] at hrg
            have HFB := Lib.hid hfb; have HFE := Lib.hid hfe; have HS2 := Lib.hid hs2; have HRG := Lib.hid hrg
            clear hfb hfe hs2 hrg
            go_wp2_with fail
            go_region_held3 (fun w' => w'.cell? ⟨kb, 0, none⟩ = some (.pointer (some ⟨B.b, 0, none⟩)) ∧ w'.cell? ⟨Y, 0, none⟩ = some (.int .i64 r1) ∧ w'.cell? ⟨Y, 1, none⟩ = some (.int .u32 r2)) (first | go_keep | exact ⟨c0, y0, y1⟩ | exact KK) (first | (go_at_call 15; refine HRG.out.mono ?_; rintro e w4 ⟨rfl, rf4, u3⟩; have u4 : Upd B.S w3 w4 := ((Upd.refl _ _).drew).trans u3; have KK := KEEP.out _ u4))
            have L4 := Lib.hid (L3.out.rf R3.out SP.out u4)
            have R4 := Lib.hid rf4; have U4 := Lib.hid (U3.out.sinceS u4 SC.out.2.2)
            clear KK KEEP u3 u4 rf4 c0 y0 y1 HRG HY3
            cases hb : s.byI (r1, r2) with
            | none =>
              obtain rfl : s2 = s := by rw [← HS2.out]; unfold Rs.fndS; rw [hb]
              obtain rfl : fb = false := by rw [← HFB.out]; unfold Rs.fndB; rw [hb]; rfl
              obtain rfl : fe = 0 := by rw [← HFE.out]; unfold Rs.fndE; rw [hb]; simp
              obtain rfl : wb = false := by rw [← HWB.out, hb]; rfl
              have INV2 := Lib.hid INV.out.succ
              clear hb L3 R3 U3
              go_wp2_with fail
              go_roundw
              case rel => exact ⟨i + 1, by omega, by go_num, ⟨_, _, _, _, _, L4.out, R4.out, HSZ.out, INV2.out⟩, U4.out⟩
              case measure => simp [intOf]; omega

            | some j =>
              obtain rfl : wb = true := by rw [← HWB.out, hb]; rfl
              obtain rfl : wi = j := by rw [← HWI.out, hb]; rfl
              have hgj : s.g wi = some (r1, r2) := byI_some (s := s.pt) hb
              have hjs : wi < s.size := (R3.out.t.ok.good wi _ hgj).1
              have hj256 : wi < 256 := by have := R3.out.szs; omega
              by_cases hf : s.l.length = s.places
              · obtain rfl : s2 = s := by rw [← HS2.out]; unfold Rs.fndS; rw [hb]; exact if_pos hf
                obtain rfl : fb = false := by rw [← HFB.out]; unfold Rs.fndB; rw [decide_eq_false (by simpa using hf)]; simp
                obtain rfl : fe = 4 := by rw [← HFE.out]; unfold Rs.fndE; rw [hb]; simp [hf]
                have INV2 := Lib.hid INV.out.succ
                clear hb hgj hf L3 R3 U3
                go_wp2_with fail
                go_roundw
                case rel => exact ⟨i + 1, by omega, by go_num, ⟨_, _, _, _, _, L4.out, R4.out, HSZ.out, INV2.out⟩, U4.out⟩
                case measure => simp [intOf]; omega

              · have E2 : s2 = ⟨s.size, s.places, Go.Proofs.Ytmbkjnjfipafmaa.setG s.g wi none, s.l ++ [(wi : Int)]⟩ := by rw [← HS2.out]; unfold Rs.fndS; rw [hb]; exact if_neg hf
                subst E2
                obtain rfl : fb = true := by rw [← HFB.out]; unfold Rs.fndB; rw [hb]; simp [hf]
                obtain rfl : fe = 0 := by rw [← HFE.out]; unfold Rs.fndE; rw [if_neg (fun hh => hf hh.2)]
                have INV2 := Lib.hid (inv_fnd R3.out.ok INV.out (i := wi) (by rw [hgj]; rfl))
                obtain ⟨-, hi2, hi3, hrb⟩ := INV.out wi hj256
                obtain ⟨q, hq⟩ : ∃ q, f wi = q := ⟨_, rfl⟩
                have hlk := L4.out.c2.look wi hj256
                obtain ⟨w5, hput, k5, u5⟩ := L4.out.c2.put wi hj256 (by omega)
                rw [hq] at hlk hput hi3
                have HLK := Lib.hid hlk; have HPUT := Lib.hid hput
                have L5 := Lib.hid (L4.out.w2 SP.out u5 k5)
                have R5 := Lib.hid (R4.out.updA u5 (fun y hy => by simp; rintro rfl; exact SP.out.a2 hy))
                have U5 := Lib.hid (U4.out.fresh1 u5 MS.out.2.1)
                have hq200 : q ≤ 200 := by omega
                have hl64 : s.l.length ≤ 1000 := by have := R3.out.szs; omega
                have HL64 := Lib.hid hl64
                clear hlk hput k5 u5 hi2 hi3 hrb hb hgj hf hl64 L3 R3 U3 L4 R4 U4
                have ul : Upd [] w5 (w5.alloc (.cells #[.int .i64 wi] 3)) := (Upd.refl _ _).alloc _
                obtain ⟨v6, w6, g6, hap, o6, u6, hg6, hgg⟩ := (L5.out.upd0 ul).ord.app (wi : Int) (new_of w5 (.cells #[.int .i64 wi] 3)) (Nat.le_trans U5.out.size ul.size) HL64.out
                obtain ⟨va6, vc6, rfl, -, -⟩ := o6.ints.form
                have hle6 : (s.l ++ [(wi : Int)]).length = s.l.length + 1 := by simp
                rw [hle6] at o6 hap
                have HAP := Lib.hid hap
                have L6 := Lib.hid ((L5.out.upd0 ul).ordW u6 hgg o6)
                have R6 := Lib.hid ((R5.out.upd0 ul).updA u6 (fun y hy => by
                  simp
                  rintro rfl
                  rcases hgg with hgg | ⟨cur, hgg⟩
                  · have := (R5.out.upd0 ul).lts _ hy; omega
                  · exact absurd hy ((R5.out.upd0 ul).parts.offAll hgg (by decide) (by decide) (by decide) (by decide))))
                have U6 := Lib.hid ((U5.out.trans ul).fresh1 u6 hg6)
                clear hap o6 u6 hg6 hgg ul hle6
                go_wp2_with (first | (at_lookup; refine wpList_lookG (by rfl) _ _ 26 false rfl _ _ _ rfl rfl HLK.out ?_) | (at_mapUpdate; refine wpList_upd rfl _ _ _ 26 rfl _ _ _ rfl rfl rfl HPUT.out ?_) | (at_builtin; refine wpList_appR rfl _ _ 27 rfl _ _ _ rfl rfl HAP.out ?_))
                go_roundw
                case rel => exact ⟨i + 1, by omega, by go_num, ⟨⟨s.size, s.places, Go.Proofs.Ytmbkjnjfipafmaa.setG s.g wi none, s.l ++ [(wi : Int)]⟩, _, _, _, _, L6.out, R6.out, HSZ.out, INV2.out⟩, U6.out⟩
                case measure => simp [intOf]; omega
          · as_aux_lemma =>
            have hkk : Int.tmod (kd : Int) 6 = 3 := by rw [Int.tmod_eq_emod_of_nonneg (by omega)]; omega
            clear h6
            have c0 : wc.cell? ⟨kb, 0, none⟩ = some (.pointer (some ⟨B.b, 0, none⟩)) := cell_of LC.out.blk 0
            have y0 : wc.cell? ⟨Y, 0, none⟩ = some (.int .i64 r1) := cell_of HY.out 0
            have y1 : wc.cell? ⟨Y, 1, none⟩ = some (.int .u32 r2) := cell_of HY.out 1
            have KEEP := Lib.hid (show ∀ w', Upd [] wc w' → w'.cell? ⟨kb, 0, none⟩ = some (.pointer (some ⟨B.b, 0, none⟩)) ∧ w'.cell? ⟨Y, 0, none⟩ = some (.int .i64 r1) ∧ w'.cell? ⟨Y, 1, none⟩ = some (.int .u32 r2) from fun w' u => by
              have b1 := u.keep HY.out (by simp)
              exact ⟨cell_of (LC.out.upd0 u).blk 0, cell_of b1 0, cell_of b1 1⟩)
            have hrw := rfwatches (RC.out.upd0 ((Upd.refl _ _).drew)) (r1, r2) HR.out.wf
            obtain ⟨wi, hwi⟩ : ∃ x, (s.byI (r1, r2)).getD 0 = x := ⟨_, rfl⟩
            obtain ⟨wb, hwb⟩ : ∃ x, (s.byI (r1, r2)).isSome = x := ⟨_, rfl⟩
            rw [hwi, hwb] at hrw
            have HRW := Lib.hid hrw; have HWI := Lib.hid hwi; have HWB := Lib.hid hwb
            clear hrw hwi hwb
            go_wp2_with fail
            go_region_held3 (fun w' => w'.cell? ⟨kb, 0, none⟩ = some (.pointer (some ⟨B.b, 0, none⟩)) ∧ w'.cell? ⟨Y, 0, none⟩ = some (.int .i64 r1) ∧ w'.cell? ⟨Y, 1, none⟩ = some (.int .u32 r2)) (first | go_keep | exact ⟨c0, y0, y1⟩ | exact KK) (first | (go_at_call 14; refine HRW.out.mono ?_; rintro e w3 ⟨rfl, u3⟩; have u4 : Upd [] wc w3 := ((Upd.refl _ _).drew).trans u3; have KK := KEEP.out _ u4))
            have L3 := Lib.hid (LC.out.upd0 u4); have R3 := Lib.hid (RC.out.upd0 u4); have U3 := Lib.hid (UC.out.trans u4); have HY3 := Lib.hid (u4.keep HY.out (by simp))
            clear KK KEEP u3 u4 c0 y0 y1 HRW HY LC RC UC
            have c0 : w3.cell? ⟨kb, 0, none⟩ = some (.pointer (some ⟨B.b, 0, none⟩)) := cell_of L3.out.blk 0
            have y0 : w3.cell? ⟨Y, 0, none⟩ = some (.int .i64 r1) := cell_of HY3.out 0
            have y1 : w3.cell? ⟨Y, 1, none⟩ = some (.int .u32 r2) := cell_of HY3.out 1
            have KEEP := Lib.hid (show ∀ w', Upd B.S w3 w' → w'.cell? ⟨kb, 0, none⟩ = some (.pointer (some ⟨B.b, 0, none⟩)) ∧ w'.cell? ⟨Y, 0, none⟩ = some (.int .i64 r1) ∧ w'.cell? ⟨Y, 1, none⟩ = some (.int .u32 r2) from fun w' u => by
              have b1 := u.keep HY3.out (R3.out.notIn HY3.out (by decide))
              exact ⟨cell_of (L3.out.rf R3.out SP.out u).blk 0, cell_of b1 0, cell_of b1 1⟩)
            have hrg := rffound (R3.out.upd0 ((Upd.refl _ _).drew)) (r1, r2) HR.out.wf
            obtain ⟨fb, hfb⟩ : ∃ x, s.fndB (r1, r2) = x := ⟨_, rfl⟩
            obtain ⟨fe, hfe⟩ : ∃ x, s.fndE (r1, r2) = x := ⟨_, rfl⟩
            obtain ⟨s2, hs2⟩ : ∃ s2, s.fndS (r1, r2) = s2 := ⟨_, rfl⟩
            rw [hfb, hfe, hs2] at hrg
            have HFB := Lib.hid hfb; have HFE := Lib.hid hfe; have HS2 := Lib.hid hs2; have HRG := Lib.hid hrg
            clear hfb hfe hs2 hrg
            go_wp2_with fail
            go_region_held3 (fun w' => w'.cell? ⟨kb, 0, none⟩ = some (.pointer (some ⟨B.b, 0, none⟩)) ∧ w'.cell? ⟨Y, 0, none⟩ = some (.int .i64 r1) ∧ w'.cell? ⟨Y, 1, none⟩ = some (.int .u32 r2)) (first | go_keep | exact ⟨c0, y0, y1⟩ | exact KK) (first | (go_at_call 15; refine HRG.out.mono ?_; rintro e w4 ⟨rfl, rf4, u3⟩; have u4 : Upd B.S w3 w4 := ((Upd.refl _ _).drew).trans u3; have KK := KEEP.out _ u4))
            have L4 := Lib.hid (L3.out.rf R3.out SP.out u4)
            have R4 := Lib.hid rf4; have U4 := Lib.hid (U3.out.sinceS u4 SC.out.2.2)
            clear KK KEEP u3 u4 rf4 c0 y0 y1 HRG HY3
            cases hb : s.byI (r1, r2) with
            | none =>
              obtain rfl : s2 = s := by rw [← HS2.out]; unfold Rs.fndS; rw [hb]
              obtain rfl : fb = false := by rw [← HFB.out]; unfold Rs.fndB; rw [hb]; rfl
              obtain rfl : fe = 0 := by rw [← HFE.out]; unfold Rs.fndE; rw [hb]; simp
              obtain rfl : wb = false := by rw [← HWB.out, hb]; rfl
              have INV2 := Lib.hid INV.out.succ
              clear hb L3 R3 U3
              go_wp2_with fail
              go_roundw
              case rel => exact ⟨i + 1, by omega, by go_num, ⟨_, _, _, _, _, L4.out, R4.out, HSZ.out, INV2.out⟩, U4.out⟩
              case measure => simp [intOf]; omega

            | some j =>
              obtain rfl : wb = true := by rw [← HWB.out, hb]; rfl
              obtain rfl : wi = j := by rw [← HWI.out, hb]; rfl
              have hgj : s.g wi = some (r1, r2) := byI_some (s := s.pt) hb
              have hjs : wi < s.size := (R3.out.t.ok.good wi _ hgj).1
              have hj256 : wi < 256 := by have := R3.out.szs; omega
              by_cases hf : s.l.length = s.places
              · obtain rfl : s2 = s := by rw [← HS2.out]; unfold Rs.fndS; rw [hb]; exact if_pos hf
                obtain rfl : fb = false := by rw [← HFB.out]; unfold Rs.fndB; rw [decide_eq_false (by simpa using hf)]; simp
                obtain rfl : fe = 4 := by rw [← HFE.out]; unfold Rs.fndE; rw [hb]; simp [hf]
                have INV2 := Lib.hid INV.out.succ
                clear hb hgj hf L3 R3 U3
                go_wp2_with fail
                go_roundw
                case rel => exact ⟨i + 1, by omega, by go_num, ⟨_, _, _, _, _, L4.out, R4.out, HSZ.out, INV2.out⟩, U4.out⟩
                case measure => simp [intOf]; omega

              · have E2 : s2 = ⟨s.size, s.places, Go.Proofs.Ytmbkjnjfipafmaa.setG s.g wi none, s.l ++ [(wi : Int)]⟩ := by rw [← HS2.out]; unfold Rs.fndS; rw [hb]; exact if_neg hf
                subst E2
                obtain rfl : fb = true := by rw [← HFB.out]; unfold Rs.fndB; rw [hb]; simp [hf]
                obtain rfl : fe = 0 := by rw [← HFE.out]; unfold Rs.fndE; rw [if_neg (fun hh => hf hh.2)]
                have INV2 := Lib.hid (inv_fnd R3.out.ok INV.out (i := wi) (by rw [hgj]; rfl))
                obtain ⟨-, hi2, hi3, hrb⟩ := INV.out wi hj256
                obtain ⟨q, hq⟩ : ∃ q, f wi = q := ⟨_, rfl⟩
                have hlk := L4.out.c2.look wi hj256
                obtain ⟨w5, hput, k5, u5⟩ := L4.out.c2.put wi hj256 (by omega)
                rw [hq] at hlk hput hi3
                have HLK := Lib.hid hlk; have HPUT := Lib.hid hput
                have L5 := Lib.hid (L4.out.w2 SP.out u5 k5)
                have R5 := Lib.hid (R4.out.updA u5 (fun y hy => by simp; rintro rfl; exact SP.out.a2 hy))
                have U5 := Lib.hid (U4.out.fresh1 u5 MS.out.2.1)
                have hq200 : q ≤ 200 := by omega
                have hl64 : s.l.length ≤ 1000 := by have := R3.out.szs; omega
                have HL64 := Lib.hid hl64
                clear hlk hput k5 u5 hi2 hi3 hrb hb hgj hf hl64 L3 R3 U3 L4 R4 U4
                have ul : Upd [] w5 (w5.alloc (.cells #[.int .i64 wi] 3)) := (Upd.refl _ _).alloc _
                obtain ⟨v6, w6, g6, hap, o6, u6, hg6, hgg⟩ := (L5.out.upd0 ul).ord.app (wi : Int) (new_of w5 (.cells #[.int .i64 wi] 3)) (Nat.le_trans U5.out.size ul.size) HL64.out
                obtain ⟨va6, vc6, rfl, -, -⟩ := o6.ints.form
                have hle6 : (s.l ++ [(wi : Int)]).length = s.l.length + 1 := by simp
                rw [hle6] at o6 hap
                have HAP := Lib.hid hap
                have L6 := Lib.hid ((L5.out.upd0 ul).ordW u6 hgg o6)
                have R6 := Lib.hid ((R5.out.upd0 ul).updA u6 (fun y hy => by
                  simp
                  rintro rfl
                  rcases hgg with hgg | ⟨cur, hgg⟩
                  · have := (R5.out.upd0 ul).lts _ hy; omega
                  · exact absurd hy ((R5.out.upd0 ul).parts.offAll hgg (by decide) (by decide) (by decide) (by decide))))
                have U6 := Lib.hid ((U5.out.trans ul).fresh1 u6 hg6)
                clear hap o6 u6 hg6 hgg ul hle6
                go_wp2_with (first | (at_lookup; refine wpList_lookG (by rfl) _ _ 26 false rfl _ _ _ rfl rfl HLK.out ?_) | (at_mapUpdate; refine wpList_upd rfl _ _ _ 26 rfl _ _ _ rfl rfl rfl HPUT.out ?_) | (at_builtin; refine wpList_appR rfl _ _ 27 rfl _ _ _ rfl rfl HAP.out ?_))
                go_roundw
                case rel => exact ⟨i + 1, by omega, by go_num, ⟨⟨s.size, s.places, Go.Proofs.Ytmbkjnjfipafmaa.setG s.g wi none, s.l ++ [(wi : Int)]⟩, _, _, _, _, L6.out, R6.out, HSZ.out, INV2.out⟩, U6.out⟩
                case measure => simp [intOf]; omega
          · as_aux_lemma =>
            have hkk : Int.tmod (kd : Int) 6 = 4 := by rw [Int.tmod_eq_emod_of_nonneg (by omega)]; omega
            clear h6
            have c0 : wc.cell? ⟨kb, 0, none⟩ = some (.pointer (some ⟨B.b, 0, none⟩)) := cell_of LC.out.blk 0
            have hrg := rfpoll RC.out
            obtain ⟨px, hpx⟩ : ∃ x, s.pollX = x := ⟨_, rfl⟩
            obtain ⟨pb, hpb⟩ : ∃ x, s.pollB = x := ⟨_, rfl⟩
            rw [hpx, hpb] at hrg
            have HRG := Lib.hid hrg; have HPX := Lib.hid hpx; have HPB := Lib.hid hpb
            clear hrg hpx hpb
            go_wp2_with fail
            clear c0
            refine HRG.out.mono ?_; rintro e w3 ⟨rfl, rf3, u3⟩
            have L3 := Lib.hid (LC.out.rf RC.out SP.out u3)
            have R3 := Lib.hid rf3; have U3 := Lib.hid (UC.out.sinceS u3 SC.out.2.2)
            have HOK := Lib.hid RC.out.ok
            clear u3 rf3 HRG LC RC UC HY
            obtain ⟨ls, hl⟩ : ∃ ls, s.l = ls := ⟨_, rfl⟩
            cases ls with
            | nil =>
              obtain rfl : pb = false := by rw [← HPB.out]; unfold Rs.pollB; rw [hl]; rfl
              have E2 := Lib.hid (pollS_nil (s := s) (by rw [hl]; rfl))
              have R4 := Lib.hid (show RfAt w3 B s from by rw [← E2.out]; exact R3.out)
              have INV2 := Lib.hid INV.out.succ
              clear hl
              go_wp2_with fail
              go_roundw
              case rel => exact ⟨i + 1, by omega, by go_num, ⟨_, _, _, _, _, L3.out, R4.out, HSZ.out, INV2.out⟩, U3.out⟩
              case measure => simp [intOf]; omega

            | cons x0 l' =>
              have hx0 := HOK.out.lt x0 (by rw [hl]; simp)
              obtain ⟨j, rfl⟩ := Int.eq_ofNat_of_zero_le hx0.1
              have hj256 : j < 256 := by have := R3.out.szs; have : s.pollS.size = s.size := rfl; omega
              obtain rfl : pb = true := by rw [← HPB.out]; unfold Rs.pollB; rw [hl]; rfl
              obtain rfl : px = (j : Int) := by rw [← HPX.out]; unfold Rs.pollX; rw [hl]; rfl
              have INV2 := Lib.hid (inv_poll HOK.out INV.out hl)
              obtain ⟨-, hi2, hi3, hrb⟩ := INV.out j hj256
              obtain ⟨q, hq⟩ : ∃ q, p j = q := ⟨_, rfl⟩
              have hlk := L3.out.c3.look j hj256
              obtain ⟨w4, hput, k4, u4⟩ := L3.out.c3.put j hj256 (by omega)
              rw [hq] at hlk hput hi2
              have HLK := Lib.hid hlk; have HPUT := Lib.hid hput
              have L4 := Lib.hid (L3.out.w3 SP.out u4 k4)
              have R4 := Lib.hid (R3.out.updA u4 (fun y hy => by simp; rintro rfl; exact SP.out.a3 hy))
              have U4 := Lib.hid (U3.out.fresh1 u4 MS.out.2.2.1)
              have hq200 : q ≤ 200 := by omega
              have hlen : 1 ≤ s.l.length := by rw [hl]; simp
              have hlt0 : 0 < s.l.length := hlen
              have hl0 : ((s.l.length : Int) == 0) = false := by simp; intro hh; rw [hh] at hlt0; simp at hlt0
              obtain ⟨g, off, hae, hg, _, hcell⟩ := L4.out.ord.ints.at hlt0
              have h0 : s.l[0] = (j : Int) := by simp [hl]
              rw [h0, Nat.add_zero] at hcell
              obtain rfl := hae
              have hjj : ((j : Int) != (j : Int)) = false := by simp
              obtain ⟨t1, t2⟩ := L4.out.ord.tail1 hlen
              have T1 := Lib.hid t1; have T2 := Lib.hid t2
              clear hlk hput k4 u4 hi2 hi3 hrb hl h0 t1 t2 hx0 L3 U3 R3
              by_cases hcap : vc = 1
              · have O5 := Lib.hid (T1.out hcap)
                subst hcap
                have hln : s.l.length = 1 := by omega
                have L5 := Lib.hid (show Lo w4 kb h m1 m2 m3 m4 w.heap.size N P B.b (.slice (some ⟨g, off, none⟩) 0 0) s.pollS.l r f (Go.Proofs.Ytmbkjnjfipafmaa.upd p j (p j + 1)) c from ⟨L4.out.blk, O5.out, L4.out.c1, L4.out.c2, L4.out.c3, L4.out.c4⟩)
                clear T1 T2 O5
                go_wp2_with (first | (at_lookup; refine wpList_lookG (by rfl) _ _ 26 false rfl _ _ _ rfl rfl HLK.out ?_) | (at_mapUpdate; refine wpList_upd rfl _ _ _ 26 rfl _ _ _ rfl rfl rfl HPUT.out ?_))
                go_roundw
                case rel => exact ⟨i + 1, by omega, by go_num, ⟨s.pollS, _, _, _, _, L5.out, R4.out, HSZ.out, INV2.out⟩, U4.out⟩
                case measure => simp [intOf]; omega

              · have hcl : 1 < vc := by omega
                have O5 := Lib.hid (T2.out hcl)
                have L5 := Lib.hid (show Lo w4 kb h m1 m2 m3 m4 w.heap.size N P B.b (.slice (some ⟨g, off + 1, none⟩) (s.l.length - 1) (vc - 1)) s.pollS.l r f (Go.Proofs.Ytmbkjnjfipafmaa.upd p j (p j + 1)) c from ⟨L4.out.blk, O5.out, L4.out.c1, L4.out.c2, L4.out.c3, L4.out.c4⟩)
                clear T1 T2 O5
                go_wp2_with (first | (at_lookup; refine wpList_lookG (by rfl) _ _ 26 false rfl _ _ _ rfl rfl HLK.out ?_) | (at_mapUpdate; refine wpList_upd rfl _ _ _ 26 rfl _ _ _ rfl rfl rfl HPUT.out ?_))
                go_roundw
                case rel => exact ⟨i + 1, by omega, by go_num, ⟨s.pollS, _, _, _, _, L5.out, R4.out, HSZ.out, INV2.out⟩, U4.out⟩
                case measure => simp [intOf]; omega
          · as_aux_lemma =>
            have hkk : Int.tmod (kd : Int) 6 = 5 := by rw [Int.tmod_eq_emod_of_nonneg (by omega)]; omega
            clear h6
            have c0 : wc.cell? ⟨kb, 0, none⟩ = some (.pointer (some ⟨B.b, 0, none⟩)) := cell_of LC.out.blk 0
            have hids : id < s.size := by have := HSZ.out; omega
            have hrg := rfcancel RC.out (id : Int)
            have hE : s.canE id = 0 := by unfold Rs.canE; rw [if_pos ⟨by omega, by omega⟩]
            rw [hE, canB_eq hids, canS_rem hids] at hrg
            obtain ⟨cv, hcv⟩ : ∃ x, s.cl id = x := ⟨_, rfl⟩
            rw [hcv] at hrg
            have HRG := Lib.hid hrg; have HCV := Lib.hid hcv
            have HOK := Lib.hid RC.out.ok
            clear hrg hE hcv hids
            go_wp2_with fail
            clear c0
            refine HRG.out.mono ?_; rintro e w3 ⟨rfl, rf3, u3⟩
            have L3 := Lib.hid (LC.out.rf RC.out SP.out u3)
            have R3 := Lib.hid rf3; have U3 := Lib.hid (UC.out.sinceS u3 SC.out.2.2)
            have hlS : s.l.length ≤ 64 := by have := RC.out.szs; omega
            clear u3 rf3 HRG LC RC UC HY
            by_cases hz : cv = 0
            · subst hz
              have E2 := Lib.hid (show s.remS id = s from by
                obtain ⟨h1, h2⟩ := cl_zero HCV.out
                unfold Rs.remS
                rw [List.erase_of_not_mem h2, psetG_none h1])
              have R4 := Lib.hid (show RfAt w3 B s from by rw [← E2.out]; exact R3.out)
              have INV2 := Lib.hid INV.out.succ
              rw [show decide ((0 : Nat) ≠ 0) = false from rfl]
              clear R3
              go_wp2_with fail
              go_loop [12, 24] (fun y x => y = .slice va s.l.length vc ∧ x = .int .i64 0) (fun _ _ => 0)
              case atStart => exact ⟨rfl, rfl⟩
              case round =>
                obtain ⟨rfl, rfl⟩ := hrel
                go_wp2_with fail
                all_goals
                  go_roundw
                  case rel => exact ⟨i + 1, by omega, by go_num, ⟨_, _, _, _, _, L3.out, R4.out, HSZ.out, INV2.out⟩, U3.out⟩
                  case measure => simp [intOf]; omega

            · have hc1 : s.cl id = 1 := (cl_le (s := s) id).resolve_left (fun h => hz (by rw [← HCV.out]; exact h))
              rw [decide_eq_true hz]
              have INV2 := Lib.hid (inv_can HOK.out INV.out hc1)
              obtain ⟨hi1, hi2, hi3, hrb⟩ := INV.out id hi256
              obtain ⟨q, hq⟩ : ∃ q, c id = q := ⟨_, rfl⟩
              have hlk := L3.out.c4.look id hi256
              obtain ⟨w5, hput, k5, u5⟩ := L3.out.c4.put id hi256 (by omega)
              rw [hq] at hlk hput hi1
              have HLK := Lib.hid hlk; have HPUT := Lib.hid hput
              have L5 := Lib.hid (L3.out.w4 SP.out u5 k5)
              have R5 := Lib.hid (R3.out.updA u5 (fun y hy => by simp; rintro rfl; exact SP.out.a4 hy))
              have U5 := Lib.hid (U3.out.fresh1 u5 MS.out.2.2.2)
              have hq200 : q ≤ 200 := by omega
              clear hlk hput k5 u5 hi1 hi2 hi3 hrb hz hc1 L3 R3 U3
              go_wp2_with (first | (at_lookup; refine wpList_lookG (by rfl) _ _ 26 false rfl _ _ _ rfl rfl HLK.out ?_) | (at_mapUpdate; refine wpList_upd rfl _ _ _ 26 rfl _ _ _ rfl rfl rfl HPUT.out ?_))
              go_loop [12, 24] (fun yv x => yv = .slice va s.l.length vc ∧ ∃ n : Nat, n ≤ s.l.length ∧ x = .int .i64 n ∧ ∀ (j : Nat) (y : Int), j < n → s.l[j]? = some y → y ≠ (id : Int)) (fun _ x => s.l.length - (intOf x).toNat)
              case atStart => exact ⟨rfl, 0, by omega, rfl, fun j y hj => by omega⟩
              case round =>
                obtain ⟨rfl, n, hn, rfl, hno⟩ := hrel
                have HNO := Lib.hid hno; clear hno
                by_cases hn2 : n < s.l.length
                · obtain ⟨g, off, hae, hg, _, hcell⟩ := L5.out.ord.ints.at hn2
                  obtain rfl := hae
                  by_cases he : s.l[n] = (id : Int)
                  · have hb : (s.l[n] == (id : Int)) = true := by simp [he]
                    have HFJ := Lib.hid (erase_idx (fnd_some hn2 he HNO.out))
                    have HT1 := Lib.hid ((show SlAt _ _ _ _ _ _ from L5.out.ord.ints).take1 (show n ≤ s.l.length by omega))
                    have HI := Lib.hid L5.out.ord.ints
                    obtain ⟨i0, hii, hz0, hz1, hz2⟩ := info_parts info3
                    have hj0 : (0 : Int) ≤ (n : Int) := by omega
                    have hw2 : ((n : Int) + 1).toNat = n + 1 := by omega
                    have hw3 : (0 : Int) ≤ (n : Int) + 1 := by omega
                    have hw4 : (n : Int) + 1 ≤ (s.l.length : Int) := by omega
                    have hw5 : (n : Int) ≤ (vc : Int) := by omega
                    have hw6 : (n : Int) ≤ (n : Int) + 1 := by omega
                    have hw1 : IntKind.i64.wrap ((n : Int) + 1) = (n : Int) + 1 := IntWalk.i64_in _ (by omega)
                    clear he
                    by_cases hcap : vc = n + 1
                    · obtain rfl := hcap
                      have hln : s.l.length = n + 1 := by omega
                      have HLN := Lib.hid hln; clear hln
                      have HT2 := Lib.hid (sl_empty w5 3 (some ⟨g, off, none⟩))
                      go_wp2_with fail
                      go_region_law (first | ((refine step_append_any _ rfl (.tmp 100) (.tmp 103) 27 rfl w5.heap.size 3 i0 (.int .i64 0) 1 8 Try.underlying27 hii hz0 hz1 hz2 rfl (by decide) _ 0 [] (by first | (simp [Act.eval]; done) | simp [Act.eval, Act.put]) (owns_lit0 w5.drew 3 1) _ n _ (by first | (simp [Act.eval]; done) | simp [Act.eval, Act.put]) (HT1.out.upd (((Upd.refl [] w5).drew).alloc _) (by simp)) (by unfold maxLen; omega) (by omega) (by simp) ?_); (intro g3 c3 w6 hown3 hgrow3); (have u3 : Upd [] w5 w6 := (((Upd.refl [] w5).drew).alloc _).grown hgrow3 (fun g hg => by simp [Value.ownBlock] at hg; omega)); (have OWN3 := Lib.hid hown3); (clear hgrow3 hown3)) | ((refine step_append_any _ rfl (.tmp 104) (.tmp 108) 27 rfl w5.heap.size 3 i0 (.int .i64 0) 1 8 Try.underlying27 hii hz0 hz1 hz2 rfl (by decide) _ (0 + n) _ (by first | (simp [Act.eval]; done) | simp [Act.eval, Act.put]) OWN3.out _ 0 _ (by first | (simp [Act.eval]; done) | simp [Act.eval, Act.put]) (HT2.out.upd u3 (by simp)) (by unfold maxLen; omega) (by omega) (by exact u3.size) ?_); (intro g4 c4 w7 hown4 hgrow4); (have u4 : Upd [] w5 w7 := u3.grown hgrow4 (fun g hg => (OWN3.out.lt g hg).1)); (have OWN4 := Lib.hid hown4); (clear hgrow4 hown4)))
                      all_goals
                        have hlen : (s.l.eraseIdx n).length = n := by rw [List.length_eraseIdx_of_lt hn2]; have := HLN.out; omega
                        have hmap : (s.l.eraseIdx n).map (Value.int .i64) = (s.l.map (Value.int .i64)).take n := by
                          rw [List.eraseIdx_eq_take_drop_succ, List.drop_eq_nil_of_le (by have := HLN.out; omega)]; simp [List.map_take]
                        have ho4 : OrdAt w7 w.heap.size (.slice g4 (n) c4) (s.remS id).l := by
                          show OrdAt _ _ _ (s.l.erase (id : Int))
                          rw [HFJ.out]
                          exact OrdAt.ofOwn (base := w5.heap.size) (by rw [hmap]; simpa using OWN4.out) hlen U5.out.size
                        have L7 := Lib.hid (show Lo w7 kb h m1 m2 m3 m4 w.heap.size N P B.b (.slice g4 (n) c4) (s.remS id).l r f p (Go.Proofs.Ytmbkjnjfipafmaa.upd c id (c id + 1)) from ⟨u4.keep L5.out.blk (by simp), ho4, L5.out.c1.upd u4 (by simp), L5.out.c2.upd u4 (by simp), L5.out.c3.upd u4 (by simp), L5.out.c4.upd u4 (by simp)⟩)
                        have R7 := Lib.hid (R5.out.upd0 u4); have U7 := Lib.hid (U5.out.trans u4)
                        clear hlen hmap ho4 u3 u4
                        go_wp2_with fail
                        go_roundw
                        case rel => exact ⟨i + 1, by omega, by go_num, ⟨s.remS id, _, _, _, _, L7.out, R7.out, HSZ.out, INV2.out⟩, U7.out⟩
                        case measure => simp [intOf]; omega

                    · have hcl : n + 1 < vc := by omega
                      have hcn : ¬ vc = n + 1 := by omega
                      have ht2 := SlAt.rdrop1 HI.out (i := n + 1) (by omega) hcl
                      have HT2 := Lib.hid ht2; clear ht2
                      go_wp2_with fail
                      go_region_law (first | ((refine step_append_any _ rfl (.tmp 100) (.tmp 103) 27 rfl w5.heap.size 3 i0 (.int .i64 0) 1 8 Try.underlying27 hii hz0 hz1 hz2 rfl (by decide) _ 0 [] (by first | (simp [Act.eval]; done) | simp [Act.eval, Act.put]) (owns_lit0 w5.drew 3 1) _ n _ (by first | (simp [Act.eval]; done) | simp [Act.eval, Act.put]) (HT1.out.upd (((Upd.refl [] w5).drew).alloc _) (by simp)) (by unfold maxLen; omega) (by omega) (by simp) ?_); (intro g3 c3 w6 hown3 hgrow3); (have u3 : Upd [] w5 w6 := (((Upd.refl [] w5).drew).alloc _).grown hgrow3 (fun g hg => by simp [Value.ownBlock] at hg; omega)); (have OWN3 := Lib.hid hown3); (clear hgrow3 hown3)) | ((refine step_append_any _ rfl (.tmp 104) (.tmp 108) 27 rfl w5.heap.size 3 i0 (.int .i64 0) 1 8 Try.underlying27 hii hz0 hz1 hz2 rfl (by decide) _ (0 + n) _ (by first | (simp [Act.eval]; done) | simp [Act.eval, Act.put]) OWN3.out _ (s.l.length - (n + 1)) _ (by first | (simp [Act.eval]; done) | simp [Act.eval, Act.put]) (HT2.out.upd u3 (by simp)) (by unfold maxLen; omega) (by omega) (by exact u3.size) ?_); (intro g4 c4 w7 hown4 hgrow4); (have u4 : Upd [] w5 w7 := u3.grown hgrow4 (fun g hg => (OWN3.out.lt g hg).1)); (have OWN4 := Lib.hid hown4); (clear hgrow4 hown4)))
                      all_goals
                        have hlen : (s.l.eraseIdx n).length = n + (s.l.length - (n + 1)) := by rw [List.length_eraseIdx_of_lt hn2]; omega
                        have hmap : (s.l.eraseIdx n).map (Value.int .i64) = (s.l.map (Value.int .i64)).take n ++ ((s.l.map (Value.int .i64)).drop (n + 1)) := by
                          rw [List.eraseIdx_eq_take_drop_succ]; simp [List.map_take, List.map_drop]
                        have ho4 : OrdAt w7 w.heap.size (.slice g4 (n + (s.l.length - (n + 1))) c4) (s.remS id).l := by
                          show OrdAt _ _ _ (s.l.erase (id : Int))
                          rw [HFJ.out]
                          exact OrdAt.ofOwn (base := w5.heap.size) (by rw [hmap]; simpa using OWN4.out) hlen U5.out.size
                        have L7 := Lib.hid (show Lo w7 kb h m1 m2 m3 m4 w.heap.size N P B.b (.slice g4 (n + (s.l.length - (n + 1))) c4) (s.remS id).l r f p (Go.Proofs.Ytmbkjnjfipafmaa.upd c id (c id + 1)) from ⟨u4.keep L5.out.blk (by simp), ho4, L5.out.c1.upd u4 (by simp), L5.out.c2.upd u4 (by simp), L5.out.c3.upd u4 (by simp), L5.out.c4.upd u4 (by simp)⟩)
                        have R7 := Lib.hid (R5.out.upd0 u4); have U7 := Lib.hid (U5.out.trans u4)
                        clear hlen hmap ho4 u3 u4
                        go_wp2_with fail
                        go_roundw
                        case rel => exact ⟨i + 1, by omega, by go_num, ⟨s.remS id, _, _, _, _, L7.out, R7.out, HSZ.out, INV2.out⟩, U7.out⟩
                        case measure => simp [intOf]; omega

                  · have hb : (s.l[n] == (id : Int)) = false := by simpa using he
                    have HE := Lib.hid he; clear he
                    have hg2 : s.l[n]? = some s.l[n] := List.getElem?_eq_getElem hn2
                    have HG := Lib.hid hg2; clear hg2
                    go_wp2_with fail
                    go_round
                    case rel =>
                      refine ⟨rfl, n + 1, by omega, by go_num, fun j y hj hy => ?_⟩
                      by_cases e : j = n
                      · subst e; rw [HG.out] at hy; cases hy; exact HE.out
                      · exact HNO.out j y (by omega) hy
                    case measure => simp [intOf]; omega
                · have hni : (id : Int) ∉ s.l := fun hm => by
                    obtain ⟨j, hj, e⟩ := List.getElem_of_mem hm
                    exact HNO.out j _ (by omega) (List.getElem?_eq_getElem hj) e
                  have L6 := Lib.hid (show Lo w5 kb h m1 m2 m3 m4 w.heap.size N P B.b (.slice va s.l.length vc) (s.remS id).l r f p (Go.Proofs.Ytmbkjnjfipafmaa.upd c id (c id + 1)) from by
                    have : (s.remS id).l = s.l := List.erase_of_not_mem hni
                    rw [this]; exact L5.out)
                  clear hni
                  go_wp2_with fail
                  go_roundw
                  case rel => exact ⟨i + 1, by omega, by go_num, ⟨s.remS id, _, _, _, _, L6.out, R5.out, HSZ.out, INV2.out⟩, U5.out⟩
                  case measure => simp [intOf]; omega
      · have INVE := Lib.hid (show ∀ id : Nat, id < 256 → r id = p id + c id + s.cl id ∧ p id ≤ f id ∧ f id ≤ r id ∧ r id ≤ 200 from fun id hid => by
          obtain ⟨h1, h2, h3, h4⟩ := hinv id hid
          exact ⟨h1, by omega, by omega, by omega⟩)
        clear hlo hr hsz hinv hup
        go_wp2_with fail
        go_loop [25] (fun x => ∃ j : Nat, j ≤ N ∧ x = .int .i64 j) (fun x => N - (intOf x).toNat)
        case atStart => exact ⟨0, by omega, rfl⟩
        case round =>
          obtain ⟨j, hj, rfl⟩ := hrel
          by_cases hjN : j < N
          · have k1 : wr.cell? ⟨kb, 1, none⟩ = some (.int .i64 N) := cell_of LO.out.blk 1
            have q1 := LO.out.c1.look j (by omega)
            have q2 := LO.out.c2.look j (by omega)
            have q3 := LO.out.c3.look j (by omega)
            have q4 := LO.out.c4.look j (by omega)
            obtain ⟨e1, e2, e3, e4⟩ := INVE.out j (by omega)
            have e5 := cl_le (s := s) j
            generalize r j = n1 at *
            generalize f j = n2 at *
            generalize p j = n3 at *
            generalize c j = n4 at *
            have Q1 := Lib.hid q1; have Q2 := Lib.hid q2; have Q3 := Lib.hid q3; have Q4 := Lib.hid q4
            have b1 : (n1 : Int) - (n3 : Int) - (n4 : Int) ≤ 1 := by omega
            have b2 : 0 ≤ (n1 : Int) - (n3 : Int) - (n4 : Int) := by omega
            have b3 : (n3 : Int) ≤ (n2 : Int) := by omega
            have b4 : (n2 : Int) ≤ (n1 : Int) := by omega
            have d1 : ¬ (n2 : Int) < (n3 : Int) := by omega
            have d2 : ¬ (n1 : Int) < (n2 : Int) := by omega
            have d3 : ¬ (n1 : Int) - (n3 : Int) - (n4 : Int) < 0 := by omega
            have d4 : ¬ (1 : Int) < (n1 : Int) - (n3 : Int) - (n4 : Int) := by omega
            have d5 : ¬ n2 < n3 := by omega
            have d6 : ¬ n1 < n2 := by omega
            clear q1 q2 q3 q4 e1 e5
            go_wp2_with (at_lookup; (first | refine wpList_lookG (by rfl) _ _ 26 false rfl _ _ _ rfl rfl Q1.out ?_ | refine wpList_lookG (by rfl) _ _ 26 false rfl _ _ _ rfl rfl Q2.out ?_ | refine wpList_lookG (by rfl) _ _ 26 false rfl _ _ _ rfl rfl Q3.out ?_ | refine wpList_lookG (by rfl) _ _ 26 false rfl _ _ _ rfl rfl Q4.out ?_))
            go_round
            case rel => exact ⟨j + 1, by omega, by go_num⟩
            case measure => simp [intOf]; omega
          · have k1 : wr.cell? ⟨kb, 1, none⟩ = some (.int .i64 N) := cell_of LO.out.blk 1
            have k0 : wr.cell? ⟨kb, 0, none⟩ = some (.pointer (some ⟨B.b, 0, none⟩)) := cell_of LO.out.blk 0
            go_wp2_with fail
            refine (rfwaiting RR.out).mono ?_; rintro e w6 ⟨v6, rfl, ⟨hsl, -⟩, u6⟩
            have hI : Ints w6 v6 s.l := hsl
            obtain ⟨wa, wcap, rfl, hwc1, hwc2⟩ := hI.form
            have U6 := Lib.hid (UP.out.trans u6)
            have hbb : ((s.l.length : Int) == (s.l.length : Int)) = true := by simp
            clear hI hsl u6 k0 k1
            go_wp2_with fail
            refine (works_ok _).mono ?_; rintro e w7 ⟨rfl, u7⟩
            go_wp2_with fail
            go_ret
            exact ⟨rfl, U6.out.trans u7⟩
  · have hg : (200 : Int) < (css.length : Int) := by omega
    clear h200
    go_enter Try.func3, Try.ntmps3
    go_wp2_with fail
    refine (works_ok _).mono ?_; rintro e w4 ⟨rfl, u4⟩
    go_wp2_with fail
    go_ret
    exact ⟨rfl, u4⟩

theorem once_fr (w : World) (a : Int) (wa : (Lit.int .u8 a).wf = true) (b : Int) (wb : (Lit.int .u8 b).wf = true) (v : Value) (css : List (List Value)) (h : Recs w v 3 css ∧ ∀ cs ∈ css, IsTurn cs) :
    Calls Try.prog 3 #[.int .u8 a, .int .u8 b, v] w fun e w' => e = .returned (.bool true) ∧ Upd [] w w' := by
  have h1 := wf_u8 wa
  have h2 := wf_u8 wb
  obtain ⟨x, rfl⟩ := Int.eq_ofNat_of_zero_le h1.1
  obtain ⟨y, rfl⟩ := Int.eq_ofNat_of_zero_le h2.1
  exact once_ok x y (by omega) (by omega) v css w h.1 h.2

end Go.Proofs.Ytmbkjnjfipafmaa
