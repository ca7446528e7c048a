/-
  One turn of a known reference queue: cancel. Conditions: none.
-/
import Derived.Test.YtmbkjnjfipafmaaRfTurn
import Derived.Deep.DeepCutAuto
import Derived.Deep.CutBlock
namespace Go.Proofs.Ytmbkjnjfipafmaa
open Go.RowKit Go.Maps

set_option maxRecDepth 100000 in
set_option maxHeartbeats 4000000 in
theorem turn_can {w : World} {kb : Nat} {B : RfB} {h : Nat} {v : Value} {s : Rs} (k : KnAt w kb B h v s) (kd a o : Nat) (hk : kd < 256) (ha : a < 256) (ho : o < 256) (hX : kd % 6 = 5) :
    Calls Try.prog 19 #[.pointer (some ⟨kb, 0, none⟩), .agg #[.int .u8 (kd : Int), .int .u8 (a : Int), .int .u8 (o : Int)]] w (TurnPost kb B h (s.canS ((a % s.size : Nat) : Int)) w) := by
  have hs := k.rf.szs
  obtain ⟨i, hi⟩ : ∃ i, a % s.size = i := ⟨_, rfl⟩
  have hil : i < s.size := by rw [← hi]; exact Nat.mod_lt _ (by omega)
  have hmod : Int.tmod (a : Int) (s.size : Int) = (i : Int) := by rw [Int.tmod_eq_emod_of_nonneg (by omega), ← hi]; rfl
  have hN0 : ((s.size : Int) == 0) = false := by simp; omega
  have hNz : (s.size : Int) ≠ 0 := by omega
  have hNz1 : ¬ s.size = 0 := by omega
  have hkk : Int.tmod (kd : Int) 6 = 5 := by rw [Int.tmod_eq_emod_of_nonneg (by omega)]; omega
  have hN2 : s.size ≤ 256 := hs.2.1
  have hP2 : s.places ≤ 64 := hs.2.2.2.1
  have hLl : s.l.length ≤ s.places := hs.2.2.2.2
  have hi256 : i < 256 := by omega
  try rw [hi]
  have KA := Lib.hid k.ka; have HA := Lib.hid k.ha; have KH := Lib.hid k.l.kh
  have HOK := Lib.hid k.rf.ok
  have HPK := Lib.hid k.rf.t.ok
  have u1 : Upd [] w (w.alloc (.cells #[.int .u8 (kd : Int), .int .u8 (a : Int), .int .u8 (o : Int)] 29)) := (Upd.refl _ _).alloc _
  have hXb := new_of w (.cells #[.int .u8 (kd : Int), .int .u8 (a : Int), .int .u8 (o : Int)] 29)
  have K := Lib.hid (k.upd0 u1)
  have HU := Lib.hid u1
  clear u1 k hi hX hs
  go_enter Try.func19, Try.ntmps19
  go_wp2_with fail
  generalize w.alloc (.cells #[.int .u8 (kd : Int), .int .u8 (a : Int), .int .u8 (o : Int)] 29) = V at *
  generalize w.heap.size = X at *
  have x1 : V.cell? ⟨X, 1, none⟩ = some (.int .u8 (a : Int)) := cell_of hXb 1
  have x2 : V.cell? ⟨X, 2, none⟩ = some (.int .u8 (o : Int)) := cell_of hXb 2
  have k1 : V.cell? ⟨kb, 1, none⟩ = some (.int .i64 s.size) := K.out.l.cells.2.1
  have hkl := K.out.l.lt
  have hXl := lt_of_block hXb
  have hXn : ¬ (V.heap.size = X) := by omega
  have hXn2 : ¬ (X = V.heap.size) := by omega
  have hkn : ¬ (V.heap.size = kb) := by omega
  have hkn2 : ¬ (kb = V.heap.size) := by omega
  have HX := Lib.hid hXb
  clear hXb
  have zR := zeroR
  have hwa : IntKind.i64.wrap ((a : Nat) : Int) = (a : Int) := IntWalk.i64_in _ (by omega)
  go_cut [5, 6] (fun x5 x6 wx => ∃ Y, x5 = .int .i64 i ∧ x6 = .pointer (some ⟨Y, 0, none⟩) ∧ wx.heap[Y]? = some (.cells #[.int .i64 (objR o).1, .int .u32 (objR o).2] 36 (0, 0)) ∧ Upd [] V wx)
  case first =>
    go_region_held3 (fun w' => w'.cell? ⟨X, 1, none⟩ = some (.int .u8 (a : Int)) ∧ w'.cell? ⟨X, 2, none⟩ = some (.int .u8 (o : Int)) ∧ w'.cell? ⟨kb, 1, none⟩ = some (.int .i64 s.size)) (first | go_keep | exact ⟨x1, x2, k1⟩) (first | (go_at_call 12; refine (object_at o _ ho).mono ?_; rintro e w3 ⟨rfl, u3⟩; have u4 : Upd [] V w3 := (((Upd.refl _ _).alloc (.cells #[.int .i64 0, .int .u32 0] 36)).drew).trans u3; have hY := u3.keep (drew_of (new_of V (.cells #[.int .i64 0, .int .u32 0] 36))) (by simp); have hX3 := u4.keep HX.out (by simp); have hK3 := u4.keep K.out.l.blk (by simp); have x1 := cell_of hX3 1; have x2 := cell_of hX3 2; have k1 := cell_of hK3 1; have y0 := cell_of hY 0; have y1 := cell_of hY 1; have yf0 : w3.frozen? ⟨V.heap.size, 0, none⟩ = false := free_of hY 0; have yf1 : w3.frozen? ⟨V.heap.size, 1, none⟩ = false := free_of hY 1) | (go_at_call 12; refine (object_at o _ ho).mono ?_; rintro e w3 ⟨rfl, u3⟩; have u4 : Upd [] V w3 := ((Upd.refl _ _).drew).trans u3; have hX3 := u4.keep HX.out (by simp); have hK3 := u4.keep K.out.l.blk (by simp); have x1 := cell_of hX3 1; have x2 := cell_of hX3 2; have k1 := cell_of hK3 1))
    all_goals
      go_wp2_with fail
      go_meet
      case rel =>
        first
        | exact ⟨_, rfl, rfl, new_of _ _, u4.alloc _⟩
        | exact ⟨_, rfl, rfl, set_of (set_of hY 0 _) 1 _, (u4.setNew (Nat.le_refl _) _).setNew (Nat.le_refl _) _⟩
  case rest =>
    obtain ⟨Y, rfl, rfl, hY, uc⟩ := hcut
    clear hXn hXn2 hkn hkn2 hXl hkl x1 x2 k1 hmod hN0 hNz hNz1 zR hwa
    have HY := Lib.hid hY
    have UC := Lib.hid (HU.out.trans uc)
    have KC := Lib.hid (K.out.upd0 uc)
    have x0 : (_ : World).cell? ⟨X, 0, none⟩ = some (.int .u8 (kd : Int)) := cell_of (uc.keep HX.out (by simp)) 0
    have k3 : (_ : World).cell? ⟨kb, 3, none⟩ = some (.map (some h)) := KC.out.l.cells.2.2.2.1
    have k0 : (_ : World).cell? ⟨kb, 0, none⟩ = some (.pointer (some ⟨B.b, 0, none⟩)) := KC.out.l.cells.1
    have kl := KC.out.l.lt
    have xl := lt_of_block (uc.keep HX.out (by simp))
    have Q := KC.out.l.has.look i hi256
    obtain ⟨⟨o1, o2⟩, hold⟩ : ∃ x : Rf, (s.g i).getD (0, 0) = x := ⟨_, rfl⟩
    obtain ⟨z, hz⟩ : ∃ z, (s.g i).isSome = z := ⟨_, rfl⟩
    rw [hold, hz] at Q
    unfold refV at Q
    dsimp only at Q
    have QQ := Lib.hid Q; have HZ := Lib.hid hz
    have HR := Lib.hid (objR_good o)
    generalize objR o = r at *
    obtain ⟨r1, r2⟩ := r
    dsimp only at hY HY
    have HXC := Lib.hid (uc.keep HX.out (by simp))
    have ul : Upd [] wc (wc.alloc (.cells #[.int .i64 o1, .int .u32 o2] 36)) := (Upd.refl _ _).alloc _
    have KD := Lib.hid (KC.out.upd0 ul); have UD := Lib.hid (UC.out.trans ul); have HYD := Lib.hid (ul.keep HY.out (by simp))
    have HXD := Lib.hid (ul.keep HXC.out (by simp))
    clear Q hold hY uc ul KC K HX HXC HY UC HU
    go_wp2_with (at_lookup; refine wpList_look rfl _ _ 31 rfl _ _ _ rfl rfl QQ.out ?_)
    clear x0 k0 kl k3 xl QQ
    generalize wc.alloc (.cells #[.int .i64 o1, .int .u32 o2] 36) = V2 at *
    have hrg := rfcancel KD.out.rf (i : Int)
    have hE : s.canE i = 0 := by unfold Rs.canE; rw [if_pos ⟨by omega, by omega⟩]
    have hS := canS_rem hil
    have hB := canB_eq hil
    obtain ⟨cb, hcb⟩ : ∃ x, s.canB i = x := ⟨_, rfl⟩
    rw [hE, hcb, hS] at hrg
    rw [hcb] at hB
    have HRG := Lib.hid hrg; have HS := Lib.hid hS; have HB := Lib.hid hB
    clear hrg hE hS hB hcb HYD HXD HR hz
    refine HRG.out.mono ?_; rintro e w3 ⟨rfl, rf3, u3⟩
    have L3 := Lib.hid (KD.out.l.go KD.out.rf KD.out.ka KD.out.ha u3)
    have R3 := Lib.hid rf3; have U3 := Lib.hid (UD.out.nil.trans u3)
    clear u3 rf3 HRG KD UD
    go_wp2_with fail
    refine (waits_at L3.out (i : Int)).mono ?_; rintro e w4 ⟨rfl, u4⟩
    have L4 := Lib.hid (L3.out.upd0 u4); have R4 := Lib.hid (R3.out.upd0 u4); have U4 := Lib.hid ((U3.out.trans u4.nil).mono (T := kb :: h :: B.S) (fun x hx => by simp [hx]))
    clear u4 L3 R3 U3
    have k3 : w4.cell? ⟨kb, 3, none⟩ = some (.map (some h)) := L4.out.cells.2.2.2.1
    obtain ⟨w5, hrun, hh5, u5⟩ := L4.out.has.del i hi256 0
    have HRUN := Lib.hid hrun
    have b5 := u5.keep L4.out.blk (by simpa using KH.out)
    have hw5 := L4.out.wait.has L4.out.has u5
    have R5 := Lib.hid (R4.out.updA u5 (fun y hy => by simp; rintro rfl; exact HA.out hy))
    have U5 := Lib.hid (U4.out.trans (u5.mono (T := kb :: h :: B.S) (by simp)))
    have B5 := Lib.hid b5; have W5 := Lib.hid hw5; have H5 := Lib.hid hh5
    clear hrun hh5 u5 b5 hw5 L4 R4 U4
    by_cases hm : (i : Int) ∈ s.l
    · obtain ⟨j, hj, hfj, hjl⟩ := fndI_in hm
      have hgi : s.g i = none := by cases hg : s.g i with
        | none => rfl
        | some y => exact absurd hm (HOK.out.apart i (by rw [hg]; rfl))
      obtain rfl : z = false := by rw [← HZ.out, hgi]; rfl
      obtain rfl : cb = true := by rw [HB.out]; unfold Rs.cl; rw [if_pos (.inr hm)]; rfl
      have HFJ := Lib.hid (erase_idx hfj)
      obtain ⟨va, vc, rfl, hvc1, hvc2⟩ := W5.out.form
      obtain ⟨g, off, rfl, hg, -, -⟩ := W5.out.at (show 0 < s.l.length by omega)
      have k4 : w5.cell? ⟨kb, 4, none⟩ = some (.slice (some ⟨g, off, none⟩) s.l.length vc) := cell_of B5.out 4
      have fr : w5.frozen? ⟨kb, 4, none⟩ = false := free_of B5.out 4
      have kl := lt_of_block B5.out
      have HT1 := Lib.hid ((show SlAt _ _ _ _ _ _ from W5.out).take1 (show j ≤ s.l.length by omega))
      obtain ⟨i0, hii, hz0, hz1, hz2⟩ := info_parts info3
      rw [hj]
      clear hj hfj hm hgi
      have hj0 : (0 : Int) ≤ (j : Int) := by omega
      have hw1 : IntKind.i64.wrap ((j : Int) + 1) = (j : Int) + 1 := IntWalk.i64_in _ (by omega)
      have hw2 : ((j : Int) + 1).toNat = j + 1 := by omega
      have hw3 : (0 : Int) ≤ (j : Int) + 1 := by omega
      have hw4 : (j : Int) + 1 ≤ (s.l.length : Int) := by omega
      have hw5 : (j : Int) ≤ (vc : Int) := by omega
      have hw6 : (j : Int) ≤ (j : Int) + 1 := by omega
      by_cases hcap : vc = j + 1
      · obtain rfl := hcap
        have hln : s.l.length = j + 1 := by omega
        have HLN := Lib.hid hln; clear hln
        have HT2 := Lib.hid (sl_empty w5 3 (some ⟨g, off, none⟩))
        go_wp2_with (at_delete; refine wpList_del rfl _ _ 31 3 rfl _ _ rfl rfl HRUN.out ?_)
        go_region_law (first | ((refine step_append_any _ rfl (.tmp 200) (.tmp 206) 27 rfl w5.heap.size 3 i0 (.int .i64 0) 1 8 Try.underlying27 hii hz0 hz1 hz2 rfl (by decide) _ 0 [] (by first | (simp [Act.eval]; done) | simp [Act.eval, Act.put]) (owns_lit0 w5.drew 3 1) _ j _ (by first | (simp [Act.eval]; done) | simp [Act.eval, Act.put]) (HT1.out.upd (((Upd.refl [] w5).drew).alloc _) (by simp)) (by unfold maxLen; omega) (by omega) (by simp) ?_); (intro g3 c3 w6 hown3 hgrow3); (have u3 : Upd [] w5 w6 := (((Upd.refl [] w5).drew).alloc _).grown hgrow3 (fun g hg => by simp [Value.ownBlock] at hg; omega)); (have OWN3 := Lib.hid hown3); (have hb3 := u3.keep B5.out (by simp)); (have d3 := cell_of hb3 4); (clear hgrow3 hown3 hb3)) | ((refine step_append_any _ rfl (.tmp 207) (.tmp 214) 27 rfl w5.heap.size 3 i0 (.int .i64 0) 1 8 Try.underlying27 hii hz0 hz1 hz2 rfl (by decide) _ (0 + j) _ (by first | (simp [Act.eval]; done) | simp [Act.eval, Act.put]) OWN3.out _ 0 _ (by first | (simp [Act.eval]; done) | simp [Act.eval, Act.put]) (HT2.out.upd u3 (by simp)) (by unfold maxLen; omega) (by omega) (by exact u3.size) ?_); (intro g4 c4 w7 hown4 hgrow4); (have u4 : Upd [] w5 w7 := u3.grown hgrow4 (fun g hg => (OWN3.out.lt g hg).1)); (have OWN4 := Lib.hid hown4); (have hb4 := u4.keep B5.out (by simp)); (have d4 := cell_of hb4 4); (have f4 : w7.frozen? ⟨kb, 4, none⟩ = false := free_of hb4 4); (clear hgrow4 hown4 hb4)))
        all_goals
          have hlen : (s.l.eraseIdx j).length = j := by rw [List.length_eraseIdx_of_lt hjl]; have := HLN.out; omega
          have hmap : (s.l.eraseIdx j).map (Value.int .i64) = (s.l.map (Value.int .i64)).take j := by
            rw [List.eraseIdx_eq_take_drop_succ, List.drop_eq_nil_of_le (by have := HLN.out; omega)]; simp [List.map_take]
          have hi4 : Ints w7 (.slice g4 (j) c4) (s.l.eraseIdx j) := Ints.ofOwn (base := w5.heap.size) (by rw [hlen, hmap]; simpa using OWN4.out)
          have B7 := Lib.hid (u4.keep B5.out (by simp))
          have us : Upd [kb] w7 (w7.setCell ⟨kb, 4, none⟩ (.slice g4 (j) c4)) := (Upd.refl [kb] w7).setCell (p := ⟨kb, 4, none⟩) (by simp) _
          have h9 : HasAt (w7.setCell ⟨kb, 4, none⟩ (.slice g4 (j) c4)) h (Go.Proofs.Ytmbkjnjfipafmaa.setG s.g i none) := (H5.out.upd u4 (by simp)).upd us (by simpa using fun e : h = kb => KH.out e.symm)
          have r9 := (R5.out.upd0 u4).updA us (fun y hy => by simp; rintro rfl; exact KA.out hy)
          have i9 := hi4.kb B7.out (by decide) us
          rw [← HFJ.out] at i9
          have UF := Lib.hid ((U5.out.trans u4.nil).trans (us.mono (T := kb :: h :: B.S) (by simp)))
          have R9 := Lib.hid r9; have H9 := Lib.hid h9; have I9 := Lib.hid i9
          clear hlen hmap hi4 us h9 r9 i9 u3 u4
          go_wp2_with fail
          go_ret
          refine ⟨.slice g4 (j) c4, rfl, ?_, UF.out⟩
          rw [HS.out]
          exact ⟨⟨set_of B7.out 4 _, H9.out, I9.out, R9.out.t.ok⟩, R9.out, KA.out, HA.out⟩
      · have hcl : j + 1 < vc := by omega
        have hcn : ¬ vc = j + 1 := by omega
        have ht2 := SlAt.rdrop1 W5.out (i := j + 1) (by omega) hcl
        have HT2 := Lib.hid ht2; clear ht2
        go_wp2_with (at_delete; refine wpList_del rfl _ _ 31 3 rfl _ _ rfl rfl HRUN.out ?_)
        go_region_law (first | ((refine step_append_any _ rfl (.tmp 200) (.tmp 206) 27 rfl w5.heap.size 3 i0 (.int .i64 0) 1 8 Try.underlying27 hii hz0 hz1 hz2 rfl (by decide) _ 0 [] (by first | (simp [Act.eval]; done) | simp [Act.eval, Act.put]) (owns_lit0 w5.drew 3 1) _ j _ (by first | (simp [Act.eval]; done) | simp [Act.eval, Act.put]) (HT1.out.upd (((Upd.refl [] w5).drew).alloc _) (by simp)) (by unfold maxLen; omega) (by omega) (by simp) ?_); (intro g3 c3 w6 hown3 hgrow3); (have u3 : Upd [] w5 w6 := (((Upd.refl [] w5).drew).alloc _).grown hgrow3 (fun g hg => by simp [Value.ownBlock] at hg; omega)); (have OWN3 := Lib.hid hown3); (have hb3 := u3.keep B5.out (by simp)); (have d3 := cell_of hb3 4); (clear hgrow3 hown3 hb3)) | ((refine step_append_any _ rfl (.tmp 207) (.tmp 214) 27 rfl w5.heap.size 3 i0 (.int .i64 0) 1 8 Try.underlying27 hii hz0 hz1 hz2 rfl (by decide) _ (0 + j) _ (by first | (simp [Act.eval]; done) | simp [Act.eval, Act.put]) OWN3.out _ (s.l.length - (j + 1)) _ (by first | (simp [Act.eval]; done) | simp [Act.eval, Act.put]) (HT2.out.upd u3 (by simp)) (by unfold maxLen; omega) (by omega) (by exact u3.size) ?_); (intro g4 c4 w7 hown4 hgrow4); (have u4 : Upd [] w5 w7 := u3.grown hgrow4 (fun g hg => (OWN3.out.lt g hg).1)); (have OWN4 := Lib.hid hown4); (have hb4 := u4.keep B5.out (by simp)); (have d4 := cell_of hb4 4); (have f4 : w7.frozen? ⟨kb, 4, none⟩ = false := free_of hb4 4); (clear hgrow4 hown4 hb4)))
        all_goals
          have hlen : (s.l.eraseIdx j).length = j + (s.l.length - (j + 1)) := by rw [List.length_eraseIdx_of_lt hjl]; omega
          have hmap : (s.l.eraseIdx j).map (Value.int .i64) = (s.l.map (Value.int .i64)).take j ++ ((s.l.map (Value.int .i64)).drop (j + 1)) := by
            rw [List.eraseIdx_eq_take_drop_succ]; simp [List.map_take, List.map_drop]
          have hi4 : Ints w7 (.slice g4 (j + (s.l.length - (j + 1))) c4) (s.l.eraseIdx j) := Ints.ofOwn (base := w5.heap.size) (by rw [hlen, hmap]; simpa using OWN4.out)
          have B7 := Lib.hid (u4.keep B5.out (by simp))
          have us : Upd [kb] w7 (w7.setCell ⟨kb, 4, none⟩ (.slice g4 (j + (s.l.length - (j + 1))) c4)) := (Upd.refl [kb] w7).setCell (p := ⟨kb, 4, none⟩) (by simp) _
          have h9 : HasAt (w7.setCell ⟨kb, 4, none⟩ (.slice g4 (j + (s.l.length - (j + 1))) c4)) h (Go.Proofs.Ytmbkjnjfipafmaa.setG s.g i none) := (H5.out.upd u4 (by simp)).upd us (by simpa using fun e : h = kb => KH.out e.symm)
          have r9 := (R5.out.upd0 u4).updA us (fun y hy => by simp; rintro rfl; exact KA.out hy)
          have i9 := hi4.kb B7.out (by decide) us
          rw [← HFJ.out] at i9
          have UF := Lib.hid ((U5.out.trans u4.nil).trans (us.mono (T := kb :: h :: B.S) (by simp)))
          have R9 := Lib.hid r9; have H9 := Lib.hid h9; have I9 := Lib.hid i9
          clear hlen hmap hi4 us h9 r9 i9 u3 u4
          go_wp2_with fail
          go_ret
          refine ⟨.slice g4 (j + (s.l.length - (j + 1))) c4, rfl, ?_, UF.out⟩
          rw [HS.out]
          exact ⟨⟨set_of B7.out 4 _, H9.out, I9.out, R9.out.t.ok⟩, R9.out, KA.out, HA.out⟩
    · have hcl : s.cl i = if z = true then 1 else 0 := by
        unfold Rs.cl
        rw [HZ.out]
        simp [hm]
      have hrl : s.remS i = ⟨s.size, s.places, Go.Proofs.Ytmbkjnjfipafmaa.setG s.g i none, s.l⟩ := by
        unfold Rs.remS; rw [List.erase_of_not_mem hm]
      have HRL := Lib.hid hrl
      rw [fndI_out hm]
      rw [hcl] at HB
      clear hm hcl hrl
      obtain rfl : cb = z := by rw [HB.out]; cases z <;> rfl
      have K9 := Lib.hid (show KnAt w5 kb B h v (s.canS i) from by
        rw [HS.out]
        refine ⟨?_, R5.out, KA.out, HA.out⟩
        have r9 := R5.out
        rw [HRL.out] at r9 ⊢
        exact ⟨B5.out, H5.out, W5.out, r9.t.ok⟩)
      have hzz : (cb == cb) = true := by simp
      cases cb
      all_goals
        go_wp2_with (at_delete; refine wpList_del rfl _ _ 31 3 rfl _ _ rfl rfl HRUN.out ?_)
        go_ret
        exact ⟨v, rfl, K9.out, U5.out⟩

end Go.Proofs.Ytmbkjnjfipafmaa
