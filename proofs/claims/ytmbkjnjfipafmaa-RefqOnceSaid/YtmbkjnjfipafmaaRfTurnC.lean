/-
  One turn of a known reference queue: poll. Conditions: none.
-/
import Derived.Test.YtmbkjnjfipafmaaRfTurn
import Derived.Deep.DeepCutAuto
import Derived.Deep.CutBlock
namespace Go.Proofs.Ytmbkjnjfipafmaa
open Go.RowKit Go.Maps

set_option maxRecDepth 100000 in
set_option maxHeartbeats 4000000 in
theorem turn_poll {w : World} {kb : Nat} {B : RfB} {h : Nat} {v : Value} {s : Rs} (k : KnAt w kb B h v s) (kd a o : Nat) (hk : kd < 256) (ha : a < 256) (ho : o < 256) (hX : kd % 6 = 4) :
    Calls Try.prog 19 #[.pointer (some ⟨kb, 0, none⟩), .agg #[.int .u8 (kd : Int), .int .u8 (a : Int), .int .u8 (o : Int)]] w (TurnPost kb B h s.pollS w) := by
  have hs := k.rf.szs
  obtain ⟨i, hi⟩ : ∃ i, a % s.size = i := ⟨_, rfl⟩
  have hil : i < s.size := by rw [← hi]; exact Nat.mod_lt _ (by omega)
  have hmod : Int.tmod (a : Int) (s.size : Int) = (i : Int) := by rw [Int.tmod_eq_emod_of_nonneg (by omega), ← hi]; rfl
  have hN0 : ((s.size : Int) == 0) = false := by simp; omega
  have hNz : (s.size : Int) ≠ 0 := by omega
  have hNz1 : ¬ s.size = 0 := by omega
  have hkk : Int.tmod (kd : Int) 6 = 4 := by rw [Int.tmod_eq_emod_of_nonneg (by omega)]; omega
  have hN2 : s.size ≤ 256 := hs.2.1
  have hP2 : s.places ≤ 64 := hs.2.2.2.1
  have hLl : s.l.length ≤ s.places := hs.2.2.2.2
  have hi256 : i < 256 := by omega
  try rw [hi]
  have KA := Lib.hid k.ka; have HA := Lib.hid k.ha; have KH := Lib.hid k.l.kh
  have HOK := Lib.hid k.rf.ok
  have HPK := Lib.hid k.rf.t.ok
  have u1 : Upd [] w (w.alloc (.cells #[.int .u8 (kd : Int), .int .u8 (a : Int), .int .u8 (o : Int)] 29)) := (Upd.refl _ _).alloc _
  have hXb := new_of w (.cells #[.int .u8 (kd : Int), .int .u8 (a : Int), .int .u8 (o : Int)] 29)
  have K := Lib.hid (k.upd0 u1)
  have HU := Lib.hid u1
  clear u1 k hi hX hs
  go_enter Try.func19, Try.ntmps19
  go_wp2_with fail
  generalize w.alloc (.cells #[.int .u8 (kd : Int), .int .u8 (a : Int), .int .u8 (o : Int)] 29) = V at *
  generalize w.heap.size = X at *
  have x1 : V.cell? ⟨X, 1, none⟩ = some (.int .u8 (a : Int)) := cell_of hXb 1
  have x2 : V.cell? ⟨X, 2, none⟩ = some (.int .u8 (o : Int)) := cell_of hXb 2
  have k1 : V.cell? ⟨kb, 1, none⟩ = some (.int .i64 s.size) := K.out.l.cells.2.1
  have hkl := K.out.l.lt
  have hXl := lt_of_block hXb
  have hXn : ¬ (V.heap.size = X) := by omega
  have hXn2 : ¬ (X = V.heap.size) := by omega
  have hkn : ¬ (V.heap.size = kb) := by omega
  have hkn2 : ¬ (kb = V.heap.size) := by omega
  have HX := Lib.hid hXb
  clear hXb
  have zR := zeroR
  have hwa : IntKind.i64.wrap ((a : Nat) : Int) = (a : Int) := IntWalk.i64_in _ (by omega)
  go_cut [5, 6] (fun x5 x6 wx => ∃ Y, x5 = .int .i64 i ∧ x6 = .pointer (some ⟨Y, 0, none⟩) ∧ wx.heap[Y]? = some (.cells #[.int .i64 (objR o).1, .int .u32 (objR o).2] 36 (0, 0)) ∧ Upd [] V wx)
  case first =>
    go_region_held3 (fun w' => w'.cell? ⟨X, 1, none⟩ = some (.int .u8 (a : Int)) ∧ w'.cell? ⟨X, 2, none⟩ = some (.int .u8 (o : Int)) ∧ w'.cell? ⟨kb, 1, none⟩ = some (.int .i64 s.size)) (first | go_keep | exact ⟨x1, x2, k1⟩) (first | (go_at_call 12; refine (object_at o _ ho).mono ?_; rintro e w3 ⟨rfl, u3⟩; have u4 : Upd [] V w3 := (((Upd.refl _ _).alloc (.cells #[.int .i64 0, .int .u32 0] 36)).drew).trans u3; have hY := u3.keep (drew_of (new_of V (.cells #[.int .i64 0, .int .u32 0] 36))) (by simp); have hX3 := u4.keep HX.out (by simp); have hK3 := u4.keep K.out.l.blk (by simp); have x1 := cell_of hX3 1; have x2 := cell_of hX3 2; have k1 := cell_of hK3 1; have y0 := cell_of hY 0; have y1 := cell_of hY 1; have yf0 : w3.frozen? ⟨V.heap.size, 0, none⟩ = false := free_of hY 0; have yf1 : w3.frozen? ⟨V.heap.size, 1, none⟩ = false := free_of hY 1) | (go_at_call 12; refine (object_at o _ ho).mono ?_; rintro e w3 ⟨rfl, u3⟩; have u4 : Upd [] V w3 := ((Upd.refl _ _).drew).trans u3; have hX3 := u4.keep HX.out (by simp); have hK3 := u4.keep K.out.l.blk (by simp); have x1 := cell_of hX3 1; have x2 := cell_of hX3 2; have k1 := cell_of hK3 1))
    all_goals
      go_wp2_with fail
      go_meet
      case rel =>
        first
        | exact ⟨_, rfl, rfl, new_of _ _, u4.alloc _⟩
        | exact ⟨_, rfl, rfl, set_of (set_of hY 0 _) 1 _, (u4.setNew (Nat.le_refl _) _).setNew (Nat.le_refl _) _⟩
  case rest =>
    obtain ⟨Y, rfl, rfl, hY, uc⟩ := hcut
    clear hXn hXn2 hkn hkn2 hXl hkl x1 x2 k1 hmod hN0 hNz hNz1 zR hwa
    have HY := Lib.hid hY
    have UC := Lib.hid (HU.out.trans uc)
    have KC := Lib.hid (K.out.upd0 uc)
    have x0 : (_ : World).cell? ⟨X, 0, none⟩ = some (.int .u8 (kd : Int)) := cell_of (uc.keep HX.out (by simp)) 0
    have k3 : (_ : World).cell? ⟨kb, 3, none⟩ = some (.map (some h)) := KC.out.l.cells.2.2.2.1
    have k0 : (_ : World).cell? ⟨kb, 0, none⟩ = some (.pointer (some ⟨B.b, 0, none⟩)) := KC.out.l.cells.1
    have kl := KC.out.l.lt
    have xl := lt_of_block (uc.keep HX.out (by simp))
    have Q := KC.out.l.has.look i hi256
    obtain ⟨⟨o1, o2⟩, hold⟩ : ∃ x : Rf, (s.g i).getD (0, 0) = x := ⟨_, rfl⟩
    obtain ⟨z, hz⟩ : ∃ z, (s.g i).isSome = z := ⟨_, rfl⟩
    rw [hold, hz] at Q
    unfold refV at Q
    dsimp only at Q
    have QQ := Lib.hid Q; have HZ := Lib.hid hz
    have HR := Lib.hid (objR_good o)
    generalize objR o = r at *
    obtain ⟨r1, r2⟩ := r
    dsimp only at hY HY
    have HXC := Lib.hid (uc.keep HX.out (by simp))
    have ul : Upd [] wc (wc.alloc (.cells #[.int .i64 o1, .int .u32 o2] 36)) := (Upd.refl _ _).alloc _
    have KD := Lib.hid (KC.out.upd0 ul); have UD := Lib.hid (UC.out.trans ul); have HYD := Lib.hid (ul.keep HY.out (by simp))
    have HXD := Lib.hid (ul.keep HXC.out (by simp))
    clear Q hold hY uc ul KC K HX HXC HY UC HU
    go_wp2_with (at_lookup; refine wpList_look rfl _ _ 31 rfl _ _ _ rfl rfl QQ.out ?_)
    clear x0 k0 kl k3 xl QQ
    generalize wc.alloc (.cells #[.int .i64 o1, .int .u32 o2] 36) = V2 at *
    have hrg := rfpoll KD.out.rf
    have HRG := Lib.hid hrg
    clear hrg hil hz HZ HYD HXD HR
    refine HRG.out.mono ?_; rintro e w3 ⟨rfl, rf3, u3⟩
    have L3 := Lib.hid (KD.out.l.go KD.out.rf KD.out.ka KD.out.ha u3)
    have R3 := Lib.hid rf3; have U3 := Lib.hid ((UD.out.nil.trans u3).mono (T := kb :: h :: B.S) (fun x hx => by simp [hx]))
    clear u3 rf3 HRG KD UD
    obtain ⟨va, vc, rfl, hvc1, hvc2⟩ := L3.out.wait.form
    have k4 : w3.cell? ⟨kb, 4, none⟩ = some (.slice va s.l.length vc) := L3.out.cells.2.2.2.2
    by_cases h0 : s.l.length = 0
    · have e1 : s.pollX = 0 := by unfold Rs.pollX; rw [List.eq_nil_of_length_eq_zero h0]; rfl
      have e2 : s.pollB = false := by unfold Rs.pollB; rw [List.eq_nil_of_length_eq_zero h0]; rfl
      have E3 := Lib.hid (pollS_nil h0)
      have hl0 : ((s.l.length : Int) == 0) = true := by simp [h0]
      rw [e1, e2]
      clear h0 e1 e2
      go_wp2_with fail
      go_ret
      exact ⟨_, rfl, ⟨by rw [E3.out]; exact L3.out, R3.out, KA.out, HA.out⟩, U3.out⟩
    · have hlt : 0 < s.l.length := by omega
      have hl0 : ((s.l.length : Int) == 0) = false := by simp; intro hh; exact h0 (by simp [hh])
      have e1 : s.pollX = s.l[0] := headD_of hlt
      have e2 : s.pollB = true := notEmpty_of hlt
      rw [e1, e2]
      obtain ⟨g, off, rfl, hg, _, hcell⟩ := L3.out.wait.at hlt
      rw [Nat.add_zero] at hcell
      have hb3 := L3.out.blk
      have fr : w3.frozen? ⟨kb, 4, none⟩ = false := free_of hb3 4
      have hpl : s.pollS.l = s.l.drop 1 := by simp [Rs.pollS]
      have HPL := Lib.hid hpl
      have HB3 := Lib.hid hb3
      clear hb3 e1 e2 h0 hpl
      generalize s.l[0] = x0 at *
      have hxx : (x0 == x0) = true := by simp
      by_cases hcap : vc = 1
      · subst hcap
        have hln : s.l.length = 1 := by omega
        have us : Upd [kb] w3 (w3.setCell ⟨kb, 4, none⟩ (.slice (some ⟨g, off, none⟩) 0 0)) := (Upd.refl [kb] w3).setCell (p := ⟨kb, 4, none⟩) (by simp) _
        have HLN := Lib.hid hln
        have US := Lib.hid us
        clear us
        go_wp2_with fail
        go_ret
        have r9 := R3.out.updA US.out (fun y hy => by simp; rintro rfl; exact KA.out hy)
        have h9 : HasAt (w3.setCell ⟨kb, 4, none⟩ (.slice (some ⟨g, off, none⟩) 0 0)) h s.g := L3.out.has.upd US.out (by simpa using fun e : h = kb => KH.out e.symm)
        refine ⟨.slice (some ⟨g, off, none⟩) 0 0, rfl, ⟨⟨?_, h9, ?_, r9.t.ok⟩, r9, KA.out, HA.out⟩, U3.out.trans (US.out.mono (by simp))⟩
        · exact set_of HB3.out 4 _
        · show Ints _ _ s.pollS.l
          rw [HPL.out, List.drop_eq_nil_of_le (by have := HLN.out; omega)]
          exact sl_empty _ _ _
      · have hcl : 1 < vc := by omega
        have us : Upd [kb] w3 (w3.setCell ⟨kb, 4, none⟩ (.slice (some ⟨g, off + 1, none⟩) (s.l.length - 1) (vc - 1))) := (Upd.refl [kb] w3).setCell (p := ⟨kb, 4, none⟩) (by simp) _
        have US := Lib.hid us
        have hd := SlAt.drop1 (L3.out.wait) (i := 1) (by omega) hcl
        have HD := Lib.hid hd
        clear us hd
        go_wp2_with fail
        go_ret
        have r9 := R3.out.updA US.out (fun y hy => by simp; rintro rfl; exact KA.out hy)
        have h9 : HasAt (w3.setCell ⟨kb, 4, none⟩ (.slice (some ⟨g, off + 1, none⟩) (s.l.length - 1) (vc - 1))) h s.g := L3.out.has.upd US.out (by simpa using fun e : h = kb => KH.out e.symm)
        refine ⟨.slice (some ⟨g, off + 1, none⟩) (s.l.length - 1) (vc - 1), rfl, ⟨⟨?_, h9, ?_, r9.t.ok⟩, r9, KA.out, HA.out⟩, U3.out.trans (US.out.mono (by simp))⟩
        · exact set_of HB3.out 4 _
        · show Ints _ _ s.pollS.l
          rw [HPL.out]
          have h1 : Ints w3 (.slice (some ⟨g, off + 1, none⟩) (s.l.length - 1) (vc - 1)) (s.l.drop 1) := by
            unfold Ints
            rw [List.length_drop, List.map_drop]
            exact HD.out
          exact h1.kb HB3.out (by decide) US.out

end Go.Proofs.Ytmbkjnjfipafmaa
