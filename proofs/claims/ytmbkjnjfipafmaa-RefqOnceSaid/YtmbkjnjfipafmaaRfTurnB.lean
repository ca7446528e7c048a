/-
  One turn of a known reference queue: found. Conditions: none.
-/
import Derived.Test.YtmbkjnjfipafmaaRfTurn
import Derived.Deep.DeepCutAuto
import Derived.Deep.CutBlock
namespace Go.Proofs.Ytmbkjnjfipafmaa
open Go.RowKit Go.Maps

set_option maxRecDepth 100000 in
set_option maxHeartbeats 4000000 in
theorem turn_fnd2 {w : World} {kb : Nat} {B : RfB} {h : Nat} {v : Value} {s : Rs} (k : KnAt w kb B h v s) (kd a o : Nat) (hk : kd < 256) (ha : a < 256) (ho : o < 256) (hX : kd % 6 = 2) :
    Calls Try.prog 19 #[.pointer (some ⟨kb, 0, none⟩), .agg #[.int .u8 (kd : Int), .int .u8 (a : Int), .int .u8 (o : Int)]] w (TurnPost kb B h (s.fndS (objR o)) w) := by
  have hs := k.rf.szs
  obtain ⟨i, hi⟩ : ∃ i, a % s.size = i := ⟨_, rfl⟩
  have hil : i < s.size := by rw [← hi]; exact Nat.mod_lt _ (by omega)
  have hmod : Int.tmod (a : Int) (s.size : Int) = (i : Int) := by rw [Int.tmod_eq_emod_of_nonneg (by omega), ← hi]; rfl
  have hN0 : ((s.size : Int) == 0) = false := by simp; omega
  have hNz : (s.size : Int) ≠ 0 := by omega
  have hNz1 : ¬ s.size = 0 := by omega
  have hkk : Int.tmod (kd : Int) 6 = 2 := by rw [Int.tmod_eq_emod_of_nonneg (by omega)]; omega
  have hN2 : s.size ≤ 256 := hs.2.1
  have hP2 : s.places ≤ 64 := hs.2.2.2.1
  have hLl : s.l.length ≤ s.places := hs.2.2.2.2
  have hi256 : i < 256 := by omega
  try rw [hi]
  have KA := Lib.hid k.ka; have HA := Lib.hid k.ha; have KH := Lib.hid k.l.kh
  have HOK := Lib.hid k.rf.ok
  have HPK := Lib.hid k.rf.t.ok
  have u1 : Upd [] w (w.alloc (.cells #[.int .u8 (kd : Int), .int .u8 (a : Int), .int .u8 (o : Int)] 29)) := (Upd.refl _ _).alloc _
  have hXb := new_of w (.cells #[.int .u8 (kd : Int), .int .u8 (a : Int), .int .u8 (o : Int)] 29)
  have K := Lib.hid (k.upd0 u1)
  have HU := Lib.hid u1
  clear u1 k hi hX hs
  go_enter Try.func19, Try.ntmps19
  go_wp2_with fail
  generalize w.alloc (.cells #[.int .u8 (kd : Int), .int .u8 (a : Int), .int .u8 (o : Int)] 29) = V at *
  generalize w.heap.size = X at *
  have x1 : V.cell? ⟨X, 1, none⟩ = some (.int .u8 (a : Int)) := cell_of hXb 1
  have x2 : V.cell? ⟨X, 2, none⟩ = some (.int .u8 (o : Int)) := cell_of hXb 2
  have k1 : V.cell? ⟨kb, 1, none⟩ = some (.int .i64 s.size) := K.out.l.cells.2.1
  have hkl := K.out.l.lt
  have hXl := lt_of_block hXb
  have hXn : ¬ (V.heap.size = X) := by omega
  have hXn2 : ¬ (X = V.heap.size) := by omega
  have hkn : ¬ (V.heap.size = kb) := by omega
  have hkn2 : ¬ (kb = V.heap.size) := by omega
  have HX := Lib.hid hXb
  clear hXb
  have zR := zeroR
  have hwa : IntKind.i64.wrap ((a : Nat) : Int) = (a : Int) := IntWalk.i64_in _ (by omega)
  go_cut [5, 6] (fun x5 x6 wx => ∃ Y, x5 = .int .i64 i ∧ x6 = .pointer (some ⟨Y, 0, none⟩) ∧ wx.heap[Y]? = some (.cells #[.int .i64 (objR o).1, .int .u32 (objR o).2] 36 (0, 0)) ∧ Upd [] V wx)
  case first =>
    go_region_held3 (fun w' => w'.cell? ⟨X, 1, none⟩ = some (.int .u8 (a : Int)) ∧ w'.cell? ⟨X, 2, none⟩ = some (.int .u8 (o : Int)) ∧ w'.cell? ⟨kb, 1, none⟩ = some (.int .i64 s.size)) (first | go_keep | exact ⟨x1, x2, k1⟩) (first | (go_at_call 12; refine (object_at o _ ho).mono ?_; rintro e w3 ⟨rfl, u3⟩; have u4 : Upd [] V w3 := (((Upd.refl _ _).alloc (.cells #[.int .i64 0, .int .u32 0] 36)).drew).trans u3; have hY := u3.keep (drew_of (new_of V (.cells #[.int .i64 0, .int .u32 0] 36))) (by simp); have hX3 := u4.keep HX.out (by simp); have hK3 := u4.keep K.out.l.blk (by simp); have x1 := cell_of hX3 1; have x2 := cell_of hX3 2; have k1 := cell_of hK3 1; have y0 := cell_of hY 0; have y1 := cell_of hY 1; have yf0 : w3.frozen? ⟨V.heap.size, 0, none⟩ = false := free_of hY 0; have yf1 : w3.frozen? ⟨V.heap.size, 1, none⟩ = false := free_of hY 1) | (go_at_call 12; refine (object_at o _ ho).mono ?_; rintro e w3 ⟨rfl, u3⟩; have u4 : Upd [] V w3 := ((Upd.refl _ _).drew).trans u3; have hX3 := u4.keep HX.out (by simp); have hK3 := u4.keep K.out.l.blk (by simp); have x1 := cell_of hX3 1; have x2 := cell_of hX3 2; have k1 := cell_of hK3 1))
    all_goals
      go_wp2_with fail
      go_meet
      case rel =>
        first
        | exact ⟨_, rfl, rfl, new_of _ _, u4.alloc _⟩
        | exact ⟨_, rfl, rfl, set_of (set_of hY 0 _) 1 _, (u4.setNew (Nat.le_refl _) _).setNew (Nat.le_refl _) _⟩
  case rest =>
    obtain ⟨Y, rfl, rfl, hY, uc⟩ := hcut
    clear hXn hXn2 hkn hkn2 hXl hkl x1 x2 k1 hmod hN0 hNz hNz1 zR hwa
    have HY := Lib.hid hY
    have UC := Lib.hid (HU.out.trans uc)
    have KC := Lib.hid (K.out.upd0 uc)
    have x0 : (_ : World).cell? ⟨X, 0, none⟩ = some (.int .u8 (kd : Int)) := cell_of (uc.keep HX.out (by simp)) 0
    have k3 : (_ : World).cell? ⟨kb, 3, none⟩ = some (.map (some h)) := KC.out.l.cells.2.2.2.1
    have k0 : (_ : World).cell? ⟨kb, 0, none⟩ = some (.pointer (some ⟨B.b, 0, none⟩)) := KC.out.l.cells.1
    have kl := KC.out.l.lt
    have xl := lt_of_block (uc.keep HX.out (by simp))
    have Q := KC.out.l.has.look i hi256
    obtain ⟨⟨o1, o2⟩, hold⟩ : ∃ x : Rf, (s.g i).getD (0, 0) = x := ⟨_, rfl⟩
    obtain ⟨z, hz⟩ : ∃ z, (s.g i).isSome = z := ⟨_, rfl⟩
    rw [hold, hz] at Q
    unfold refV at Q
    dsimp only at Q
    have QQ := Lib.hid Q; have HZ := Lib.hid hz
    have HR := Lib.hid (objR_good o)
    generalize objR o = r at *
    obtain ⟨r1, r2⟩ := r
    dsimp only at hY HY
    have HXC := Lib.hid (uc.keep HX.out (by simp))
    have ul : Upd [] wc (wc.alloc (.cells #[.int .i64 o1, .int .u32 o2] 36)) := (Upd.refl _ _).alloc _
    have KD := Lib.hid (KC.out.upd0 ul); have UD := Lib.hid (UC.out.trans ul); have HYD := Lib.hid (ul.keep HY.out (by simp))
    have HXD := Lib.hid (ul.keep HXC.out (by simp))
    clear Q hold hY uc ul KC K HX HXC HY UC HU
    go_wp2_with (at_lookup; refine wpList_look rfl _ _ 31 rfl _ _ _ rfl rfl QQ.out ?_)
    clear x0 k0 kl k3 xl QQ
    generalize wc.alloc (.cells #[.int .i64 o1, .int .u32 o2] 36) = V2 at *
    have c0 : V2.cell? ⟨kb, 0, none⟩ = some (.pointer (some ⟨B.b, 0, none⟩)) := KD.out.l.cells.1
    have y0 : V2.cell? ⟨Y, 0, none⟩ = some (.int .i64 r1) := cell_of HYD.out 0
    have y1 : V2.cell? ⟨Y, 1, none⟩ = some (.int .u32 r2) := cell_of HYD.out 1
    have KEEP := Lib.hid (show ∀ w', Upd B.S V2 w' → w'.cell? ⟨kb, 0, none⟩ = some (.pointer (some ⟨B.b, 0, none⟩)) ∧ w'.cell? ⟨Y, 0, none⟩ = some (.int .i64 r1) ∧ w'.cell? ⟨Y, 1, none⟩ = some (.int .u32 r2) from fun w' u => by
      have b1 := u.keep HYD.out (KD.out.rf.notIn HYD.out (by decide))
      exact ⟨((KD.out.l.go KD.out.rf KD.out.ka KD.out.ha u).cells).1, cell_of b1 0, cell_of b1 1⟩)
    have hrg := rffound (KD.out.rf.upd0 ((Upd.refl _ _).drew)) (r1, r2) HR.out.wf
    obtain ⟨fb, hfb⟩ : ∃ x, s.fndB (r1, r2) = x := ⟨_, rfl⟩
    obtain ⟨fe, hfe⟩ : ∃ x, s.fndE (r1, r2) = x := ⟨_, rfl⟩
    obtain ⟨s2, hs2⟩ : ∃ s2, s.fndS (r1, r2) = s2 := ⟨_, rfl⟩
    rw [hfb, hfe, hs2] at hrg
    have HFB := Lib.hid hfb; have HFE := Lib.hid hfe; have HS2 := Lib.hid hs2; have HRG := Lib.hid hrg
    clear hfb hfe hs2 hrg hil hz HZ
    go_region_held3 (fun w' => w'.cell? ⟨kb, 0, none⟩ = some (.pointer (some ⟨B.b, 0, none⟩)) ∧ w'.cell? ⟨Y, 0, none⟩ = some (.int .i64 r1) ∧ w'.cell? ⟨Y, 1, none⟩ = some (.int .u32 r2)) (first | go_keep | exact ⟨c0, y0, y1⟩ | exact KK) (first | (go_at_call 15; refine HRG.out.mono ?_; rintro e w3 ⟨rfl, rf3, u3⟩; have u4 : Upd B.S V2 w3 := ((Upd.refl _ _).drew).trans u3; have KK := KEEP.out _ u4))
    have L3 := Lib.hid (KD.out.l.go KD.out.rf KD.out.ka KD.out.ha u4)
    have y0 : w3.cell? ⟨Y, 0, none⟩ = some (.int .i64 r1) := KK.2.1
    have y1 : w3.cell? ⟨Y, 1, none⟩ = some (.int .u32 r2) := KK.2.2
    have RF3 := Lib.hid rf3; have U3 := Lib.hid (UD.out.nil.trans u4)
    clear KK KEEP u3 u4 rf3 c0 HRG KD UD HYD HXD
    go_wp2_with fail
    clear y0 y1
    refine (by_at L3.out (r1, r2)).mono ?_; rintro e w4 ⟨rfl, u4⟩
    have L4 := Lib.hid (L3.out.upd0 u4); have R4 := Lib.hid (RF3.out.upd0 u4); have U4 := Lib.hid (U3.out.trans u4.nil)
    clear u4 L3 RF3 U3
    cases hb : s.byI (r1, r2) with
    | none =>
      have E2 := Lib.hid (show s2 = s from by rw [← HS2.out]; unfold Rs.fndS; rw [hb])
      obtain rfl : fb = false := by rw [← HFB.out]; unfold Rs.fndB; rw [hb]; rfl
      obtain rfl : fe = 0 := by rw [← HFE.out]; unfold Rs.fndE; rw [hb]; simp
      rw [show s.byR (r1, r2) = -1 from by unfold Rs.byR; rw [hb]]
      clear hb
      go_wp2_with fail
      go_ret
      exact ⟨v, rfl, by rw [HS2.out]; exact ⟨by rw [E2.out]; exact L4.out, R4.out, KA.out, HA.out⟩, U4.out.mono (fun x hx => by simp [hx])⟩
    | some j =>
      have hgj : s.g j = some (r1, r2) := byI_some (s := s.pt) hb
      have hjs : j < s.size := (HPK.out.good j _ hgj).1
      have hj256 : j < 256 := by omega
      obtain ⟨va, vc, rfl, hvc1, hvc2⟩ := L4.out.wait.form
      have k2 : w4.cell? ⟨kb, 2, none⟩ = some (.int .i64 s.places) := L4.out.cells.2.2.1
      have k4 : w4.cell? ⟨kb, 4, none⟩ = some (.slice va s.l.length vc) := L4.out.cells.2.2.2.2
      rw [show s.byR (r1, r2) = (j : Int) from by unfold Rs.byR; rw [hb]]
      by_cases hf : s.l.length = s.places
      · have E2 := Lib.hid (show s2 = s from by rw [← HS2.out]; unfold Rs.fndS; rw [hb]; exact if_pos hf)
        obtain rfl : fb = false := by rw [← HFB.out]; unfold Rs.fndB; rw [decide_eq_false (by simpa using hf)]; simp
        obtain rfl : fe = 4 := by rw [← HFE.out]; unfold Rs.fndE; rw [hb]; simp [hf]
        have hfd : ((s.l.length : Int) == (s.places : Int)) = true := by simp [hf]
        clear hb hgj hf
        go_wp2_with fail
        go_quiet (fail)
        go_wp2_with fail
        go_ret
        exact ⟨_, rfl, by rw [HS2.out]; exact (⟨by rw [E2.out]; exact L4.out, R4.out, KA.out, HA.out⟩ : KnAt _ _ _ _ _ _).upd0 ((Upd.refl _ _).drewN _), (U4.out.mono (fun x hx => by simp [hx])).drewN _⟩
      · have E2 : s2 = ⟨s.size, s.places, Go.Proofs.Ytmbkjnjfipafmaa.setG s.g j none, s.l ++ [(j : Int)]⟩ := by rw [← HS2.out]; unfold Rs.fndS; rw [hb]; exact if_neg hf
        subst E2
        obtain rfl : fb = true := by rw [← HFB.out]; unfold Rs.fndB; rw [hb]; simp [hf]
        obtain rfl : fe = 0 := by rw [← HFE.out]; unfold Rs.fndE; rw [if_neg (fun hh => hf hh.2)]
        have hfd : ((s.l.length : Int) == (s.places : Int)) = false := by simpa using (by omega : ¬ (s.l.length : Int) = (s.places : Int))
        clear hb hgj hf
        go_wp2_with fail
        go_quiet (fail)
        have L5 := Lib.hid (L4.out.upd0 ((Upd.refl _ _).drewN nq)); have R5 := Lib.hid (R4.out.upd0 ((Upd.refl _ _).drewN nq)); have U5 := Lib.hid ((U4.out.mono (T := kb :: h :: B.S) (fun x hx => by simp [hx])).drewN nq)
        clear L4 R4 U4 k2 k4
        generalize w4.drewN nq = w5 at *
        have k3 : w5.cell? ⟨kb, 3, none⟩ = some (.map (some h)) := L5.out.cells.2.2.2.1
        obtain ⟨w6, hrun, hh6, u6⟩ := L5.out.has.del j hj256 0
        have HRUN := Lib.hid hrun
        have b6 := u6.keep L5.out.blk (by simpa using KH.out)
        have hw6 := L5.out.wait.has L5.out.has u6
        have R6 := Lib.hid (R5.out.updA u6 (fun y hy => by simp; rintro rfl; exact HA.out hy))
        have U6 := Lib.hid (U5.out.trans (u6.mono (T := kb :: h :: B.S) (by simp)))
        have B6 := Lib.hid b6; have W6 := Lib.hid hw6; have H6 := Lib.hid hh6
        have k4 : w6.cell? ⟨kb, 4, none⟩ = some (.slice va s.l.length vc) := cell_of b6 4
        have kl := lt_of_block b6
        obtain ⟨i0, hii, hz0, hz1, hz2⟩ := info_parts info3
        clear hrun hh6 u6 b6 hw6
        have hS6 : SlAt (w6.alloc (.cells #[] 3)) 3 1 (.slice va s.l.length vc) s.l.length (s.l.map (Value.int .i64)) := W6.out.upd0 ((Upd.refl _ _).alloc _)
        have HS6 := Lib.hid hS6; clear hS6
        go_wp2_with (first | (at_delete; refine wpList_del rfl _ _ 31 3 rfl _ _ rfl rfl HRUN.out ?_) | (at_builtin; refine wpList_append_any _ rfl (.tmp 122) (.tmp 126) 27 rfl w6.heap.size 3 i0 (.int .i64 0) 1 8 Try.underlying27 hii hz0 hz1 hz2 rfl (by decide) _ 0 [] rfl (owns_lit0 w6 3 1) _ s.l.length _ rfl HS6.out ?c1 ?c2 ?c3 ?_))
        case c1 => unfold maxLen; omega
        case c2 => omega
        case c3 => simp
        intro g7 c7 w7 hown7 hgrow7
        have u7 : Upd [] w6 w7 := ((Upd.refl _ _).alloc _).grown hgrow7 (fun g hg => by simp [Value.ownBlock] at hg; omega)
        have U7 := Lib.hid u7
        have OWN7 := Lib.hid hown7
        clear hown7 hgrow7 k4 kl u7
        go_wp2_with (at_builtin; refine wpList_append_any _ rfl (.tmp 127) (.tmp 129) 27 rfl w6.heap.size 3 i0 (.int .i64 0) 1 8 Try.underlying27 hii hz0 hz1 hz2 rfl (by decide) _ s.l.length _ rfl (OWN7.out.alloc _) _ 1 [.int .i64 j] rfl (sl_lit1 _ _ _ _) ?c1 ?c2 ?c3 ?_)
        case c1 => unfold maxLen; omega
        case c2 => omega
        case c3 => simp; have := U7.out.size; omega
        intro g8 c8 w8 hown8 hgrow8
        have u8 : Upd [] w6 w8 := (U7.out.alloc _).grown hgrow8 (fun g hg => ((OWN7.out.alloc (.cells #[.int .i64 j] 3)).lt g hg).1)
        have b8 := u8.keep B6.out (by simp)
        have B8 := Lib.hid b8
        have U8 := Lib.hid u8
        have OWN8 := Lib.hid hown8
        have k4 : w8.cell? ⟨kb, 4, none⟩ = some (.slice va s.l.length vc) := cell_of b8 4
        have fr : w8.frozen? ⟨kb, 4, none⟩ = false := free_of b8 4
        clear hown8 hgrow8 u8 b8
        go_wp2_with fail
        go_ret
        have us : Upd [kb] w8 (w8.setCell ⟨kb, 4, none⟩ (.slice g8 (s.l.length + 1) c8)) := (Upd.refl [kb] w8).setCell (p := ⟨kb, 4, none⟩) (by simp) _
        have hI8 : Ints w8 (.slice g8 (s.l.length + 1) c8) (s.l ++ [(j : Int)]) := by
          have h1 := SlAt.ofOwn OWN8.out (by
            intro x hx
            simp only [List.mem_append, List.mem_map, List.mem_singleton] at hx
            rcases hx with ⟨y, -, rfl⟩ | rfl <;> rfl)
          have h2 : (s.l ++ [(j : Int)]).length = s.l.length + 1 := by simp
          unfold Ints
          rw [h2]
          simpa using h1
        have h9 : HasAt (w8.setCell ⟨kb, 4, none⟩ (.slice g8 (s.l.length + 1) c8)) h (Go.Proofs.Ytmbkjnjfipafmaa.setG s.g j none) := (H6.out.upd U8.out (by simp)).upd us (by simpa using fun e : h = kb => KH.out e.symm)
        have r9 := (R6.out.upd0 U8.out).updA us (fun y hy => by simp; rintro rfl; exact KA.out hy)
        refine ⟨.slice g8 (s.l.length + 1) c8, rfl, ?_, (U6.out.trans U8.out.nil).trans (us.mono (by simp))⟩
        rw [HS2.out]
        exact ⟨⟨set_of B8.out 4 _, h9, hI8.kb B8.out (by decide) us, r9.t.ok⟩, r9, KA.out, HA.out⟩
set_option maxRecDepth 100000 in
set_option maxHeartbeats 4000000 in
theorem turn_fnd3 {w : World} {kb : Nat} {B : RfB} {h : Nat} {v : Value} {s : Rs} (k : KnAt w kb B h v s) (kd a o : Nat) (hk : kd < 256) (ha : a < 256) (ho : o < 256) (hX : kd % 6 = 3) :
    Calls Try.prog 19 #[.pointer (some ⟨kb, 0, none⟩), .agg #[.int .u8 (kd : Int), .int .u8 (a : Int), .int .u8 (o : Int)]] w (TurnPost kb B h (s.fndS (objR o)) w) := by
  have hs := k.rf.szs
  obtain ⟨i, hi⟩ : ∃ i, a % s.size = i := ⟨_, rfl⟩
  have hil : i < s.size := by rw [← hi]; exact Nat.mod_lt _ (by omega)
  have hmod : Int.tmod (a : Int) (s.size : Int) = (i : Int) := by rw [Int.tmod_eq_emod_of_nonneg (by omega), ← hi]; rfl
  have hN0 : ((s.size : Int) == 0) = false := by simp; omega
  have hNz : (s.size : Int) ≠ 0 := by omega
  have hNz1 : ¬ s.size = 0 := by omega
  have hkk : Int.tmod (kd : Int) 6 = 3 := by rw [Int.tmod_eq_emod_of_nonneg (by omega)]; omega
  have hN2 : s.size ≤ 256 := hs.2.1
  have hP2 : s.places ≤ 64 := hs.2.2.2.1
  have hLl : s.l.length ≤ s.places := hs.2.2.2.2
  have hi256 : i < 256 := by omega
  try rw [hi]
  have KA := Lib.hid k.ka; have HA := Lib.hid k.ha; have KH := Lib.hid k.l.kh
  have HOK := Lib.hid k.rf.ok
  have HPK := Lib.hid k.rf.t.ok
  have u1 : Upd [] w (w.alloc (.cells #[.int .u8 (kd : Int), .int .u8 (a : Int), .int .u8 (o : Int)] 29)) := (Upd.refl _ _).alloc _
  have hXb := new_of w (.cells #[.int .u8 (kd : Int), .int .u8 (a : Int), .int .u8 (o : Int)] 29)
  have K := Lib.hid (k.upd0 u1)
  have HU := Lib.hid u1
  clear u1 k hi hX hs
  go_enter Try.func19, Try.ntmps19
  go_wp2_with fail
  generalize w.alloc (.cells #[.int .u8 (kd : Int), .int .u8 (a : Int), .int .u8 (o : Int)] 29) = V at *
  generalize w.heap.size = X at *
  have x1 : V.cell? ⟨X, 1, none⟩ = some (.int .u8 (a : Int)) := cell_of hXb 1
  have x2 : V.cell? ⟨X, 2, none⟩ = some (.int .u8 (o : Int)) := cell_of hXb 2
  have k1 : V.cell? ⟨kb, 1, none⟩ = some (.int .i64 s.size) := K.out.l.cells.2.1
  have hkl := K.out.l.lt
  have hXl := lt_of_block hXb
  have hXn : ¬ (V.heap.size = X) := by omega
  have hXn2 : ¬ (X = V.heap.size) := by omega
  have hkn : ¬ (V.heap.size = kb) := by omega
  have hkn2 : ¬ (kb = V.heap.size) := by omega
  have HX := Lib.hid hXb
  clear hXb
  have zR := zeroR
  have hwa : IntKind.i64.wrap ((a : Nat) : Int) = (a : Int) := IntWalk.i64_in _ (by omega)
  go_cut [5, 6] (fun x5 x6 wx => ∃ Y, x5 = .int .i64 i ∧ x6 = .pointer (some ⟨Y, 0, none⟩) ∧ wx.heap[Y]? = some (.cells #[.int .i64 (objR o).1, .int .u32 (objR o).2] 36 (0, 0)) ∧ Upd [] V wx)
  case first =>
    go_region_held3 (fun w' => w'.cell? ⟨X, 1, none⟩ = some (.int .u8 (a : Int)) ∧ w'.cell? ⟨X, 2, none⟩ = some (.int .u8 (o : Int)) ∧ w'.cell? ⟨kb, 1, none⟩ = some (.int .i64 s.size)) (first | go_keep | exact ⟨x1, x2, k1⟩) (first | (go_at_call 12; refine (object_at o _ ho).mono ?_; rintro e w3 ⟨rfl, u3⟩; have u4 : Upd [] V w3 := (((Upd.refl _ _).alloc (.cells #[.int .i64 0, .int .u32 0] 36)).drew).trans u3; have hY := u3.keep (drew_of (new_of V (.cells #[.int .i64 0, .int .u32 0] 36))) (by simp); have hX3 := u4.keep HX.out (by simp); have hK3 := u4.keep K.out.l.blk (by simp); have x1 := cell_of hX3 1; have x2 := cell_of hX3 2; have k1 := cell_of hK3 1; have y0 := cell_of hY 0; have y1 := cell_of hY 1; have yf0 : w3.frozen? ⟨V.heap.size, 0, none⟩ = false := free_of hY 0; have yf1 : w3.frozen? ⟨V.heap.size, 1, none⟩ = false := free_of hY 1) | (go_at_call 12; refine (object_at o _ ho).mono ?_; rintro e w3 ⟨rfl, u3⟩; have u4 : Upd [] V w3 := ((Upd.refl _ _).drew).trans u3; have hX3 := u4.keep HX.out (by simp); have hK3 := u4.keep K.out.l.blk (by simp); have x1 := cell_of hX3 1; have x2 := cell_of hX3 2; have k1 := cell_of hK3 1))
    all_goals
      go_wp2_with fail
      go_meet
      case rel =>
        first
        | exact ⟨_, rfl, rfl, new_of _ _, u4.alloc _⟩
        | exact ⟨_, rfl, rfl, set_of (set_of hY 0 _) 1 _, (u4.setNew (Nat.le_refl _) _).setNew (Nat.le_refl _) _⟩
  case rest =>
    obtain ⟨Y, rfl, rfl, hY, uc⟩ := hcut
    clear hXn hXn2 hkn hkn2 hXl hkl x1 x2 k1 hmod hN0 hNz hNz1 zR hwa
    have HY := Lib.hid hY
    have UC := Lib.hid (HU.out.trans uc)
    have KC := Lib.hid (K.out.upd0 uc)
    have x0 : (_ : World).cell? ⟨X, 0, none⟩ = some (.int .u8 (kd : Int)) := cell_of (uc.keep HX.out (by simp)) 0
    have k3 : (_ : World).cell? ⟨kb, 3, none⟩ = some (.map (some h)) := KC.out.l.cells.2.2.2.1
    have k0 : (_ : World).cell? ⟨kb, 0, none⟩ = some (.pointer (some ⟨B.b, 0, none⟩)) := KC.out.l.cells.1
    have kl := KC.out.l.lt
    have xl := lt_of_block (uc.keep HX.out (by simp))
    have Q := KC.out.l.has.look i hi256
    obtain ⟨⟨o1, o2⟩, hold⟩ : ∃ x : Rf, (s.g i).getD (0, 0) = x := ⟨_, rfl⟩
    obtain ⟨z, hz⟩ : ∃ z, (s.g i).isSome = z := ⟨_, rfl⟩
    rw [hold, hz] at Q
    unfold refV at Q
    dsimp only at Q
    have QQ := Lib.hid Q; have HZ := Lib.hid hz
    have HR := Lib.hid (objR_good o)
    generalize objR o = r at *
    obtain ⟨r1, r2⟩ := r
    dsimp only at hY HY
    have HXC := Lib.hid (uc.keep HX.out (by simp))
    have ul : Upd [] wc (wc.alloc (.cells #[.int .i64 o1, .int .u32 o2] 36)) := (Upd.refl _ _).alloc _
    have KD := Lib.hid (KC.out.upd0 ul); have UD := Lib.hid (UC.out.trans ul); have HYD := Lib.hid (ul.keep HY.out (by simp))
    have HXD := Lib.hid (ul.keep HXC.out (by simp))
    clear Q hold hY uc ul KC K HX HXC HY UC HU
    go_wp2_with (at_lookup; refine wpList_look rfl _ _ 31 rfl _ _ _ rfl rfl QQ.out ?_)
    clear x0 k0 kl k3 xl QQ
    generalize wc.alloc (.cells #[.int .i64 o1, .int .u32 o2] 36) = V2 at *
    have c0 : V2.cell? ⟨kb, 0, none⟩ = some (.pointer (some ⟨B.b, 0, none⟩)) := KD.out.l.cells.1
    have y0 : V2.cell? ⟨Y, 0, none⟩ = some (.int .i64 r1) := cell_of HYD.out 0
    have y1 : V2.cell? ⟨Y, 1, none⟩ = some (.int .u32 r2) := cell_of HYD.out 1
    have KEEP := Lib.hid (show ∀ w', Upd B.S V2 w' → w'.cell? ⟨kb, 0, none⟩ = some (.pointer (some ⟨B.b, 0, none⟩)) ∧ w'.cell? ⟨Y, 0, none⟩ = some (.int .i64 r1) ∧ w'.cell? ⟨Y, 1, none⟩ = some (.int .u32 r2) from fun w' u => by
      have b1 := u.keep HYD.out (KD.out.rf.notIn HYD.out (by decide))
      exact ⟨((KD.out.l.go KD.out.rf KD.out.ka KD.out.ha u).cells).1, cell_of b1 0, cell_of b1 1⟩)
    have hrg := rffound (KD.out.rf.upd0 ((Upd.refl _ _).drew)) (r1, r2) HR.out.wf
    obtain ⟨fb, hfb⟩ : ∃ x, s.fndB (r1, r2) = x := ⟨_, rfl⟩
    obtain ⟨fe, hfe⟩ : ∃ x, s.fndE (r1, r2) = x := ⟨_, rfl⟩
    obtain ⟨s2, hs2⟩ : ∃ s2, s.fndS (r1, r2) = s2 := ⟨_, rfl⟩
    rw [hfb, hfe, hs2] at hrg
    have HFB := Lib.hid hfb; have HFE := Lib.hid hfe; have HS2 := Lib.hid hs2; have HRG := Lib.hid hrg
    clear hfb hfe hs2 hrg hil hz HZ
    go_region_held3 (fun w' => w'.cell? ⟨kb, 0, none⟩ = some (.pointer (some ⟨B.b, 0, none⟩)) ∧ w'.cell? ⟨Y, 0, none⟩ = some (.int .i64 r1) ∧ w'.cell? ⟨Y, 1, none⟩ = some (.int .u32 r2)) (first | go_keep | exact ⟨c0, y0, y1⟩ | exact KK) (first | (go_at_call 15; refine HRG.out.mono ?_; rintro e w3 ⟨rfl, rf3, u3⟩; have u4 : Upd B.S V2 w3 := ((Upd.refl _ _).drew).trans u3; have KK := KEEP.out _ u4))
    have L3 := Lib.hid (KD.out.l.go KD.out.rf KD.out.ka KD.out.ha u4)
    have y0 : w3.cell? ⟨Y, 0, none⟩ = some (.int .i64 r1) := KK.2.1
    have y1 : w3.cell? ⟨Y, 1, none⟩ = some (.int .u32 r2) := KK.2.2
    have RF3 := Lib.hid rf3; have U3 := Lib.hid (UD.out.nil.trans u4)
    clear KK KEEP u3 u4 rf3 c0 HRG KD UD HYD HXD
    go_wp2_with fail
    clear y0 y1
    refine (by_at L3.out (r1, r2)).mono ?_; rintro e w4 ⟨rfl, u4⟩
    have L4 := Lib.hid (L3.out.upd0 u4); have R4 := Lib.hid (RF3.out.upd0 u4); have U4 := Lib.hid (U3.out.trans u4.nil)
    clear u4 L3 RF3 U3
    cases hb : s.byI (r1, r2) with
    | none =>
      have E2 := Lib.hid (show s2 = s from by rw [← HS2.out]; unfold Rs.fndS; rw [hb])
      obtain rfl : fb = false := by rw [← HFB.out]; unfold Rs.fndB; rw [hb]; rfl
      obtain rfl : fe = 0 := by rw [← HFE.out]; unfold Rs.fndE; rw [hb]; simp
      rw [show s.byR (r1, r2) = -1 from by unfold Rs.byR; rw [hb]]
      clear hb
      go_wp2_with fail
      go_ret
      exact ⟨v, rfl, by rw [HS2.out]; exact ⟨by rw [E2.out]; exact L4.out, R4.out, KA.out, HA.out⟩, U4.out.mono (fun x hx => by simp [hx])⟩
    | some j =>
      have hgj : s.g j = some (r1, r2) := byI_some (s := s.pt) hb
      have hjs : j < s.size := (HPK.out.good j _ hgj).1
      have hj256 : j < 256 := by omega
      obtain ⟨va, vc, rfl, hvc1, hvc2⟩ := L4.out.wait.form
      have k2 : w4.cell? ⟨kb, 2, none⟩ = some (.int .i64 s.places) := L4.out.cells.2.2.1
      have k4 : w4.cell? ⟨kb, 4, none⟩ = some (.slice va s.l.length vc) := L4.out.cells.2.2.2.2
      rw [show s.byR (r1, r2) = (j : Int) from by unfold Rs.byR; rw [hb]]
      by_cases hf : s.l.length = s.places
      · have E2 := Lib.hid (show s2 = s from by rw [← HS2.out]; unfold Rs.fndS; rw [hb]; exact if_pos hf)
        obtain rfl : fb = false := by rw [← HFB.out]; unfold Rs.fndB; rw [decide_eq_false (by simpa using hf)]; simp
        obtain rfl : fe = 4 := by rw [← HFE.out]; unfold Rs.fndE; rw [hb]; simp [hf]
        have hfd : ((s.l.length : Int) == (s.places : Int)) = true := by simp [hf]
        clear hb hgj hf
        go_wp2_with fail
        go_quiet (fail)
        go_wp2_with fail
        go_ret
        exact ⟨_, rfl, by rw [HS2.out]; exact (⟨by rw [E2.out]; exact L4.out, R4.out, KA.out, HA.out⟩ : KnAt _ _ _ _ _ _).upd0 ((Upd.refl _ _).drewN _), (U4.out.mono (fun x hx => by simp [hx])).drewN _⟩
      · have E2 : s2 = ⟨s.size, s.places, Go.Proofs.Ytmbkjnjfipafmaa.setG s.g j none, s.l ++ [(j : Int)]⟩ := by rw [← HS2.out]; unfold Rs.fndS; rw [hb]; exact if_neg hf
        subst E2
        obtain rfl : fb = true := by rw [← HFB.out]; unfold Rs.fndB; rw [hb]; simp [hf]
        obtain rfl : fe = 0 := by rw [← HFE.out]; unfold Rs.fndE; rw [if_neg (fun hh => hf hh.2)]
        have hfd : ((s.l.length : Int) == (s.places : Int)) = false := by simpa using (by omega : ¬ (s.l.length : Int) = (s.places : Int))
        clear hb hgj hf
        go_wp2_with fail
        go_quiet (fail)
        have L5 := Lib.hid (L4.out.upd0 ((Upd.refl _ _).drewN nq)); have R5 := Lib.hid (R4.out.upd0 ((Upd.refl _ _).drewN nq)); have U5 := Lib.hid ((U4.out.mono (T := kb :: h :: B.S) (fun x hx => by simp [hx])).drewN nq)
        clear L4 R4 U4 k2 k4
        generalize w4.drewN nq = w5 at *
        have k3 : w5.cell? ⟨kb, 3, none⟩ = some (.map (some h)) := L5.out.cells.2.2.2.1
        obtain ⟨w6, hrun, hh6, u6⟩ := L5.out.has.del j hj256 0
        have HRUN := Lib.hid hrun
        have b6 := u6.keep L5.out.blk (by simpa using KH.out)
        have hw6 := L5.out.wait.has L5.out.has u6
        have R6 := Lib.hid (R5.out.updA u6 (fun y hy => by simp; rintro rfl; exact HA.out hy))
        have U6 := Lib.hid (U5.out.trans (u6.mono (T := kb :: h :: B.S) (by simp)))
        have B6 := Lib.hid b6; have W6 := Lib.hid hw6; have H6 := Lib.hid hh6
        have k4 : w6.cell? ⟨kb, 4, none⟩ = some (.slice va s.l.length vc) := cell_of b6 4
        have kl := lt_of_block b6
        obtain ⟨i0, hii, hz0, hz1, hz2⟩ := info_parts info3
        clear hrun hh6 u6 b6 hw6
        have hS6 : SlAt (w6.alloc (.cells #[] 3)) 3 1 (.slice va s.l.length vc) s.l.length (s.l.map (Value.int .i64)) := W6.out.upd0 ((Upd.refl _ _).alloc _)
        have HS6 := Lib.hid hS6; clear hS6
        go_wp2_with (first | (at_delete; refine wpList_del rfl _ _ 31 3 rfl _ _ rfl rfl HRUN.out ?_) | (at_builtin; refine wpList_append_any _ rfl (.tmp 122) (.tmp 126) 27 rfl w6.heap.size 3 i0 (.int .i64 0) 1 8 Try.underlying27 hii hz0 hz1 hz2 rfl (by decide) _ 0 [] rfl (owns_lit0 w6 3 1) _ s.l.length _ rfl HS6.out ?c1 ?c2 ?c3 ?_))
        case c1 => unfold maxLen; omega
        case c2 => omega
        case c3 => simp
        intro g7 c7 w7 hown7 hgrow7
        have u7 : Upd [] w6 w7 := ((Upd.refl _ _).alloc _).grown hgrow7 (fun g hg => by simp [Value.ownBlock] at hg; omega)
        have U7 := Lib.hid u7
        have OWN7 := Lib.hid hown7
        clear hown7 hgrow7 k4 kl u7
        go_wp2_with (at_builtin; refine wpList_append_any _ rfl (.tmp 127) (.tmp 129) 27 rfl w6.heap.size 3 i0 (.int .i64 0) 1 8 Try.underlying27 hii hz0 hz1 hz2 rfl (by decide) _ s.l.length _ rfl (OWN7.out.alloc _) _ 1 [.int .i64 j] rfl (sl_lit1 _ _ _ _) ?c1 ?c2 ?c3 ?_)
        case c1 => unfold maxLen; omega
        case c2 => omega
        case c3 => simp; have := U7.out.size; omega
        intro g8 c8 w8 hown8 hgrow8
        have u8 : Upd [] w6 w8 := (U7.out.alloc _).grown hgrow8 (fun g hg => ((OWN7.out.alloc (.cells #[.int .i64 j] 3)).lt g hg).1)
        have b8 := u8.keep B6.out (by simp)
        have B8 := Lib.hid b8
        have U8 := Lib.hid u8
        have OWN8 := Lib.hid hown8
        have k4 : w8.cell? ⟨kb, 4, none⟩ = some (.slice va s.l.length vc) := cell_of b8 4
        have fr : w8.frozen? ⟨kb, 4, none⟩ = false := free_of b8 4
        clear hown8 hgrow8 u8 b8
        go_wp2_with fail
        go_ret
        have us : Upd [kb] w8 (w8.setCell ⟨kb, 4, none⟩ (.slice g8 (s.l.length + 1) c8)) := (Upd.refl [kb] w8).setCell (p := ⟨kb, 4, none⟩) (by simp) _
        have hI8 : Ints w8 (.slice g8 (s.l.length + 1) c8) (s.l ++ [(j : Int)]) := by
          have h1 := SlAt.ofOwn OWN8.out (by
            intro x hx
            simp only [List.mem_append, List.mem_map, List.mem_singleton] at hx
            rcases hx with ⟨y, -, rfl⟩ | rfl <;> rfl)
          have h2 : (s.l ++ [(j : Int)]).length = s.l.length + 1 := by simp
          unfold Ints
          rw [h2]
          simpa using h1
        have h9 : HasAt (w8.setCell ⟨kb, 4, none⟩ (.slice g8 (s.l.length + 1) c8)) h (Go.Proofs.Ytmbkjnjfipafmaa.setG s.g j none) := (H6.out.upd U8.out (by simp)).upd us (by simpa using fun e : h = kb => KH.out e.symm)
        have r9 := (R6.out.upd0 U8.out).updA us (fun y hy => by simp; rintro rfl; exact KA.out hy)
        refine ⟨.slice g8 (s.l.length + 1) c8, rfl, ?_, (U6.out.trans U8.out.nil).trans (us.mono (by simp))⟩
        rw [HS2.out]
        exact ⟨⟨set_of B8.out 4 _, h9, hI8.kb B8.out (by decide) us, r9.t.ok⟩, r9, KA.out, HA.out⟩

end Go.Proofs.Ytmbkjnjfipafmaa
