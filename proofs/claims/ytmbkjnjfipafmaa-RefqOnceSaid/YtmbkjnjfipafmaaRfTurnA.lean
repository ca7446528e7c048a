/-
  One turn of a known reference queue: register. Conditions: none.
-/
import Derived.Test.YtmbkjnjfipafmaaRfTurn
import Derived.Deep.DeepCutAuto
import Derived.Deep.CutBlock
namespace Go.Proofs.Ytmbkjnjfipafmaa
open Go.RowKit Go.Maps

set_option maxRecDepth 100000 in
set_option maxHeartbeats 4000000 in
theorem turn_reg0 {w : World} {kb : Nat} {B : RfB} {h : Nat} {v : Value} {s : Rs} (k : KnAt w kb B h v s) (kd a o : Nat) (hk : kd < 256) (ha : a < 256) (ho : o < 256) (hX : kd % 6 = 0) :
    Calls Try.prog 19 #[.pointer (some ⟨kb, 0, none⟩), .agg #[.int .u8 (kd : Int), .int .u8 (a : Int), .int .u8 (o : Int)]] w (TurnPost kb B h (s.regS' ((a % s.size : Nat) : Int) (objR o)) w) := by
  have hs := k.rf.szs
  obtain ⟨i, hi⟩ : ∃ i, a % s.size = i := ⟨_, rfl⟩
  have hil : i < s.size := by rw [← hi]; exact Nat.mod_lt _ (by omega)
  have hmod : Int.tmod (a : Int) (s.size : Int) = (i : Int) := by rw [Int.tmod_eq_emod_of_nonneg (by omega), ← hi]; rfl
  have hN0 : ((s.size : Int) == 0) = false := by simp; omega
  have hNz : (s.size : Int) ≠ 0 := by omega
  have hNz1 : ¬ s.size = 0 := by omega
  have hkk : Int.tmod (kd : Int) 6 = 0 := by rw [Int.tmod_eq_emod_of_nonneg (by omega)]; omega
  have hN2 : s.size ≤ 256 := hs.2.1
  have hP2 : s.places ≤ 64 := hs.2.2.2.1
  have hLl : s.l.length ≤ s.places := hs.2.2.2.2
  have hi256 : i < 256 := by omega
  try rw [hi]
  have KA := Lib.hid k.ka; have HA := Lib.hid k.ha; have KH := Lib.hid k.l.kh
  have HOK := Lib.hid k.rf.ok
  have HPK := Lib.hid k.rf.t.ok
  have u1 : Upd [] w (w.alloc (.cells #[.int .u8 (kd : Int), .int .u8 (a : Int), .int .u8 (o : Int)] 29)) := (Upd.refl _ _).alloc _
  have hXb := new_of w (.cells #[.int .u8 (kd : Int), .int .u8 (a : Int), .int .u8 (o : Int)] 29)
  have K := Lib.hid (k.upd0 u1)
  have HU := Lib.hid u1
  clear u1 k hi hX hs
  go_enter Try.func19, Try.ntmps19
  go_wp2_with fail
  generalize w.alloc (.cells #[.int .u8 (kd : Int), .int .u8 (a : Int), .int .u8 (o : Int)] 29) = V at *
  generalize w.heap.size = X at *
  have x1 : V.cell? ⟨X, 1, none⟩ = some (.int .u8 (a : Int)) := cell_of hXb 1
  have x2 : V.cell? ⟨X, 2, none⟩ = some (.int .u8 (o : Int)) := cell_of hXb 2
  have k1 : V.cell? ⟨kb, 1, none⟩ = some (.int .i64 s.size) := K.out.l.cells.2.1
  have hkl := K.out.l.lt
  have hXl := lt_of_block hXb
  have hXn : ¬ (V.heap.size = X) := by omega
  have hXn2 : ¬ (X = V.heap.size) := by omega
  have hkn : ¬ (V.heap.size = kb) := by omega
  have hkn2 : ¬ (kb = V.heap.size) := by omega
  have HX := Lib.hid hXb
  clear hXb
  have zR := zeroR
  have hwa : IntKind.i64.wrap ((a : Nat) : Int) = (a : Int) := IntWalk.i64_in _ (by omega)
  go_cut [5, 6] (fun x5 x6 wx => ∃ Y, x5 = .int .i64 i ∧ x6 = .pointer (some ⟨Y, 0, none⟩) ∧ wx.heap[Y]? = some (.cells #[.int .i64 (objR o).1, .int .u32 (objR o).2] 36 (0, 0)) ∧ Upd [] V wx)
  case first =>
    go_region_held3 (fun w' => w'.cell? ⟨X, 1, none⟩ = some (.int .u8 (a : Int)) ∧ w'.cell? ⟨X, 2, none⟩ = some (.int .u8 (o : Int)) ∧ w'.cell? ⟨kb, 1, none⟩ = some (.int .i64 s.size)) (first | go_keep | exact ⟨x1, x2, k1⟩) (first | (go_at_call 12; refine (object_at o _ ho).mono ?_; rintro e w3 ⟨rfl, u3⟩; have u4 : Upd [] V w3 := (((Upd.refl _ _).alloc (.cells #[.int .i64 0, .int .u32 0] 36)).drew).trans u3; have hY := u3.keep (drew_of (new_of V (.cells #[.int .i64 0, .int .u32 0] 36))) (by simp); have hX3 := u4.keep HX.out (by simp); have hK3 := u4.keep K.out.l.blk (by simp); have x1 := cell_of hX3 1; have x2 := cell_of hX3 2; have k1 := cell_of hK3 1; have y0 := cell_of hY 0; have y1 := cell_of hY 1; have yf0 : w3.frozen? ⟨V.heap.size, 0, none⟩ = false := free_of hY 0; have yf1 : w3.frozen? ⟨V.heap.size, 1, none⟩ = false := free_of hY 1) | (go_at_call 12; refine (object_at o _ ho).mono ?_; rintro e w3 ⟨rfl, u3⟩; have u4 : Upd [] V w3 := ((Upd.refl _ _).drew).trans u3; have hX3 := u4.keep HX.out (by simp); have hK3 := u4.keep K.out.l.blk (by simp); have x1 := cell_of hX3 1; have x2 := cell_of hX3 2; have k1 := cell_of hK3 1))
    all_goals
      go_wp2_with fail
      go_meet
      case rel =>
        first
        | exact ⟨_, rfl, rfl, new_of _ _, u4.alloc _⟩
        | exact ⟨_, rfl, rfl, set_of (set_of hY 0 _) 1 _, (u4.setNew (Nat.le_refl _) _).setNew (Nat.le_refl _) _⟩
  case rest =>
    obtain ⟨Y, rfl, rfl, hY, uc⟩ := hcut
    clear hXn hXn2 hkn hkn2 hXl hkl x1 x2 k1 hmod hN0 hNz hNz1 zR hwa
    have HY := Lib.hid hY
    have UC := Lib.hid (HU.out.trans uc)
    have KC := Lib.hid (K.out.upd0 uc)
    have x0 : (_ : World).cell? ⟨X, 0, none⟩ = some (.int .u8 (kd : Int)) := cell_of (uc.keep HX.out (by simp)) 0
    have k3 : (_ : World).cell? ⟨kb, 3, none⟩ = some (.map (some h)) := KC.out.l.cells.2.2.2.1
    have k0 : (_ : World).cell? ⟨kb, 0, none⟩ = some (.pointer (some ⟨B.b, 0, none⟩)) := KC.out.l.cells.1
    have kl := KC.out.l.lt
    have xl := lt_of_block (uc.keep HX.out (by simp))
    have Q := KC.out.l.has.look i hi256
    obtain ⟨⟨o1, o2⟩, hold⟩ : ∃ x : Rf, (s.g i).getD (0, 0) = x := ⟨_, rfl⟩
    obtain ⟨z, hz⟩ : ∃ z, (s.g i).isSome = z := ⟨_, rfl⟩
    rw [hold, hz] at Q
    unfold refV at Q
    dsimp only at Q
    have QQ := Lib.hid Q; have HZ := Lib.hid hz
    have HR := Lib.hid (objR_good o)
    generalize objR o = r at *
    obtain ⟨r1, r2⟩ := r
    dsimp only at hY HY
    have HXC := Lib.hid (uc.keep HX.out (by simp))
    have ul : Upd [] wc (wc.alloc (.cells #[.int .i64 o1, .int .u32 o2] 36)) := (Upd.refl _ _).alloc _
    have KD := Lib.hid (KC.out.upd0 ul); have UD := Lib.hid (UC.out.trans ul); have HYD := Lib.hid (ul.keep HY.out (by simp))
    have HXD := Lib.hid (ul.keep HXC.out (by simp))
    clear Q hold hY uc ul KC K HX HXC HY UC HU
    go_wp2_with (at_lookup; refine wpList_look rfl _ _ 31 rfl _ _ _ rfl rfl QQ.out ?_)
    clear x0 k0 kl k3 xl QQ
    generalize wc.alloc (.cells #[.int .i64 o1, .int .u32 o2] 36) = V2 at *
    have c0 : V2.cell? ⟨kb, 0, none⟩ = some (.pointer (some ⟨B.b, 0, none⟩)) := KD.out.l.cells.1
    have y0 : V2.cell? ⟨Y, 0, none⟩ = some (.int .i64 r1) := cell_of HYD.out 0
    have y1 : V2.cell? ⟨Y, 1, none⟩ = some (.int .u32 r2) := cell_of HYD.out 1
    have KEEP := Lib.hid (show ∀ w', Upd B.S V2 w' → w'.cell? ⟨kb, 0, none⟩ = some (.pointer (some ⟨B.b, 0, none⟩)) ∧ w'.cell? ⟨Y, 0, none⟩ = some (.int .i64 r1) ∧ w'.cell? ⟨Y, 1, none⟩ = some (.int .u32 r2) from fun w' u => by
      have b1 := u.keep HYD.out (KD.out.rf.notIn HYD.out (by decide))
      exact ⟨((KD.out.l.go KD.out.rf KD.out.ka KD.out.ha u).cells).1, cell_of b1 0, cell_of b1 1⟩)
    have hrg := rfreg (KD.out.rf.upd0 ((Upd.refl _ _).drew)) (i : Int) (r1, r2) HR.out.wf
    obtain ⟨x, hx⟩ : ∃ x, s.regE' i (r1, r2) = x := ⟨_, rfl⟩
    obtain ⟨s2, hs2⟩ : ∃ s2, s.regS' i (r1, r2) = s2 := ⟨_, rfl⟩
    have hE : s.regE' i (r1, r2) = if (s.byI (r1, r2)).isSome = true ∨ s.cl i ≠ 0 then 6 else 0 := by
      unfold Rs.regE'; rw [if_pos ⟨by omega, by omega⟩, Int.toNat_natCast]; unfold Rs.regE; rw [if_pos HR.out]
    have hS : s.regS' i (r1, r2) = if x = 0 then s.setG i (some (r1, r2)) else s := by
      have hin : 0 ≤ (i : Int) ∧ (i : Int) < (s.size : Int) := ⟨by omega, by omega⟩
      rw [← hx]; unfold Rs.regS' Rs.regE'; rw [if_pos hin, if_pos hin, Int.toNat_natCast]; rfl
    rw [hx] at hE
    rw [hs2] at hS
    rw [hx, hs2] at hrg
    have HE := Lib.hid hE; have HS := Lib.hid hS; have HRG := Lib.hid hrg
    have HS2 := Lib.hid hs2
    clear hE hS hrg hx hs2
    go_region_held3 (fun w' => w'.cell? ⟨kb, 0, none⟩ = some (.pointer (some ⟨B.b, 0, none⟩)) ∧ w'.cell? ⟨Y, 0, none⟩ = some (.int .i64 r1) ∧ w'.cell? ⟨Y, 1, none⟩ = some (.int .u32 r2)) (first | go_keep | exact ⟨c0, y0, y1⟩ | exact KK) (first | (go_at_call 13; refine HRG.out.mono ?_; rintro e w3 ⟨rfl, rf3, u3⟩; have u4 : Upd B.S V2 w3 := ((Upd.refl _ _).drew).trans u3; have KK := KEEP.out _ u4))
    have L3 := Lib.hid (KD.out.l.go KD.out.rf KD.out.ka KD.out.ha u4)
    have Y3 := Lib.hid (u4.keep HYD.out (KD.out.rf.notIn HYD.out (by decide)))
    have RF3 := Lib.hid rf3; have U3 := Lib.hid (UD.out.nil.trans u4)
    clear KK KEEP u3 u4 rf3 c0 y0 y1 HRG KD UD HYD HXD
    have hc6 : ∀ hh : (s.byI (r1, r2)).isSome = true ∨ s.cl i ≠ 0, x = 6 ∧ s2 = s := fun hh => by
      have h1 := HE.out; have h2 := HS.out
      rw [if_pos hh] at h1
      rw [h1, if_neg (by decide)] at h2
      exact ⟨h1, h2⟩
    have HC6 := Lib.hid hc6; clear hc6
    cases z with
    | true =>
      have hcl : s.cl i ≠ 0 := by unfold Rs.cl; rw [if_pos (.inl HZ.out)]; decide
      obtain ⟨rfl, e2⟩ := HC6.out (.inr hcl)
      have E2 := Lib.hid e2
      clear hcl e2
      go_wp2_with fail
      go_ret
      exact ⟨v, rfl, by rw [HS2.out]; exact ⟨by rw [E2.out]; exact L3.out, RF3.out, KA.out, HA.out⟩, U3.out.mono (fun x hx => by simp [hx])⟩
    | false =>
      have hgi : s.g i = none := by cases hg : s.g i with
        | none => rfl
        | some y => have := HZ.out; rw [hg] at this; simp at this
      have HGI := Lib.hid hgi; clear hgi
      go_wp2_with fail
      refine (waits_at L3.out (i : Int)).mono ?_; rintro e w4 ⟨rfl, u4⟩
      have L4 := Lib.hid (L3.out.upd0 u4); have R4 := Lib.hid (RF3.out.upd0 u4); have U4 := Lib.hid (U3.out.trans u4.nil); have Y4 := Lib.hid (u4.keep Y3.out (by simp))
      clear u4
      by_cases hm : (i : Int) ∈ s.l
      · obtain ⟨j, hj, -, -⟩ := fndI_in hm
        have hcl : s.cl i ≠ 0 := by unfold Rs.cl; rw [if_pos (.inr hm)]; decide
        obtain ⟨rfl, e2⟩ := HC6.out (.inr hcl)
        have E2 := Lib.hid e2
        rw [hj]
        clear hcl e2 hj hm
        go_wp2_with fail
        go_ret
        exact ⟨v, rfl, by rw [HS2.out]; exact ⟨by rw [E2.out]; exact L4.out, R4.out, KA.out, HA.out⟩, U4.out.mono (fun x hx => by simp [hx])⟩
      · rw [fndI_out hm]
        have HM := Lib.hid hm; clear hm
        have y0 : w4.cell? ⟨Y, 0, none⟩ = some (.int .i64 r1) := cell_of Y4.out 0
        have y1 : w4.cell? ⟨Y, 1, none⟩ = some (.int .u32 r2) := cell_of Y4.out 1
        go_wp2_with fail
        clear y0 y1
        refine (by_at L4.out (r1, r2)).mono ?_; rintro e w5 ⟨rfl, u5⟩
        have L5 := Lib.hid (L4.out.upd0 u5); have R5 := Lib.hid (R4.out.upd0 u5); have U5 := Lib.hid (U4.out.trans u5.nil); have Y5 := Lib.hid (u5.keep Y4.out (by simp))
        clear u5
        cases hb : s.byI (r1, r2) with
        | some j =>
          obtain ⟨rfl, e2⟩ := HC6.out (.inl (by rw [hb]; rfl))
          have E2 := Lib.hid e2
          rw [show s.byR (r1, r2) = (j : Int) from by unfold Rs.byR; rw [hb]]
          clear e2 hb
          go_wp2_with fail
          go_ret
          exact ⟨v, rfl, by rw [HS2.out]; exact ⟨by rw [E2.out]; exact L5.out, R5.out, KA.out, HA.out⟩, U5.out.mono (fun x hx => by simp [hx])⟩
        | none =>
          rw [show s.byR (r1, r2) = -1 from by unfold Rs.byR; rw [hb]]
          have hcl : s.cl i = 0 := by
            unfold Rs.cl; rw [if_neg]; rw [HGI.out]; simp; exact HM.out
          obtain rfl : x = 0 := by rw [HE.out, hb, hcl]; simp
          have E2 : s2 = s.setG i (some (r1, r2)) := by rw [HS.out, if_pos rfl]
          subst E2
          clear hb hcl
          have k3 : w5.cell? ⟨kb, 3, none⟩ = some (.map (some h)) := L5.out.cells.2.2.2.1
          have y0 : w5.cell? ⟨Y, 0, none⟩ = some (.int .i64 r1) := cell_of Y5.out 0
          have y1 : w5.cell? ⟨Y, 1, none⟩ = some (.int .u32 r2) := cell_of Y5.out 1
          obtain ⟨w6, hrun, hh6, u6⟩ := (L5.out.has.upd ((Upd.refl [] w5).drew) (by simp)).put i (r1, r2) hi256
          dsimp only at hrun
          have u7 : Upd [h] w5 w6 := ((Upd.refl _ _).drew).trans u6
          have L6 := Lib.hid (show KnL w6 kb B.b h v (s.setG i (some (r1, r2))) from ⟨u7.keep L5.out.blk (by simpa using KH.out), hh6, L5.out.wait.has L5.out.has u7, R5.out.t.ok⟩)
          have R6 := Lib.hid (R5.out.updA u7 (fun y hy => by simp; rintro rfl; exact HA.out hy))
          have U6 := Lib.hid ((U5.out.mono (T := kb :: h :: B.S) (fun x hx => by simp [hx])).trans (u7.mono (T := kb :: h :: B.S) (by simp)))
          clear hh6 u6 u7
          go_wp2_with fail
          go_region
          go_wp2_with fail
          go_ret
          exact ⟨v, rfl, by rw [HS2.out]; exact ⟨L6.out, R6.out, KA.out, HA.out⟩, U6.out⟩
set_option maxRecDepth 100000 in
set_option maxHeartbeats 4000000 in
theorem turn_reg1 {w : World} {kb : Nat} {B : RfB} {h : Nat} {v : Value} {s : Rs} (k : KnAt w kb B h v s) (kd a o : Nat) (hk : kd < 256) (ha : a < 256) (ho : o < 256) (hX : kd % 6 = 1) :
    Calls Try.prog 19 #[.pointer (some ⟨kb, 0, none⟩), .agg #[.int .u8 (kd : Int), .int .u8 (a : Int), .int .u8 (o : Int)]] w (TurnPost kb B h (s.regS' ((a % s.size : Nat) : Int) (objR o)) w) := by
  have hs := k.rf.szs
  obtain ⟨i, hi⟩ : ∃ i, a % s.size = i := ⟨_, rfl⟩
  have hil : i < s.size := by rw [← hi]; exact Nat.mod_lt _ (by omega)
  have hmod : Int.tmod (a : Int) (s.size : Int) = (i : Int) := by rw [Int.tmod_eq_emod_of_nonneg (by omega), ← hi]; rfl
  have hN0 : ((s.size : Int) == 0) = false := by simp; omega
  have hNz : (s.size : Int) ≠ 0 := by omega
  have hNz1 : ¬ s.size = 0 := by omega
  have hkk : Int.tmod (kd : Int) 6 = 1 := by rw [Int.tmod_eq_emod_of_nonneg (by omega)]; omega
  have hN2 : s.size ≤ 256 := hs.2.1
  have hP2 : s.places ≤ 64 := hs.2.2.2.1
  have hLl : s.l.length ≤ s.places := hs.2.2.2.2
  have hi256 : i < 256 := by omega
  try rw [hi]
  have KA := Lib.hid k.ka; have HA := Lib.hid k.ha; have KH := Lib.hid k.l.kh
  have HOK := Lib.hid k.rf.ok
  have HPK := Lib.hid k.rf.t.ok
  have u1 : Upd [] w (w.alloc (.cells #[.int .u8 (kd : Int), .int .u8 (a : Int), .int .u8 (o : Int)] 29)) := (Upd.refl _ _).alloc _
  have hXb := new_of w (.cells #[.int .u8 (kd : Int), .int .u8 (a : Int), .int .u8 (o : Int)] 29)
  have K := Lib.hid (k.upd0 u1)
  have HU := Lib.hid u1
  clear u1 k hi hX hs
  go_enter Try.func19, Try.ntmps19
  go_wp2_with fail
  generalize w.alloc (.cells #[.int .u8 (kd : Int), .int .u8 (a : Int), .int .u8 (o : Int)] 29) = V at *
  generalize w.heap.size = X at *
  have x1 : V.cell? ⟨X, 1, none⟩ = some (.int .u8 (a : Int)) := cell_of hXb 1
  have x2 : V.cell? ⟨X, 2, none⟩ = some (.int .u8 (o : Int)) := cell_of hXb 2
  have k1 : V.cell? ⟨kb, 1, none⟩ = some (.int .i64 s.size) := K.out.l.cells.2.1
  have hkl := K.out.l.lt
  have hXl := lt_of_block hXb
  have hXn : ¬ (V.heap.size = X) := by omega
  have hXn2 : ¬ (X = V.heap.size) := by omega
  have hkn : ¬ (V.heap.size = kb) := by omega
  have hkn2 : ¬ (kb = V.heap.size) := by omega
  have HX := Lib.hid hXb
  clear hXb
  have zR := zeroR
  have hwa : IntKind.i64.wrap ((a : Nat) : Int) = (a : Int) := IntWalk.i64_in _ (by omega)
  go_cut [5, 6] (fun x5 x6 wx => ∃ Y, x5 = .int .i64 i ∧ x6 = .pointer (some ⟨Y, 0, none⟩) ∧ wx.heap[Y]? = some (.cells #[.int .i64 (objR o).1, .int .u32 (objR o).2] 36 (0, 0)) ∧ Upd [] V wx)
  case first =>
    go_region_held3 (fun w' => w'.cell? ⟨X, 1, none⟩ = some (.int .u8 (a : Int)) ∧ w'.cell? ⟨X, 2, none⟩ = some (.int .u8 (o : Int)) ∧ w'.cell? ⟨kb, 1, none⟩ = some (.int .i64 s.size)) (first | go_keep | exact ⟨x1, x2, k1⟩) (first | (go_at_call 12; refine (object_at o _ ho).mono ?_; rintro e w3 ⟨rfl, u3⟩; have u4 : Upd [] V w3 := (((Upd.refl _ _).alloc (.cells #[.int .i64 0, .int .u32 0] 36)).drew).trans u3; have hY := u3.keep (drew_of (new_of V (.cells #[.int .i64 0, .int .u32 0] 36))) (by simp); have hX3 := u4.keep HX.out (by simp); have hK3 := u4.keep K.out.l.blk (by simp); have x1 := cell_of hX3 1; have x2 := cell_of hX3 2; have k1 := cell_of hK3 1; have y0 := cell_of hY 0; have y1 := cell_of hY 1; have yf0 : w3.frozen? ⟨V.heap.size, 0, none⟩ = false := free_of hY 0; have yf1 : w3.frozen? ⟨V.heap.size, 1, none⟩ = false := free_of hY 1) | (go_at_call 12; refine (object_at o _ ho).mono ?_; rintro e w3 ⟨rfl, u3⟩; have u4 : Upd [] V w3 := ((Upd.refl _ _).drew).trans u3; have hX3 := u4.keep HX.out (by simp); have hK3 := u4.keep K.out.l.blk (by simp); have x1 := cell_of hX3 1; have x2 := cell_of hX3 2; have k1 := cell_of hK3 1))
    all_goals
      go_wp2_with fail
      go_meet
      case rel =>
        first
        | exact ⟨_, rfl, rfl, new_of _ _, u4.alloc _⟩
        | exact ⟨_, rfl, rfl, set_of (set_of hY 0 _) 1 _, (u4.setNew (Nat.le_refl _) _).setNew (Nat.le_refl _) _⟩
  case rest =>
    obtain ⟨Y, rfl, rfl, hY, uc⟩ := hcut
    clear hXn hXn2 hkn hkn2 hXl hkl x1 x2 k1 hmod hN0 hNz hNz1 zR hwa
    have HY := Lib.hid hY
    have UC := Lib.hid (HU.out.trans uc)
    have KC := Lib.hid (K.out.upd0 uc)
    have x0 : (_ : World).cell? ⟨X, 0, none⟩ = some (.int .u8 (kd : Int)) := cell_of (uc.keep HX.out (by simp)) 0
    have k3 : (_ : World).cell? ⟨kb, 3, none⟩ = some (.map (some h)) := KC.out.l.cells.2.2.2.1
    have k0 : (_ : World).cell? ⟨kb, 0, none⟩ = some (.pointer (some ⟨B.b, 0, none⟩)) := KC.out.l.cells.1
    have kl := KC.out.l.lt
    have xl := lt_of_block (uc.keep HX.out (by simp))
    have Q := KC.out.l.has.look i hi256
    obtain ⟨⟨o1, o2⟩, hold⟩ : ∃ x : Rf, (s.g i).getD (0, 0) = x := ⟨_, rfl⟩
    obtain ⟨z, hz⟩ : ∃ z, (s.g i).isSome = z := ⟨_, rfl⟩
    rw [hold, hz] at Q
    unfold refV at Q
    dsimp only at Q
    have QQ := Lib.hid Q; have HZ := Lib.hid hz
    have HR := Lib.hid (objR_good o)
    generalize objR o = r at *
    obtain ⟨r1, r2⟩ := r
    dsimp only at hY HY
    have HXC := Lib.hid (uc.keep HX.out (by simp))
    have ul : Upd [] wc (wc.alloc (.cells #[.int .i64 o1, .int .u32 o2] 36)) := (Upd.refl _ _).alloc _
    have KD := Lib.hid (KC.out.upd0 ul); have UD := Lib.hid (UC.out.trans ul); have HYD := Lib.hid (ul.keep HY.out (by simp))
    have HXD := Lib.hid (ul.keep HXC.out (by simp))
    clear Q hold hY uc ul KC K HX HXC HY UC HU
    go_wp2_with (at_lookup; refine wpList_look rfl _ _ 31 rfl _ _ _ rfl rfl QQ.out ?_)
    clear x0 k0 kl k3 xl QQ
    generalize wc.alloc (.cells #[.int .i64 o1, .int .u32 o2] 36) = V2 at *
    have c0 : V2.cell? ⟨kb, 0, none⟩ = some (.pointer (some ⟨B.b, 0, none⟩)) := KD.out.l.cells.1
    have y0 : V2.cell? ⟨Y, 0, none⟩ = some (.int .i64 r1) := cell_of HYD.out 0
    have y1 : V2.cell? ⟨Y, 1, none⟩ = some (.int .u32 r2) := cell_of HYD.out 1
    have KEEP := Lib.hid (show ∀ w', Upd B.S V2 w' → w'.cell? ⟨kb, 0, none⟩ = some (.pointer (some ⟨B.b, 0, none⟩)) ∧ w'.cell? ⟨Y, 0, none⟩ = some (.int .i64 r1) ∧ w'.cell? ⟨Y, 1, none⟩ = some (.int .u32 r2) from fun w' u => by
      have b1 := u.keep HYD.out (KD.out.rf.notIn HYD.out (by decide))
      exact ⟨((KD.out.l.go KD.out.rf KD.out.ka KD.out.ha u).cells).1, cell_of b1 0, cell_of b1 1⟩)
    have hrg := rfreg (KD.out.rf.upd0 ((Upd.refl _ _).drew)) (i : Int) (r1, r2) HR.out.wf
    obtain ⟨x, hx⟩ : ∃ x, s.regE' i (r1, r2) = x := ⟨_, rfl⟩
    obtain ⟨s2, hs2⟩ : ∃ s2, s.regS' i (r1, r2) = s2 := ⟨_, rfl⟩
    have hE : s.regE' i (r1, r2) = if (s.byI (r1, r2)).isSome = true ∨ s.cl i ≠ 0 then 6 else 0 := by
      unfold Rs.regE'; rw [if_pos ⟨by omega, by omega⟩, Int.toNat_natCast]; unfold Rs.regE; rw [if_pos HR.out]
    have hS : s.regS' i (r1, r2) = if x = 0 then s.setG i (some (r1, r2)) else s := by
      have hin : 0 ≤ (i : Int) ∧ (i : Int) < (s.size : Int) := ⟨by omega, by omega⟩
      rw [← hx]; unfold Rs.regS' Rs.regE'; rw [if_pos hin, if_pos hin, Int.toNat_natCast]; rfl
    rw [hx] at hE
    rw [hs2] at hS
    rw [hx, hs2] at hrg
    have HE := Lib.hid hE; have HS := Lib.hid hS; have HRG := Lib.hid hrg
    have HS2 := Lib.hid hs2
    clear hE hS hrg hx hs2
    go_region_held3 (fun w' => w'.cell? ⟨kb, 0, none⟩ = some (.pointer (some ⟨B.b, 0, none⟩)) ∧ w'.cell? ⟨Y, 0, none⟩ = some (.int .i64 r1) ∧ w'.cell? ⟨Y, 1, none⟩ = some (.int .u32 r2)) (first | go_keep | exact ⟨c0, y0, y1⟩ | exact KK) (first | (go_at_call 13; refine HRG.out.mono ?_; rintro e w3 ⟨rfl, rf3, u3⟩; have u4 : Upd B.S V2 w3 := ((Upd.refl _ _).drew).trans u3; have KK := KEEP.out _ u4))
    have L3 := Lib.hid (KD.out.l.go KD.out.rf KD.out.ka KD.out.ha u4)
    have Y3 := Lib.hid (u4.keep HYD.out (KD.out.rf.notIn HYD.out (by decide)))
    have RF3 := Lib.hid rf3; have U3 := Lib.hid (UD.out.nil.trans u4)
    clear KK KEEP u3 u4 rf3 c0 y0 y1 HRG KD UD HYD HXD
    have hc6 : ∀ hh : (s.byI (r1, r2)).isSome = true ∨ s.cl i ≠ 0, x = 6 ∧ s2 = s := fun hh => by
      have h1 := HE.out; have h2 := HS.out
      rw [if_pos hh] at h1
      rw [h1, if_neg (by decide)] at h2
      exact ⟨h1, h2⟩
    have HC6 := Lib.hid hc6; clear hc6
    cases z with
    | true =>
      have hcl : s.cl i ≠ 0 := by unfold Rs.cl; rw [if_pos (.inl HZ.out)]; decide
      obtain ⟨rfl, e2⟩ := HC6.out (.inr hcl)
      have E2 := Lib.hid e2
      clear hcl e2
      go_wp2_with fail
      go_ret
      exact ⟨v, rfl, by rw [HS2.out]; exact ⟨by rw [E2.out]; exact L3.out, RF3.out, KA.out, HA.out⟩, U3.out.mono (fun x hx => by simp [hx])⟩
    | false =>
      have hgi : s.g i = none := by cases hg : s.g i with
        | none => rfl
        | some y => have := HZ.out; rw [hg] at this; simp at this
      have HGI := Lib.hid hgi; clear hgi
      go_wp2_with fail
      refine (waits_at L3.out (i : Int)).mono ?_; rintro e w4 ⟨rfl, u4⟩
      have L4 := Lib.hid (L3.out.upd0 u4); have R4 := Lib.hid (RF3.out.upd0 u4); have U4 := Lib.hid (U3.out.trans u4.nil); have Y4 := Lib.hid (u4.keep Y3.out (by simp))
      clear u4
      by_cases hm : (i : Int) ∈ s.l
      · obtain ⟨j, hj, -, -⟩ := fndI_in hm
        have hcl : s.cl i ≠ 0 := by unfold Rs.cl; rw [if_pos (.inr hm)]; decide
        obtain ⟨rfl, e2⟩ := HC6.out (.inr hcl)
        have E2 := Lib.hid e2
        rw [hj]
        clear hcl e2 hj hm
        go_wp2_with fail
        go_ret
        exact ⟨v, rfl, by rw [HS2.out]; exact ⟨by rw [E2.out]; exact L4.out, R4.out, KA.out, HA.out⟩, U4.out.mono (fun x hx => by simp [hx])⟩
      · rw [fndI_out hm]
        have HM := Lib.hid hm; clear hm
        have y0 : w4.cell? ⟨Y, 0, none⟩ = some (.int .i64 r1) := cell_of Y4.out 0
        have y1 : w4.cell? ⟨Y, 1, none⟩ = some (.int .u32 r2) := cell_of Y4.out 1
        go_wp2_with fail
        clear y0 y1
        refine (by_at L4.out (r1, r2)).mono ?_; rintro e w5 ⟨rfl, u5⟩
        have L5 := Lib.hid (L4.out.upd0 u5); have R5 := Lib.hid (R4.out.upd0 u5); have U5 := Lib.hid (U4.out.trans u5.nil); have Y5 := Lib.hid (u5.keep Y4.out (by simp))
        clear u5
        cases hb : s.byI (r1, r2) with
        | some j =>
          obtain ⟨rfl, e2⟩ := HC6.out (.inl (by rw [hb]; rfl))
          have E2 := Lib.hid e2
          rw [show s.byR (r1, r2) = (j : Int) from by unfold Rs.byR; rw [hb]]
          clear e2 hb
          go_wp2_with fail
          go_ret
          exact ⟨v, rfl, by rw [HS2.out]; exact ⟨by rw [E2.out]; exact L5.out, R5.out, KA.out, HA.out⟩, U5.out.mono (fun x hx => by simp [hx])⟩
        | none =>
          rw [show s.byR (r1, r2) = -1 from by unfold Rs.byR; rw [hb]]
          have hcl : s.cl i = 0 := by
            unfold Rs.cl; rw [if_neg]; rw [HGI.out]; simp; exact HM.out
          obtain rfl : x = 0 := by rw [HE.out, hb, hcl]; simp
          have E2 : s2 = s.setG i (some (r1, r2)) := by rw [HS.out, if_pos rfl]
          subst E2
          clear hb hcl
          have k3 : w5.cell? ⟨kb, 3, none⟩ = some (.map (some h)) := L5.out.cells.2.2.2.1
          have y0 : w5.cell? ⟨Y, 0, none⟩ = some (.int .i64 r1) := cell_of Y5.out 0
          have y1 : w5.cell? ⟨Y, 1, none⟩ = some (.int .u32 r2) := cell_of Y5.out 1
          obtain ⟨w6, hrun, hh6, u6⟩ := (L5.out.has.upd ((Upd.refl [] w5).drew) (by simp)).put i (r1, r2) hi256
          dsimp only at hrun
          have u7 : Upd [h] w5 w6 := ((Upd.refl _ _).drew).trans u6
          have L6 := Lib.hid (show KnL w6 kb B.b h v (s.setG i (some (r1, r2))) from ⟨u7.keep L5.out.blk (by simpa using KH.out), hh6, L5.out.wait.has L5.out.has u7, R5.out.t.ok⟩)
          have R6 := Lib.hid (R5.out.updA u7 (fun y hy => by simp; rintro rfl; exact HA.out hy))
          have U6 := Lib.hid ((U5.out.mono (T := kb :: h :: B.S) (fun x hx => by simp [hx])).trans (u7.mono (T := kb :: h :: B.S) (by simp)))
          clear hh6 u6 u7
          go_wp2_with fail
          go_region
          go_wp2_with fail
          go_ret
          exact ⟨v, rfl, by rw [HS2.out]; exact ⟨L6.out, R6.out, KA.out, HA.out⟩, U6.out⟩

end Go.Proofs.Ytmbkjnjfipafmaa
