/-
  A known reference queue: it agrees. Conditions: none.
-/
import Derived.Test.YtmbkjnjfipafmaaRfAgree
import Derived.BigFrame
namespace Go.Proofs.Ytmbkjnjfipafmaa
open Go.RowKit Go.Maps

set_option maxRecDepth 100000 in
set_option maxHeartbeats 4000000 in
theorem agrees_ok {w : World} {kb : Nat} {B : RfB} {h : Nat} {v : Value} {s : Rs} (k : KnAt w kb B h v s) :
    Calls Try.prog 20 #[.pointer (some ⟨kb, 0, none⟩)] w fun e w' => e = .returned (.bool true) ∧ Upd [] w w' := by
  obtain ⟨va, vc, rfl, hvc1, hvc2⟩ := k.l.wait.form
  have hs := k.rf.szs
  have hP2 : s.places ≤ 64 := hs.2.2.2.1
  have hLl : s.l.length ≤ s.places := hs.2.2.2.2
  have hN2 : s.size ≤ 256 := hs.2.1
  have K := Lib.hid k
  have c0 := k.l.cells.1
  clear k hs
  go_enter Try.func20, Try.ntmps20
  go_wp2_with fail
  refine (rfwaiting K.out.rf).mono ?_; rintro e w1 ⟨v1, rfl, ⟨hsl, -⟩, u1⟩
  have hI : Ints w1 v1 s.l := hsl
  obtain ⟨wa, wc, rfl, hwc1, hwc2⟩ := hI.form
  have I1 := Lib.hid hI
  have K1 := Lib.hid (K.out.upd0 u1)
  have U1 := Lib.hid u1
  clear hI hsl u1 c0 K
  go_wp2_with fail
  obtain ⟨C, hC⟩ : ∃ C, cardG s.g = C := ⟨_, rfl⟩
  have HC := Lib.hid hC; clear hC
  obtain ⟨c0, -, c2, c3, c4⟩ := K1.out.l.cells
  have KEEP := Lib.hid (show ∀ w', Upd [] w1 w' → w'.cell? ⟨kb, 0, none⟩ = some (.pointer (some ⟨B.b, 0, none⟩)) ∧ w'.cell? ⟨kb, 2, none⟩ = some (.int .i64 s.places) ∧ w'.cell? ⟨kb, 3, none⟩ = some (.map (some h)) ∧ w'.cell? ⟨kb, 4, none⟩ = some (.slice va s.l.length vc) ∧ (∀ ty, (Builtin.len_ #[31] ty #[.map (some h)]).run Try.prog w' = .ok (.int .i64 (C : Int)) w') from fun w' u => by
    obtain ⟨a, -, b, c, d⟩ := (K1.out.l.upd0 u).cells
    exact ⟨a, b, c, d, fun ty => by rw [← HC.out]; exact (K1.out.l.upd0 u).has.len _⟩)
  have D1 := Lib.hid (K1.out.upd0 ((Upd.refl _ _).drew))
  obtain ⟨E, hE⟩ : ∃ E, s.places - s.l.length = E := ⟨_, rfl⟩
  have hsub : IntKind.i64.wrap ((s.places : Int) - (s.l.length : Int)) = (E : Int) := by rw [IntWalk.i64_in _ (by omega)]; omega
  have HE := Lib.hid hE; clear hE
  have hb1 : ((s.l.length : Int) != (s.l.length : Int)) = false := by simp
  have hb2 : ((C : Int) != (C : Int)) = false := by simp
  have hb3 : ((E : Int) != (E : Int)) = false := by simp
  clear hP2 hLl hN2
  have hlen : ∀ ty, (Builtin.len_ #[31] ty #[.map (some h)]).run Try.prog w1.drew = .ok (.int .i64 (C : Int)) w1.drew := fun ty => by rw [← HC.out]; exact D1.out.l.has.len _
  go_region_held3 (fun w' => w'.cell? ⟨kb, 0, none⟩ = some (.pointer (some ⟨B.b, 0, none⟩)) ∧ w'.cell? ⟨kb, 2, none⟩ = some (.int .i64 s.places) ∧ w'.cell? ⟨kb, 3, none⟩ = some (.map (some h)) ∧ w'.cell? ⟨kb, 4, none⟩ = some (.slice va s.l.length vc) ∧ (∀ ty, (Builtin.len_ #[31] ty #[.map (some h)]).run Try.prog w' = .ok (.int .i64 (C : Int)) w')) (first | exact ⟨c0, c2, c3, c4, hlen⟩ | exact KK) (first | (go_at_call 23; refine (rflen D1.out.rf).mono ?_; rw [HC.out]; rintro e w' ⟨rfl, rfl⟩) | (go_at_call 22; refine (rfroom D1.out.rf).mono ?_; rw [HE.out]; rintro e w2 ⟨rfl, u2⟩; have u3 : Upd [] w1 w2 := ((Upd.refl _ _).drew).trans u2; have KK := KEEP.out _ u3))
  have K2 := Lib.hid (K1.out.upd0 u3); have I2 := Lib.hid (I1.out.upd0 u3); have U2 := Lib.hid (U1.out.trans u3)
  clear KK KEEP u3 u2 c0 c2 c3 c4 hlen hsub hb2 hb3 D1 K1 I1 U1
  have k4 : w2.cell? ⟨kb, 4, none⟩ = some (.slice va s.l.length vc) := K2.out.l.cells.2.2.2.2
  generalize hn : s.l.length = n at *
  have HN := Lib.hid hn; clear hn
  go_wp2_with fail
  go_loopw [4] (fun x wr => ∃ i : Nat, i ≤ n ∧ x = .int .i64 i ∧ Upd [] w2 wr) (fun x _ => n - (intOf x).toNat)
  case atStart => exact ⟨0, by omega, rfl, Upd.refl _ _⟩
  case round =>
    obtain ⟨i, hi, rfl, hup⟩ := hrel
    have hk4 := (K2.out.l.upd0 hup).cells.2.2.2.2
    by_cases hlt : i < n
    · have hlt2 : i < s.l.length := by rw [HN.out]; exact hlt
      obtain ⟨g, off, rfl, hg, _, hc⟩ := (by simpa [HN.out] using I2.out.upd0 hup : Ints _ (.slice wa s.l.length wc) s.l).at hlt2
      obtain ⟨g2, off2, rfl, hg2, _, hc2⟩ := (by simpa [HN.out] using (K2.out.l.upd0 hup).wait : Ints _ (.slice va s.l.length vc) s.l).at hlt2
      generalize s.l[i] = x at *
      have hxx : (x != x) = false := by simp
      have HUP := Lib.hid hup
      clear hlt2 hup
      go_wp2_with fail
      go_quiet (fail)
      go_wp2_with fail
      go_roundw
      case rel => exact ⟨i + 1, by omega, by go_num, HUP.out.drewN _⟩
      case measure => simp [intOf]; omega
    · have K3 := Lib.hid (K2.out.upd0 hup); have U3 := Lib.hid (U2.out.trans hup)
      clear hk4 hup k4
      go_wp2_with fail
      clear hi hlt HE
      go_loopw [5] (fun x wq => ∃ i : Nat, i ≤ 32 ∧ x = .int .i64 i ∧ Upd [] wr wq) (fun x _ => 32 - (intOf x).toNat)
      case atStart => exact ⟨0, by omega, rfl, Upd.refl _ _⟩
      case round =>
        obtain ⟨i, hi, rfl, hup⟩ := hrel
        have K4 := Lib.hid (K3.out.upd0 hup); have U4 := Lib.hid hup
        clear hup
        by_cases hlt : i < 32
        · have hu : IntKind.u8.wrap (i : Int) = (i : Int) := by
            unfold IntKind.wrap
            simp [IntKind.signed, IntKind.bits]
            omega
          go_wp2_with fail
          refine (object_at i _ (by omega)).mono ?_; rintro e w5 ⟨rfl, u5⟩
          clear hu
          have HR := Lib.hid (objR_good i)
          generalize objR i = r at *
          obtain ⟨r1, r2⟩ := r
          have K5 := Lib.hid (K4.out.upd0 u5); have U5 := Lib.hid (U4.out.trans u5)
          clear u5
          have zR := zeroR
          dsimp only
          go_wp2_with fail
          have ul : Upd [] w5 (w5.alloc (.cells #[.int .i64 r1, .int .u32 r2] 36)) := (Upd.refl _ _).alloc _
          have hY := new_of w5 (.cells #[.int .i64 r1, .int .u32 r2] 36)
          have K6 := Lib.hid (K5.out.upd0 ul); have U6 := Lib.hid (U5.out.trans ul)
          clear ul zR K5 K4 U5 U4
          generalize w5.alloc (.cells #[.int .i64 r1, .int .u32 r2] 36) = V at *
          generalize w5.heap.size = Y at *
          have HY := Lib.hid hY
          have c0 : V.cell? ⟨kb, 0, none⟩ = some (.pointer (some ⟨B.b, 0, none⟩)) := K6.out.l.cells.1
          have y0 : V.cell? ⟨Y, 0, none⟩ = some (.int .i64 r1) := cell_of hY 0
          have y1 : V.cell? ⟨Y, 1, none⟩ = some (.int .u32 r2) := cell_of hY 1
          have KEEP := Lib.hid (show ∀ w', Upd [] V w' → w'.cell? ⟨kb, 0, none⟩ = some (.pointer (some ⟨B.b, 0, none⟩)) ∧ w'.cell? ⟨Y, 0, none⟩ = some (.int .i64 r1) ∧ w'.cell? ⟨Y, 1, none⟩ = some (.int .u32 r2) from fun w' u =>
            ⟨(K6.out.l.upd0 u).cells.1, cell_of (u.keep HY.out (by simp)) 0, cell_of (u.keep HY.out (by simp)) 1⟩)
          have hrw := rfwatches (K6.out.rf.upd0 ((Upd.refl _ _).drew)) (r1, r2) HR.out.wf
          obtain ⟨wi, hwi⟩ : ∃ x, (s.byI (r1, r2)).getD 0 = x := ⟨_, rfl⟩
          obtain ⟨wb, hwb⟩ : ∃ x, (s.byI (r1, r2)).isSome = x := ⟨_, rfl⟩
          rw [hwi, hwb] at hrw
          have HRW := Lib.hid hrw; have HWI := Lib.hid hwi; have HWB := Lib.hid hwb
          clear hrw hwi hwb hY
          go_region_held3 (fun w' => w'.cell? ⟨kb, 0, none⟩ = some (.pointer (some ⟨B.b, 0, none⟩)) ∧ w'.cell? ⟨Y, 0, none⟩ = some (.int .i64 r1) ∧ w'.cell? ⟨Y, 1, none⟩ = some (.int .u32 r2)) (first | go_keep | exact ⟨c0, y0, y1⟩ | exact KK) (first | (go_at_call 14; refine HRW.out.mono ?_; rintro e w6 ⟨rfl, u6⟩; have u7 : Upd [] V w6 := ((Upd.refl _ _).drew).trans u6; have KK := KEEP.out _ u7))
          have K7 := Lib.hid (K6.out.upd0 u7); have U7 := Lib.hid (U6.out.trans u7)
          have y0 : w6.cell? ⟨Y, 0, none⟩ = some (.int .i64 r1) := KK.2.1
          have y1 : w6.cell? ⟨Y, 1, none⟩ = some (.int .u32 r2) := KK.2.2
          clear KK KEEP u6 u7 c0 HRW K6 U6 HY
          go_wp2_with fail
          clear y0 y1
          refine (by_at K7.out.l (r1, r2)).mono ?_; rintro e w7 ⟨rfl, u8⟩
          have U8 := Lib.hid (U7.out.trans u8)
          clear u8
          cases hb : s.byI (r1, r2) with
          | none =>
            obtain rfl : wb = false := by rw [← HWB.out, hb]; rfl
            obtain rfl : wi = 0 := by rw [← HWI.out, hb]; rfl
            rw [show s.byR (r1, r2) = -1 from by unfold Rs.byR; rw [hb]]
            clear hb
            go_wp2_with fail
            go_roundw
            case rel => exact ⟨i + 1, by omega, by go_num, U8.out⟩
            case measure => simp [intOf]; omega
          | some j =>
            obtain rfl : wb = true := by rw [← HWB.out, hb]; rfl
            obtain rfl : wi = j := by rw [← HWI.out, hb]; rfl
            rw [show s.byR (r1, r2) = (wi : Int) from by unfold Rs.byR; rw [hb]]
            have hww : ((wi : Int) != (wi : Int)) = false := by simp
            clear hb
            go_wp2_with fail
            go_roundw
            case rel => exact ⟨i + 1, by omega, by go_num, U8.out⟩
            case measure => simp [intOf]; omega
        · go_wp2_with fail
          go_ret
          exact ⟨rfl, U3.out.trans U4.out⟩

end Go.Proofs.Ytmbkjnjfipafmaa
