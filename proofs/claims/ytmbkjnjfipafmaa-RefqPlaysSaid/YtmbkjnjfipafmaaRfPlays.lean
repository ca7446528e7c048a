/-
  RefqPlays: after each step its result, and what the reference queue shows, are the document's. Conditions: none.
-/
import Derived.Test.YtmbkjnjfipafmaaRqShow
import Derived.Test.YtmbkjnjfipafmaaRfStep
namespace Go.Proofs.Ytmbkjnjfipafmaa
open Go.RowKit Go.Maps

set_option maxRecDepth 100000 in
set_option maxHeartbeats 8000000 in
theorem plays_ok (a b : Int) (v : Value) (css : List (List Value)) (w : World) (hv : Recs w v 4 css) (hF : ∀ cs ∈ css, IsStep cs) :
    Calls Try.prog 7 #[.int .i64 a, .int .i64 b, v] w fun e w' => e = .returned (.bool true) ∧ Upd [] w w' := by
  have HV := Lib.hid hv
  obtain ⟨ad, cap, rfl, hcc, hcm, -⟩ := hv
  have hm : cap ≤ 9223372036854775807 := by unfold maxLen at hcm; omega
  have HF := Lib.hid hF; clear hF hcm
  by_cases h150 : css.length ≤ 150
  · have hg : ¬ (150 : Int) < (css.length : Int) := by omega
    by_cases hok : 1 ≤ a ∧ a ≤ 256 ∧ 1 ≤ b ∧ b ≤ 64
    · obtain ⟨p, rfl⟩ := Int.eq_ofNat_of_zero_le (show 0 ≤ a by omega)
      obtain ⟨q0, rfl⟩ := Int.eq_ofNat_of_zero_le (show 0 ≤ b by omega)
      go_enter Try.func7, Try.ntmps7
      go_wp2_with fail
      refine (rfnew_ok p q0 w (by omega) (by omega) (by omega) (by omega)).mono ?_; rintro e w1 ⟨B0, rfl, rf1, sc1, u1⟩
      go_wp2_with fail
      refine (qqnew_ok p q0 w1 (by omega) (by omega) (by omega) (by omega)).mono ?_; rintro e w2 ⟨rb0, rfl, q2, hrb, u2⟩
      have R0 := Lib.hid (rf1.upd0 u2); have Q0 := Lib.hid q2; have SC0 := Lib.hid sc1; have RB0 := Lib.hid (show w.heap.size ≤ rb0 from Nat.le_trans u1.size hrb); have U0 := Lib.hid (u1.trans u2)
      clear rf1 sc1 u1 q2 hrb u2
      generalize rs0 p q0 = s0 at *
      go_wp2_with fail
      clear hok
      go_loopw [7, 9, 11, 12, 13] (fun q r o ws x wr => ∃ i : Nat, i ≤ css.length ∧ x = .int .i64 i ∧ (∃ B rb s, q = .pointer (some ⟨B.b, 0, none⟩) ∧ r = .pointer (some ⟨rb, 0, none⟩) ∧ RfAt wr B s ∧ RqAt wr rb s ∧ B.since w.heap.size ∧ w.heap.size ≤ rb ∧ Old wr o ws B rb) ∧ Upd [] w wr) (fun _ _ _ _ x _ => css.length - (intOf x).toNat)
      case atStart => exact ⟨0, by omega, rfl, ⟨_, _, _, rfl, rfl, R0.out, Q0.out, SC0.out, RB0.out, .inl ⟨rfl, rfl⟩⟩, U0.out⟩
      case round =>
        clear R0 Q0 SC0 RB0 U0
        obtain ⟨i, hi, rfl, ⟨B, rb, s, rfl, rfl, hr, hq, hsc, hrb, hold⟩, hup⟩ := hrel
        have RR := Lib.hid hr; have QQ := Lib.hid hq; have SC := Lib.hid hsc; have RB := Lib.hid hrb; have OO := Lib.hid hold; have UP := Lib.hid hup
        have HK := Lib.hid hr.okk
        clear hr hq hsc hrb hold
        by_cases hlt : i < css.length
        · obtain ⟨ab, off, rfl, hab, -, hat⟩ := HV.out.at hlt
          obtain ⟨d, id, ⟨r1, r2⟩, hcs, wd, wid, hwr⟩ := HF.out _ (List.getElem_mem hlt)
          dsimp only at hcs
          have HWR := Lib.hid hwr
          have z0 : wr.cell? ⟨ab, off + i * 4, none⟩ = some (.int .i64 d) := (hup.cell (p := ⟨ab, off + i * 4, none⟩) hab (by simp)).trans (hat 0 _ (by rw [hcs]; rfl))
          have z1 : wr.cell? ⟨ab, off + i * 4 + 1, none⟩ = some (.int .i64 id) := (hup.cell (p := ⟨ab, off + i * 4 + 1, none⟩) hab (by simp)).trans (hat 1 _ (by rw [hcs]; rfl))
          have z2 : wr.cell? ⟨ab, off + i * 4 + 2, none⟩ = some (.int .i64 r1) := (hup.cell (p := ⟨ab, off + i * 4 + 2, none⟩) hab (by simp)).trans (hat 2 _ (by rw [hcs]; rfl))
          have z3 : wr.cell? ⟨ab, off + i * 4 + 3, none⟩ = some (.int .u32 r2) := (hup.cell (p := ⟨ab, off + i * 4 + 3, none⟩) hab (by simp)).trans (hat 3 _ (by rw [hcs]; rfl))
          have zl : ab < wr.heap.size := Nat.lt_of_lt_of_le hab hup.size
          have ul : Upd [] wr (wr.alloc (.cells #[.int .i64 d, .int .i64 id, .int .i64 r1, .int .u32 r2] 60)) := (Upd.refl _ _).alloc _
          have NB1 := Lib.hid (new_of wr (.cells #[.int .i64 d, .int .i64 id, .int .i64 r1, .int .u32 r2] 60))
          have R1 := Lib.hid (RR.out.upd0 ul); have Q1 := Lib.hid (QQ.out.upd0 ul); have O1 := Lib.hid (OO.out.upd0 ul); have U1 := Lib.hid (UP.out.trans ul)
          have zR := zeroR
          clear hab hat hcs hwr ul hup wd wid
          have hd5 : d = 0 ∨ d = 1 ∨ d = 2 ∨ d = 3 ∨ d = 4 ∨ (d ≠ 0 ∧ d ≠ 1 ∧ d ≠ 2 ∧ d ≠ 3 ∧ d ≠ 4) := by omega
          rcases hd5 with rfl | rfl | rfl | rfl | rfl | ⟨n0, n1, n2, n3, n4⟩
          · as_aux_lemma =>
            have y1 : (wr.alloc (.cells #[.int .i64 0, .int .i64 id, .int .i64 r1, .int .u32 r2] 60)).cell? ⟨wr.heap.size, 1, none⟩ = some (.int .i64 id) := cell_of NB1.out 1
            have y2 : (wr.alloc (.cells #[.int .i64 0, .int .i64 id, .int .i64 r1, .int .u32 r2] 60)).cell? ⟨wr.heap.size, 2, none⟩ = some (.int .i64 r1) := cell_of NB1.out 2
            have y3 : (wr.alloc (.cells #[.int .i64 0, .int .i64 id, .int .i64 r1, .int .u32 r2] 60)).cell? ⟨wr.heap.size, 3, none⟩ = some (.int .u32 r2) := cell_of NB1.out 3
            have yl := lt_of_block NB1.out
            obtain ⟨x, hx⟩ : ∃ x, s.regE' id (r1, r2) = x := ⟨_, rfl⟩
            obtain ⟨s2, hs2⟩ : ∃ s2, s.regS' id (r1, r2) = s2 := ⟨_, rfl⟩
            have hq := rfreg (R1.out.upd0 ((Upd.refl _ _).drew)) id (r1, r2) HWR.out
            rw [hx, hs2] at hq
            have HQ := Lib.hid hq
            have HR := Lib.hid (show ∀ w', RqAt w' rb s → Calls Try.prog 25 #[.pointer (some ⟨rb, 0, none⟩), .int .i64 id, .agg #[.int .i64 r1, .int .u32 r2]] w' fun e w'' => e = .returned (.int .i64 x) ∧ RqAt w'' rb s2 ∧ Upd [rb] w' w'' from fun w' h => by
              have := qqreg h HK.out id (r1, r2) HWR.out
              rw [hx, hs2] at this
              exact this)
            have hxx : (x != x) = false := by simp
            clear hx hs2 hq
            go_wp2_with fail
            go_region_held3 (fun w' => w'.cell? ⟨wr.heap.size, 1, none⟩ = some (.int .i64 id) ∧ w'.cell? ⟨wr.heap.size, 2, none⟩ = some (.int .i64 r1) ∧ w'.cell? ⟨wr.heap.size, 3, none⟩ = some (.int .u32 r2)) (first | go_keep | exact ⟨y1, y2, y3⟩ | exact KB | exact KA) (first | (go_at_call 25; refine (HR.out _ qa).mono ?_; rintro e w3 ⟨rfl, q3, v3⟩; have NB3' := v3.keep NBA (by obtain ⟨cc, hcc⟩ := qa.blk; simpa using ne_types NBA hcc (by decide)); have KB := And.intro (cell_of NB3' 1) (And.intro (cell_of NB3' 2) (cell_of NB3' 3))) | (go_at_call 13; refine HQ.out.mono ?_; rintro e w2 ⟨rfl, rf2, v2⟩; have u2 : Upd B.S (wr.alloc (.cells #[.int .i64 0, .int .i64 id, .int .i64 r1, .int .u32 r2] 60)) w2 := ((Upd.refl _ _).drew).trans v2; have NBA := u2.keep NB1.out (R1.out.notIn NB1.out (by decide)); have KA := And.intro (cell_of NBA 1) (And.intro (cell_of NBA 2) (cell_of NBA 3)); have qa := Q1.out.go R1.out u2))
            have R2 := Lib.hid rf2; have Q2 := Lib.hid qa
            have O2 := Lib.hid (O1.out.goQ R1.out u2); have U2 := Lib.hid (U1.out.sinceS u2 SC.out); have NB2 := Lib.hid (u2.keep NB1.out (R1.out.notIn NB1.out (by decide)))
            have R3 := Lib.hid (R2.out.ref Q2.out v3); have Q3 := Lib.hid q3
            have O3 := Lib.hid (O2.out.goR Q2.out v3); have U3 := Lib.hid (U2.out.fresh1 v3 RB.out); have NB3 := Lib.hid (v3.keep NB2.out (by obtain ⟨cc, hcc⟩ := Q2.out.blk; simpa using ne_types NB2.out hcc (by decide)))
            clear y1 y2 y3 yl HQ HR u2 v2 v3 rf2 qa q3 NBA KA KB NB3'
            have y2 : w3.cell? ⟨wr.heap.size, 2, none⟩ = some (.int .i64 r1) := cell_of NB3.out 2
            have y3 : w3.cell? ⟨wr.heap.size, 3, none⟩ = some (.int .u32 r2) := cell_of NB3.out 3
            have yl := lt_of_block NB3.out
            go_wp2_with fail
            clear y2 y3 yl
            refine (shows_ok R3.out Q3.out (r1, r2) HWR.out).mono ?_; rintro e x1 ⟨rfl, u⟩
            have RA := Lib.hid (R3.out.upd0 u); have QA := Lib.hid (Q3.out.upd0 u); have OA := Lib.hid (O3.out.upd0 u); have UA := Lib.hid (U3.out.trans u)
            clear u
            go_wp2_with fail
            refine (shows_ok RA.out QA.out (0, 0) ⟨by decide, by decide⟩).mono ?_; rintro e x2 ⟨rfl, u⟩
            have RZ := Lib.hid (RA.out.upd0 u); have QZ := Lib.hid (QA.out.upd0 u); have OZ := Lib.hid (OA.out.upd0 u); have UZ := Lib.hid (UA.out.trans u)
            clear u
            go_wp2_with fail
            go_roundw
            case rel => exact ⟨i + 1, by omega, by go_num, ⟨_, _, _, rfl, rfl, RZ.out, QZ.out, SC.out, RB.out, OZ.out⟩, UZ.out⟩
            case measure => simp [intOf]; omega
          · as_aux_lemma =>
            have y1 : (wr.alloc (.cells #[.int .i64 1, .int .i64 id, .int .i64 r1, .int .u32 r2] 60)).cell? ⟨wr.heap.size, 1, none⟩ = some (.int .i64 id) := cell_of NB1.out 1
            have y2 : (wr.alloc (.cells #[.int .i64 1, .int .i64 id, .int .i64 r1, .int .u32 r2] 60)).cell? ⟨wr.heap.size, 2, none⟩ = some (.int .i64 r1) := cell_of NB1.out 2
            have y3 : (wr.alloc (.cells #[.int .i64 1, .int .i64 id, .int .i64 r1, .int .u32 r2] 60)).cell? ⟨wr.heap.size, 3, none⟩ = some (.int .u32 r2) := cell_of NB1.out 3
            have yl := lt_of_block NB1.out
            obtain ⟨fb, hfb⟩ : ∃ x, s.fndB (r1, r2) = x := ⟨_, rfl⟩
            obtain ⟨fe, hfe⟩ : ∃ x, s.fndE (r1, r2) = x := ⟨_, rfl⟩
            obtain ⟨s2, hs2⟩ : ∃ s2, s.fndS (r1, r2) = s2 := ⟨_, rfl⟩
            have hq := rffound R1.out (r1, r2) HWR.out
            rw [hfb, hfe, hs2] at hq
            have HQ := Lib.hid hq
            clear hq
            go_wp2_with fail
            clear y1 y2 y3 yl
            refine HQ.out.mono ?_; rintro e w2 ⟨rfl, rf2, u2⟩
            have R2 := Lib.hid rf2; have Q2 := Lib.hid (Q1.out.go R1.out u2)
            have O2 := Lib.hid (O1.out.goQ R1.out u2); have U2 := Lib.hid (U1.out.sinceS u2 SC.out); have NB2 := Lib.hid (u2.keep NB1.out (R1.out.notIn NB1.out (by decide)))
            have y1 : w2.cell? ⟨wr.heap.size, 1, none⟩ = some (.int .i64 id) := cell_of NB2.out 1
            have y2 : w2.cell? ⟨wr.heap.size, 2, none⟩ = some (.int .i64 r1) := cell_of NB2.out 2
            have y3 : w2.cell? ⟨wr.heap.size, 3, none⟩ = some (.int .u32 r2) := cell_of NB2.out 3
            have yl := lt_of_block NB2.out
            have hr := qqfound Q2.out HK.out (r1, r2)
            rw [hfb, hfe, hs2] at hr
            have HR := Lib.hid hr
            have h1 : (fb != fb) = false := by simp
            have h2 : (fe != fe) = false := by simp
            clear hr hfb hfe hs2 rf2 u2
            go_wp2_with fail
            clear y1 y2 y3 yl
            refine HR.out.mono ?_; rintro e w3 ⟨rfl, q3, v3⟩
            have R3 := Lib.hid (R2.out.ref Q2.out v3); have Q3 := Lib.hid q3
            have O3 := Lib.hid (O2.out.goR Q2.out v3); have U3 := Lib.hid (U2.out.fresh1 v3 RB.out); have NB3 := Lib.hid (v3.keep NB2.out (by obtain ⟨cc, hcc⟩ := Q2.out.blk; simpa using ne_types NB2.out hcc (by decide)))
            clear v3 q3
            have y2 : w3.cell? ⟨wr.heap.size, 2, none⟩ = some (.int .i64 r1) := cell_of NB3.out 2
            have y3 : w3.cell? ⟨wr.heap.size, 3, none⟩ = some (.int .u32 r2) := cell_of NB3.out 3
            have yl := lt_of_block NB3.out
            go_wp2_with fail
            clear y2 y3 yl
            refine (shows_ok R3.out Q3.out (r1, r2) HWR.out).mono ?_; rintro e x1 ⟨rfl, u⟩
            have RA := Lib.hid (R3.out.upd0 u); have QA := Lib.hid (Q3.out.upd0 u); have OA := Lib.hid (O3.out.upd0 u); have UA := Lib.hid (U3.out.trans u)
            clear u
            go_wp2_with fail
            refine (shows_ok RA.out QA.out (0, 0) ⟨by decide, by decide⟩).mono ?_; rintro e x2 ⟨rfl, u⟩
            have RZ := Lib.hid (RA.out.upd0 u); have QZ := Lib.hid (QA.out.upd0 u); have OZ := Lib.hid (OA.out.upd0 u); have UZ := Lib.hid (UA.out.trans u)
            clear u
            go_wp2_with fail
            go_roundw
            case rel => exact ⟨i + 1, by omega, by go_num, ⟨_, _, _, rfl, rfl, RZ.out, QZ.out, SC.out, RB.out, OZ.out⟩, UZ.out⟩
            case measure => simp [intOf]; omega
          · as_aux_lemma =>
            obtain ⟨px, hpx⟩ : ∃ x, s.pollX = x := ⟨_, rfl⟩
            obtain ⟨pb, hpb⟩ : ∃ x, s.pollB = x := ⟨_, rfl⟩
            have hq := rfpoll R1.out
            rw [hpx, hpb] at hq
            have HQ := Lib.hid hq
            clear hq
            go_wp2_with fail
            refine HQ.out.mono ?_; rintro e w2 ⟨rfl, rf2, u2⟩
            have R2 := Lib.hid rf2; have Q2 := Lib.hid (Q1.out.go R1.out u2)
            have O2 := Lib.hid (O1.out.goQ R1.out u2); have U2 := Lib.hid (U1.out.sinceS u2 SC.out); have NB2 := Lib.hid (u2.keep NB1.out (R1.out.notIn NB1.out (by decide)))
            have hr := qqpoll Q2.out HK.out
            rw [hpx, hpb] at hr
            have HR := Lib.hid hr
            have h1 : (px != px) = false := by simp
            have h2 : (pb != pb) = false := by simp
            clear hr hpx hpb rf2 u2
            go_wp2_with fail
            refine HR.out.mono ?_; rintro e w3 ⟨rfl, q3, v3⟩
            have R3 := Lib.hid (R2.out.ref Q2.out v3); have Q3 := Lib.hid q3
            have O3 := Lib.hid (O2.out.goR Q2.out v3); have U3 := Lib.hid (U2.out.fresh1 v3 RB.out); have NB3 := Lib.hid (v3.keep NB2.out (by obtain ⟨cc, hcc⟩ := Q2.out.blk; simpa using ne_types NB2.out hcc (by decide)))
            clear v3 q3
            have y2 : w3.cell? ⟨wr.heap.size, 2, none⟩ = some (.int .i64 r1) := cell_of NB3.out 2
            have y3 : w3.cell? ⟨wr.heap.size, 3, none⟩ = some (.int .u32 r2) := cell_of NB3.out 3
            have yl := lt_of_block NB3.out
            go_wp2_with fail
            clear y2 y3 yl
            refine (shows_ok R3.out Q3.out (r1, r2) HWR.out).mono ?_; rintro e x1 ⟨rfl, u⟩
            have RA := Lib.hid (R3.out.upd0 u); have QA := Lib.hid (Q3.out.upd0 u); have OA := Lib.hid (O3.out.upd0 u); have UA := Lib.hid (U3.out.trans u)
            clear u
            go_wp2_with fail
            refine (shows_ok RA.out QA.out (0, 0) ⟨by decide, by decide⟩).mono ?_; rintro e x2 ⟨rfl, u⟩
            have RZ := Lib.hid (RA.out.upd0 u); have QZ := Lib.hid (QA.out.upd0 u); have OZ := Lib.hid (OA.out.upd0 u); have UZ := Lib.hid (UA.out.trans u)
            clear u
            go_wp2_with fail
            go_roundw
            case rel => exact ⟨i + 1, by omega, by go_num, ⟨_, _, _, rfl, rfl, RZ.out, QZ.out, SC.out, RB.out, OZ.out⟩, UZ.out⟩
            case measure => simp [intOf]; omega
          · as_aux_lemma =>
            have y1 : (wr.alloc (.cells #[.int .i64 3, .int .i64 id, .int .i64 r1, .int .u32 r2] 60)).cell? ⟨wr.heap.size, 1, none⟩ = some (.int .i64 id) := cell_of NB1.out 1
            have y2 : (wr.alloc (.cells #[.int .i64 3, .int .i64 id, .int .i64 r1, .int .u32 r2] 60)).cell? ⟨wr.heap.size, 2, none⟩ = some (.int .i64 r1) := cell_of NB1.out 2
            have y3 : (wr.alloc (.cells #[.int .i64 3, .int .i64 id, .int .i64 r1, .int .u32 r2] 60)).cell? ⟨wr.heap.size, 3, none⟩ = some (.int .u32 r2) := cell_of NB1.out 3
            have yl := lt_of_block NB1.out
            obtain ⟨cb, hcb⟩ : ∃ x, s.canB id = x := ⟨_, rfl⟩
            obtain ⟨ce, hce⟩ : ∃ x, s.canE id = x := ⟨_, rfl⟩
            have hq := rfcancel R1.out id
            rw [hcb, hce] at hq
            have HQ := Lib.hid hq
            clear hq
            go_wp2_with fail
            clear y1 y2 y3 yl
            refine HQ.out.mono ?_; rintro e w2 ⟨rfl, rf2, u2⟩
            have R2 := Lib.hid rf2; have Q2 := Lib.hid (Q1.out.go R1.out u2)
            have O2 := Lib.hid (O1.out.goQ R1.out u2); have U2 := Lib.hid (U1.out.sinceS u2 SC.out); have NB2 := Lib.hid (u2.keep NB1.out (R1.out.notIn NB1.out (by decide)))
            have y1 : w2.cell? ⟨wr.heap.size, 1, none⟩ = some (.int .i64 id) := cell_of NB2.out 1
            have y2 : w2.cell? ⟨wr.heap.size, 2, none⟩ = some (.int .i64 r1) := cell_of NB2.out 2
            have y3 : w2.cell? ⟨wr.heap.size, 3, none⟩ = some (.int .u32 r2) := cell_of NB2.out 3
            have yl := lt_of_block NB2.out
            have hr := qqcancel Q2.out HK.out id
            rw [hcb, hce] at hr
            have HR := Lib.hid hr
            have h1 : (cb != cb) = false := by simp
            have h2 : (ce != ce) = false := by simp
            clear hr hcb hce rf2 u2
            go_wp2_with fail
            clear y1 y2 y3 yl
            refine HR.out.mono ?_; rintro e w3 ⟨rfl, q3, v3⟩
            have R3 := Lib.hid (R2.out.ref Q2.out v3); have Q3 := Lib.hid q3
            have O3 := Lib.hid (O2.out.goR Q2.out v3); have U3 := Lib.hid (U2.out.fresh1 v3 RB.out); have NB3 := Lib.hid (v3.keep NB2.out (by obtain ⟨cc, hcc⟩ := Q2.out.blk; simpa using ne_types NB2.out hcc (by decide)))
            clear v3 q3
            have y2 : w3.cell? ⟨wr.heap.size, 2, none⟩ = some (.int .i64 r1) := cell_of NB3.out 2
            have y3 : w3.cell? ⟨wr.heap.size, 3, none⟩ = some (.int .u32 r2) := cell_of NB3.out 3
            have yl := lt_of_block NB3.out
            go_wp2_with fail
            clear y2 y3 yl
            refine (shows_ok R3.out Q3.out (r1, r2) HWR.out).mono ?_; rintro e x1 ⟨rfl, u⟩
            have RA := Lib.hid (R3.out.upd0 u); have QA := Lib.hid (Q3.out.upd0 u); have OA := Lib.hid (O3.out.upd0 u); have UA := Lib.hid (U3.out.trans u)
            clear u
            go_wp2_with fail
            refine (shows_ok RA.out QA.out (0, 0) ⟨by decide, by decide⟩).mono ?_; rintro e x2 ⟨rfl, u⟩
            have RZ := Lib.hid (RA.out.upd0 u); have QZ := Lib.hid (QA.out.upd0 u); have OZ := Lib.hid (OA.out.upd0 u); have UZ := Lib.hid (UA.out.trans u)
            clear u
            go_wp2_with fail
            go_roundw
            case rel => exact ⟨i + 1, by omega, by go_num, ⟨_, _, _, rfl, rfl, RZ.out, QZ.out, SC.out, RB.out, OZ.out⟩, UZ.out⟩
            case measure => simp [intOf]; omega
          · as_aux_lemma =>
            go_wp2_with fail
            refine (rfcopy R1.out).mono ?_; rintro e w2 ⟨B2, rfl, rf2, sc2, u2⟩
            go_wp2_with fail
            refine (qqcopy (Q1.out.upd0 u2) HK.out).mono ?_; rintro e w3 ⟨rb2, rfl, q3, hrb2, u3⟩
            have R3 := Lib.hid (rf2.upd0 u3); have Q3 := Lib.hid q3; have U3 := Lib.hid ((U1.out.trans u2).trans u3); have NB3 := Lib.hid ((u2.trans u3).keep NB1.out (by simp))
            have SC3 := Lib.hid (show B2.since w.heap.size from fun x hx => Nat.le_trans U1.out.size (sc2 x hx))
            have RB3 := Lib.hid (show w.heap.size ≤ rb2 from Nat.le_trans U1.out.size (Nat.le_trans u2.size hrb2))
            have O3 := Lib.hid (show Old w3 (.pointer (some ⟨B.b, 0, none⟩)) (.pointer (some ⟨rb, 0, none⟩)) B2 rb2 from .inr ⟨B, rb, s, rfl, rfl, (R1.out.upd0 u2).upd0 u3, (Q1.out.upd0 u2).upd0 u3, fun x hx hm => by
              have := R1.out.lts x hx
              have := sc2 x hm
              omega, fun e => by
              obtain ⟨cc, hcc⟩ := Q1.out.blk
              have := lt_of_block hcc
              have := u2.size
              omega⟩)
            clear rf2 sc2 u2 q3 hrb2 u3
            have y2 : w3.cell? ⟨wr.heap.size, 2, none⟩ = some (.int .i64 r1) := cell_of NB3.out 2
            have y3 : w3.cell? ⟨wr.heap.size, 3, none⟩ = some (.int .u32 r2) := cell_of NB3.out 3
            have yl := lt_of_block NB3.out
            go_wp2_with fail
            clear y2 y3 yl
            refine (shows_ok R3.out Q3.out (r1, r2) HWR.out).mono ?_; rintro e x1 ⟨rfl, u⟩
            have RA := Lib.hid (R3.out.upd0 u); have QA := Lib.hid (Q3.out.upd0 u); have OA := Lib.hid (O3.out.upd0 u); have UA := Lib.hid (U3.out.trans u)
            clear u
            go_wp2_with fail
            refine (shows_ok RA.out QA.out (0, 0) ⟨by decide, by decide⟩).mono ?_; rintro e x2 ⟨rfl, u⟩
            have RZ := Lib.hid (RA.out.upd0 u); have QZ := Lib.hid (QA.out.upd0 u); have OZ := Lib.hid (OA.out.upd0 u); have UZ := Lib.hid (UA.out.trans u)
            clear u
            go_wp2_with fail
            go_roundw
            case rel => exact ⟨i + 1, by omega, by go_num, ⟨_, _, _, rfl, rfl, RZ.out, QZ.out, SC3.out, RB3.out, OZ.out⟩, UZ.out⟩
            case measure => simp [intOf]; omega
          · as_aux_lemma =>
            have e0 : (d == 0) = false := by simpa using n0
            have e1 : (d == 1) = false := by simpa using n1
            have e2 : (d == 2) = false := by simpa using n2
            have e3 : (d == 3) = false := by simpa using n3
            have e4 : (d == 4) = false := by simpa using n4
            have y2 : (wr.alloc (.cells #[.int .i64 d, .int .i64 id, .int .i64 r1, .int .u32 r2] 60)).cell? ⟨wr.heap.size, 2, none⟩ = some (.int .i64 r1) := cell_of NB1.out 2
            have y3 : (wr.alloc (.cells #[.int .i64 d, .int .i64 id, .int .i64 r1, .int .u32 r2] 60)).cell? ⟨wr.heap.size, 3, none⟩ = some (.int .u32 r2) := cell_of NB1.out 3
            have yl := lt_of_block NB1.out
            go_wp2_with fail
            clear y2 y3 yl
            refine (shows_ok R1.out Q1.out (r1, r2) HWR.out).mono ?_; rintro e x1 ⟨rfl, u⟩
            have RA := Lib.hid (R1.out.upd0 u); have QA := Lib.hid (Q1.out.upd0 u); have OA := Lib.hid (O1.out.upd0 u); have UA := Lib.hid (U1.out.trans u)
            clear u
            go_wp2_with fail
            refine (shows_ok RA.out QA.out (0, 0) ⟨by decide, by decide⟩).mono ?_; rintro e x2 ⟨rfl, u⟩
            have RZ := Lib.hid (RA.out.upd0 u); have QZ := Lib.hid (QA.out.upd0 u); have OZ := Lib.hid (OA.out.upd0 u); have UZ := Lib.hid (UA.out.trans u)
            clear u
            go_wp2_with fail
            go_roundw
            case rel => exact ⟨i + 1, by omega, by go_num, ⟨_, _, _, rfl, rfl, RZ.out, QZ.out, SC.out, RB.out, OZ.out⟩, UZ.out⟩
            case measure => simp [intOf]; omega
        · rcases OO.out with ⟨rfl, rfl⟩ | ⟨Bo, ro, so, rfl, rfl, h3, h4, -, -⟩
          · clear hup
            go_wp2_with fail
            refine (works_ok _).mono ?_; rintro e w4 ⟨rfl, u4⟩
            go_wp2_with fail
            go_ret
            exact ⟨rfl, UP.out.trans u4⟩
          · have H3 := Lib.hid h3; have H4 := Lib.hid h4
            have zR := zeroR
            clear hup h3 h4
            go_wp2_with fail
            refine (shows_ok H3.out H4.out (0, 0) ⟨by decide, by decide⟩).mono ?_; rintro e w3 ⟨rfl, u3⟩
            go_wp2_with fail
            refine (works_ok _).mono ?_; rintro e w4 ⟨rfl, u4⟩
            go_wp2_with fail
            go_ret
            exact ⟨rfl, (UP.out.trans u3).trans u4⟩
    · have hbad : (a < 1 ∨ 256 < a) ∨ (b < 1 ∨ 64 < b) := by omega
      have HB := Lib.hid hbad
      clear hok hbad
      go_enter Try.func7, Try.ntmps7
      go_wp2_with fail
      refine (rfnew_err a b w HB.out).mono ?_; rintro e w1 ⟨rfl, e1⟩
      obtain rfl := e1
      go_wp2_with fail
      refine (qqnew_err a b w HB.out).mono ?_; rintro e w1 ⟨rfl, e1⟩
      obtain rfl := e1
      go_wp2_with fail
      go_loopw [7, 9, 11, 12, 13] (fun q r o ws x wr => q = .pointer none ∧ r = .pointer none ∧ o = .pointer none ∧ ws = .pointer none ∧ x = .int .i64 0 ∧ Upd [] w wr) (fun _ _ _ _ _ _ => 0)
      case atStart => exact ⟨rfl, rfl, rfl, rfl, rfl, Upd.refl _ _⟩
      case round =>
        obtain ⟨rfl, rfl, rfl, rfl, rfl, hup⟩ := hrel
        have UP := Lib.hid hup
        clear hup
        go_wp2_with fail
        all_goals
          refine (works_ok _).mono ?_; rintro e w4 ⟨rfl, u4⟩
          go_wp2_with fail
          go_ret
          exact ⟨rfl, UP.out.trans u4⟩
  · have hg : (150 : Int) < (css.length : Int) := by omega
    clear h150
    go_enter Try.func7, Try.ntmps7
    go_wp2_with fail
    refine (works_ok _).mono ?_; rintro e w4 ⟨rfl, u4⟩
    go_wp2_with fail
    go_ret
    exact ⟨rfl, u4⟩

theorem plays_fr (w : World) (a : Int) (_ : (Lit.int .i64 a).wf = true) (b : Int) (_ : (Lit.int .i64 b).wf = true) (v : Value) (css : List (List Value)) (h : Recs w v 4 css ∧ ∀ cs ∈ css, IsStep cs) :
    Calls Try.prog 7 #[.int .i64 a, .int .i64 b, v] w fun e w' => e = .returned (.bool true) ∧ Upd [] w w' :=
  plays_ok a b v css w h.1 h.2

end Go.Proofs.Ytmbkjnjfipafmaa
