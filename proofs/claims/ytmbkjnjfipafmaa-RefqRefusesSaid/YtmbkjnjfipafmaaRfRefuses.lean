/-
  RefqRefuses: what there is not is refused, and nothing is changed. Conditions: none.
-/
import Derived.Test.YtmbkjnjfipafmaaRfTurnE
namespace Go.Proofs.Ytmbkjnjfipafmaa
open Go.RowKit Go.Maps

theorem KnAt.go {w w' : World} {kb : Nat} {B : RfB} {h : Nat} {v : Value} {s : Rs} (k : KnAt w kb B h v s) (r : RfAt w' B s) (u : Upd B.S w w') : KnAt w' kb B h v s := ⟨k.l.go k.rf k.ka k.ha u, r, k.ka, k.ha⟩
theorem can_out {w : World} {B : RfB} {s : Rs} (h : RfAt w B s) (id : Int) (hid : ¬ (0 ≤ id ∧ id < s.size)) :
    Calls Try.prog 17 #[.pointer (some ⟨B.b, 0, none⟩), .int .i64 id] w fun e w' => e = .returned (.tuple #[.bool false, .int .i64 3]) ∧ RfAt w' B s ∧ Upd B.S w w' := by
  have hE : s.canE id = 3 := by unfold Rs.canE; rw [if_neg hid]
  have hB : s.canB id = false := by unfold Rs.canB; rw [decide_eq_false hid]; rfl
  have hS : s.canS id = s := by unfold Rs.canS; rw [hB]; rfl
  have := rfcancel h id
  rw [hE, hB, hS] at this
  exact this
theorem reg_no {w : World} {B : RfB} {s : Rs} (h : RfAt w B s) (id : Int) (r : Rf) (hw : refWf r) (x : Int) (hx : s.regE' id r = x) (hne : x ≠ 0) :
    Calls Try.prog 13 #[.pointer (some ⟨B.b, 0, none⟩), .int .i64 id, .agg #[.int .i64 r.1, .int .u32 r.2]] w fun e w' => e = .returned (.int .i64 x) ∧ RfAt w' B s ∧ Upd B.S w w' := by
  have hS : s.regS' id r = s := by
    unfold Rs.regS' Rs.regS
    unfold Rs.regE' at hx
    split
    · rename_i hin
      rw [if_pos hin] at hx
      exact if_neg (by rw [hx]; exact hne)
    · rfl
  have := rfreg h id r hw
  rw [hx, hS] at this
  exact this
theorem fnd_no {w : World} {B : RfB} {s : Rs} (h : RfAt w B s) (r : Rf) (hw : refWf r) (hz : r.2 = 0) :
    Calls Try.prog 15 #[.pointer (some ⟨B.b, 0, none⟩), .agg #[.int .i64 r.1, .int .u32 r.2]] w fun e w' => e = .returned (.tuple #[.bool false, .int .i64 0]) ∧ RfAt w' B s ∧ Upd B.S w w' := by
  have hb : s.byI r = none := by
    cases hb : s.byI r with
    | none => rfl
    | some i =>
      have h1 := (h.t.ok.good i r (byI_some hb)).2.2.2.1
      omega
  have h1 : s.fndB r = false := by unfold Rs.fndB; rw [hb]; rfl
  have h2 : s.fndE r = 0 := by unfold Rs.fndE; rw [hb]; simp
  have h3 : s.fndS r = s := by unfold Rs.fndS; rw [hb]
  have := rffound h r hw
  rw [h1, h2, h3] at this
  exact this
theorem regE_out {s : Rs} {id : Int} (r : Rf) (h : ¬ (0 ≤ id ∧ id < s.size)) : s.regE' id r = 3 := if_neg h
theorem regE_bad {s : Rs} (hs : 1 ≤ s.size) {r : Rf} (h : ¬ goodR r) : s.regE' 0 r = 2 := by
  unfold Rs.regE'; rw [if_pos ⟨by omega, by omega⟩]; unfold Rs.regE; rw [if_neg h]

set_option maxRecDepth 100000 in
set_option maxHeartbeats 20000000 in
theorem refuses_ok (a b N : Nat) (ha : a < 256) (hb : b < 256) (hN : N < 65536) (v : Value) (css : List (List Value)) (w : World) (hv : Recs w v 3 css) (hF : ∀ cs ∈ css, IsTurn cs) :
    Calls Try.prog 6 #[.int .u8 (a : Int), .int .u8 (b : Int), v, .int .u16 (N : Int)] w fun e w' => e = .returned (.bool true) ∧ Upd [] w w' := by
  have HV := Lib.hid hv
  obtain ⟨ad, cap, rfl, hcc, hcm, -⟩ := hv
  have hm : cap ≤ 9223372036854775807 := by unfold maxLen at hcm; omega
  have HF := Lib.hid hF; clear hF hcm
  by_cases h80 : css.length ≤ 80
  · have hg : ¬ (80 : Int) < (css.length : Int) := by omega
    go_enter Try.func6, Try.ntmps6
    go_wp2_with fail
    refine (begin_ok a b ha hb w).mono ?_; rintro e w1 ⟨kb, B, h, rfl, k1, hsc, u1⟩
    have K1 := Lib.hid k1; have SC := Lib.hid hsc; have U1 := Lib.hid u1
    clear k1 hsc u1
    generalize rs0 (1 + a) (1 + b % 64) = s0 at *
    go_wp2_with fail
    go_loopw [10] (fun x wr => ∃ i : Nat, i ≤ css.length ∧ x = .int .i64 i ∧ (∃ vv, KnAt wr kb B h vv (runT s0 (css.take i))) ∧ Upd [] w wr) (fun x _ => css.length - (intOf x).toNat)
    case atStart => exact ⟨0, by omega, rfl, ⟨_, K1.out⟩, U1.out⟩
    case round =>
      obtain ⟨i, hi, rfl, ⟨vv, hk⟩, hup⟩ := hrel
      have K := Lib.hid hk; have UP := Lib.hid hup
      by_cases hlt : i < css.length
      · obtain ⟨g, off, kd, x, o, rfl, hcs, hkd, hx, ho, hcell⟩ := turn_cells HV.out HF.out hlt rfl
        have HST := Lib.hid (runT_step s0 css hlt hcs)
        obtain ⟨c0, c1, c2, hgl⟩ := hcell _ hup
        clear hk hup hcs hcell
        go_wp2_with fail
        refine (turn_any K.out kd x o hkd hx ho).mono ?_; rintro e w2 ⟨v2, rfl, k2, u2⟩
        have K2 := Lib.hid (show KnAt w2 kb B h v2 (runT s0 (css.take (i + 1))) from by rw [HST.out]; exact k2)
        have U2 := Lib.hid (UP.out.kn u2 SC.out)
        clear k2 u2 c0 c1 c2 hgl
        go_wp2_with fail
        go_roundw
        case rel => exact ⟨i + 1, by omega, by go_num, ⟨_, K2.out⟩, U2.out⟩
        case measure => simp [intOf]; omega
      · clear hk hup
        generalize runT s0 (css.take i) = s at *
        have hs := K.out.rf.szs
        have hs1 : 1 ≤ s.size := hs.1
        have hs2 : s.size ≤ 256 := hs.2.1
        clear hs
        -- Cancel, below
        have c0 := K.out.l.cells.1
        have hkl := K.out.l.lt
        go_wp2_with fail
        have ul : Upd [] wr (wr.alloc (.cells #[.int .i64 200, .int .u32 7] 36)) := (Upd.refl _ _).alloc _
        have hG := new_of wr (.cells #[.int .i64 200, .int .u32 7] 36)
        have K0 := Lib.hid (K.out.upd0 ul); have U0 := Lib.hid (UP.out.trans ul)
        clear ul c0 hkl hi hlt hg h80 hcc hm
        generalize wr.alloc (.cells #[.int .i64 200, .int .u32 7] 36) = V at *
        generalize wr.heap.size = G at *
        have HG := Lib.hid hG; clear hG
        refine (can_out K0.out.rf (-1 - (N : Int)) (by omega)).mono ?_; rintro e w2 ⟨rfl, r2, u2⟩
        have K2 := Lib.hid (K0.out.go r2 u2); have U2 := Lib.hid (U0.out.sinceS u2 SC.out.2.2); have G2 := Lib.hid (u2.keep HG.out (K0.out.rf.notIn HG.out (by decide)))
        clear r2 u2
        have c0 : w2.cell? ⟨kb, 0, none⟩ = some (.pointer (some ⟨B.b, 0, none⟩)) := K2.out.l.cells.1
        have c1 : w2.cell? ⟨kb, 1, none⟩ = some (.int .i64 s.size) := K2.out.l.cells.2.1
        have KEEP := Lib.hid (show ∀ w', Upd B.S w2 w' → w'.cell? ⟨kb, 0, none⟩ = some (.pointer (some ⟨B.b, 0, none⟩)) ∧ w'.cell? ⟨kb, 1, none⟩ = some (.int .i64 s.size) from fun w' u => by
          obtain ⟨a, b, -⟩ := (K2.out.l.go K2.out.rf K2.out.ka K2.out.ha u).cells
          exact ⟨a, b⟩)
        have hw1 : IntKind.i64.wrap ((s.size : Int) + (N : Int)) = (s.size : Int) + (N : Int) := IntWalk.i64_in _ (by omega)
        go_wp2_with fail
        go_region_held3 (fun w' => w'.cell? ⟨kb, 0, none⟩ = some (.pointer (some ⟨B.b, 0, none⟩)) ∧ w'.cell? ⟨kb, 1, none⟩ = some (.int .i64 s.size)) (first | go_keep | exact ⟨c0, c1⟩ | exact KK) (first | (go_at_call 17; refine (can_out (K2.out.rf.upd0 ((Upd.refl _ _).drew)) ((s.size : Int) + (N : Int)) (by omega)).mono ?_; rintro e w3 ⟨rfl, r3, u3⟩; have u4 : Upd B.S w2 w3 := ((Upd.refl _ _).drew).trans u3; have KK := KEEP.out _ u4))
        have K3 := Lib.hid (K2.out.go r3 u4); have U3 := Lib.hid (U2.out.sinceS u4 SC.out.2.2); have G3 := Lib.hid (u4.keep G2.out (K2.out.rf.notIn G2.out (by decide)))
        clear c0 c1 KEEP KK r3 u3 u4 K2 G2 HG hw1
        go_wp2_with fail
        refine (rfnew_err _ _ _ (by omega)).mono ?_; rintro e w' ⟨rfl, rfl⟩
        go_wp2_with fail
        refine (rfnew_err _ _ _ (by omega)).mono ?_; rintro e w' ⟨rfl, rfl⟩
        go_wp2_with fail
        refine (rfnew_err _ _ _ (by omega)).mono ?_; rintro e w' ⟨rfl, rfl⟩
        go_wp2_with fail
        refine (rfnew_err _ _ _ (by omega)).mono ?_; rintro e w4 ⟨rfl, e4⟩
        have K4 := Lib.hid (e4 ▸ K3.out); have U4 := Lib.hid (e4 ▸ U3.out); have G4 := Lib.hid (e4 ▸ G3.out)
        clear K3 U3 G3 e4
        go_wp2_with fail
        have c0 : w4.cell? ⟨kb, 0, none⟩ = some (.pointer (some ⟨B.b, 0, none⟩)) := K4.out.l.cells.1
        have c1 : w4.cell? ⟨kb, 1, none⟩ = some (.int .i64 s.size) := K4.out.l.cells.2.1
        have g0 : w4.cell? ⟨G, 0, none⟩ = some (.int .i64 200) := cell_of G4.out 0
        have g1 : w4.cell? ⟨G, 1, none⟩ = some (.int .u32 7) := cell_of G4.out 1
        have KEEP := Lib.hid (show ∀ w', Upd B.S w4 w' → w'.cell? ⟨kb, 0, none⟩ = some (.pointer (some ⟨B.b, 0, none⟩)) ∧ w'.cell? ⟨kb, 1, none⟩ = some (.int .i64 s.size) ∧ w'.cell? ⟨G, 0, none⟩ = some (.int .i64 200) ∧ w'.cell? ⟨G, 1, none⟩ = some (.int .u32 7) from fun w' u => by
          obtain ⟨a, b, -⟩ := (K4.out.l.go K4.out.rf K4.out.ka K4.out.ha u).cells
          have hg := u.keep G4.out (K4.out.rf.notIn G4.out (by decide))
          exact ⟨a, b, cell_of hg 0, cell_of hg 1⟩)
        have C5 := Lib.hid (reg_no (K4.out.rf.upd0 ((Upd.refl _ _).drew)) (-1 - (N : Int)) (200, 7) ⟨by decide, by decide⟩ 3 (regE_out _ (by omega)) (by decide))
        have C6 := Lib.hid (fun (w' : World) (r : RfAt w' B s) => reg_no r ((s.size : Int) + (N : Int)) (0, 0) ⟨by decide, by decide⟩ 3 (regE_out _ (by omega)) (by decide))
        have C7 := Lib.hid (fun (w' : World) (r : RfAt w' B s) => reg_no r 0 (3, 0) ⟨by decide, by decide⟩ 2 (regE_bad hs1 (by unfold goodR; simp)) (by decide))
        have C8 := Lib.hid (fun (w' : World) (r : RfAt w' B s) => reg_no r 0 (-1 - (N : Int), 1) ⟨WalkArith.wf_i64 (by omega), show (Lit.int .u32 1).wf = true by decide⟩ 2 (regE_bad hs1 (by unfold goodR; simp; omega)) (by decide))
        have C9 := Lib.hid (fun (w' : World) (r : RfAt w' B s) => reg_no r 0 (256 + (N : Int), 1) ⟨WalkArith.wf_i64 (by omega), show (Lit.int .u32 1).wf = true by decide⟩ 2 (regE_bad hs1 (by unfold goodR; simp; omega)) (by decide))
        have W1 := Lib.hid (show IntKind.i64.wrap ((s.size : Int) + (N : Int)) = (s.size : Int) + (N : Int) from IntWalk.i64_in _ (by omega))
        have W2 := Lib.hid (show IntKind.i64.wrap (-1 - (N : Int)) = -1 - (N : Int) from IntWalk.i64_in _ (by omega))
        have W3 := Lib.hid (show IntKind.i64.wrap (256 + (N : Int)) = 256 + (N : Int) from IntWalk.i64_in _ (by omega))
        have hw1 := W1.out
        have hw2 := W2.out
        have hw3 := W3.out
        have zR := zeroR
        clear K UP K0 U0 U2
        go_region_held3 (fun w' => w'.cell? ⟨kb, 0, none⟩ = some (.pointer (some ⟨B.b, 0, none⟩)) ∧ w'.cell? ⟨kb, 1, none⟩ = some (.int .i64 s.size) ∧ w'.cell? ⟨G, 0, none⟩ = some (.int .i64 200) ∧ w'.cell? ⟨G, 1, none⟩ = some (.int .u32 7)) (first | go_keep | exact ⟨c0, c1, g0, g1⟩ | exact KK9 | exact KK8 | exact KK7 | exact KK6 | exact KK5) (first | (go_at_call 13; refine (C9.out _ r8).mono ?_; rintro e w9 ⟨rfl, r9, u9⟩; have x9 : Upd B.S w4 w9 := x8.trans u9; have KK9 := KEEP.out _ x9) | (go_at_call 13; refine (C8.out _ r7).mono ?_; rintro e w8 ⟨rfl, r8, u8⟩; have x8 : Upd B.S w4 w8 := x7.trans u8; have KK8 := KEEP.out _ x8) | (go_at_call 13; refine (C7.out _ r6).mono ?_; rintro e w7 ⟨rfl, r7, u7⟩; have x7 : Upd B.S w4 w7 := x6.trans u7; have KK7 := KEEP.out _ x7) | (go_at_call 13; refine (C6.out _ r5).mono ?_; rintro e w6 ⟨rfl, r6, u6⟩; have x6 : Upd B.S w4 w6 := x5.trans u6; have KK6 := KEEP.out _ x6) | (go_at_call 13; refine (C5.out).mono ?_; rintro e w5 ⟨rfl, r5, u5⟩; have x5 : Upd B.S w4 w5 := ((Upd.refl _ _).drew).trans u5; have KK5 := KEEP.out _ x5))
        have K9 := Lib.hid (K4.out.go r9 x9); have U9 := Lib.hid (U4.out.sinceS x9 SC.out.2.2)
        clear r5 r6 r7 r8 r9 x5 x6 x7 x8 x9 u5 u6 u7 u8 u9 KK5 KK6 KK7 KK8 KK9 KEEP c0 c1 g0 g1 K4 U4 G4 hw1 hw2 hw3 W1 W2 W3 C5 C6 C7 C8 C9
        have c0 : w9.cell? ⟨kb, 0, none⟩ = some (.pointer (some ⟨B.b, 0, none⟩)) := K9.out.l.cells.1
        go_wp2_with fail
        refine (fnd_no K9.out.rf (-(N : Int), 0) ⟨WalkArith.wf_i64 (by omega), show (Lit.int .u32 0).wf = true by decide⟩ rfl).mono ?_; rintro e w10 ⟨rfl, r10, u10⟩
        have K10 := Lib.hid (K9.out.go r10 u10); have U10 := Lib.hid (U9.out.sinceS u10 SC.out.2.2)
        clear r10 u10 c0
        go_wp2_with fail
        refine (agrees_ok K10.out).mono ?_; rintro e w11 ⟨rfl, u11⟩
        go_wp2_with fail
        refine (works_ok _).mono ?_; rintro e w12 ⟨rfl, u12⟩
        go_wp2_with fail
        go_ret
        exact ⟨rfl, (U10.out.trans u11).trans u12⟩
  · have hg : (80 : Int) < (css.length : Int) := by omega
    clear h80
    go_enter Try.func6, Try.ntmps6
    go_wp2_with fail
    refine (works_ok _).mono ?_; rintro e w4 ⟨rfl, u4⟩
    go_wp2_with fail
    go_ret
    exact ⟨rfl, u4⟩

theorem refuses_fr (w : World) (a : Int) (wa : (Lit.int .u8 a).wf = true) (b : Int) (wb : (Lit.int .u8 b).wf = true) (v : Value) (css : List (List Value)) (h : Recs w v 3 css ∧ ∀ cs ∈ css, IsTurn cs) (n : Int) (wn : (Lit.int .u16 n).wf = true) :
    Calls Try.prog 6 #[.int .u8 a, .int .u8 b, v, .int .u16 n] w fun e w' => e = .returned (.bool true) ∧ Upd [] w w' := by
  have h1 := wf_u8 wa
  have h2 := wf_u8 wb
  have h3 := bounds_u16 wn
  obtain ⟨x, rfl⟩ := Int.eq_ofNat_of_zero_le h1.1
  obtain ⟨y, rfl⟩ := Int.eq_ofNat_of_zero_le h2.1
  obtain ⟨z, rfl⟩ := Int.eq_ofNat_of_zero_le h3.1
  exact refuses_ok x y z (by omega) (by omega) (by omega) v css w h.1 h.2

end Go.Proofs.Ytmbkjnjfipafmaa
