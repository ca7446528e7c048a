/-
  RefqCopies: what happens to a copy does not change the reference queue, and the other way round. Conditions: none.
-/
import Derived.Test.YtmbkjnjfipafmaaRfTurnE
namespace Go.Proofs.Ytmbkjnjfipafmaa
open Go.RowKit Go.Maps

/-- What one writes leaves the other. -/
theorem KnAt.frame {w w' : World} {kb kb2 : Nat} {B B2 : RfB} {h h2 : Nat} {v v2 : Value} {s s2 : Rs} (c : KnAt w kb2 B2 h2 v2 s2) (k : KnAt w kb B h v s) (u : Upd (kb :: h :: B.S) w w') (sep : ∀ x, x ∈ kb2 :: h2 :: B2.all → x ∉ kb :: h :: B.S) : KnAt w' kb2 B2 h2 v2 s2 := by
  refine ⟨⟨u.keep c.l.blk (sep _ (by simp)), c.l.has.upd u (sep _ (by simp)), SlAt.upd c.l.wait u (fun x hx cs hc => ?_), c.l.pok⟩, c.rf.updA u (fun x hx => sep x (by simp [hx])), c.ka, c.ha⟩
  simp only [List.mem_cons] at hx
  rcases hx with rfl | rfl | hx
  · have := k.l.blk; rw [hc] at this; simp at this
  · exact k.l.has.ne hc rfl
  · exact k.rf.notIn hc (by decide) hx
theorem RfB.S_sub {B : RfB} {x kb h : Nat} (hx : x ∈ kb :: h :: B.S) : x ∈ kb :: h :: B.all := by
  simp only [List.mem_cons] at hx ⊢
  rcases hx with h1 | h1 | h1
  · exact .inl h1
  · exact .inr (.inl h1)
  · exact .inr (.inr (RfB.S_all h1))
theorem KnAt.lts {w : World} {kb : Nat} {B : RfB} {h : Nat} {v : Value} {s : Rs} (k : KnAt w kb B h v s) : ∀ x, x ∈ kb :: h :: B.all → x < w.heap.size := by
  intro x hx
  simp only [List.mem_cons] at hx
  rcases hx with rfl | rfl | hx
  · exact k.l.lt
  · exact k.l.has.lt
  · exact k.rf.lts x hx
/-- All its blocks were made since. -/
def sinceK (kb h : Nat) (B : RfB) (N : Nat) : Prop := ∀ x, x ∈ kb :: h :: B.all → N ≤ x
theorem Upd.knK {a b c : World} {kb h : Nat} {B : RfB} (u : Upd [] a b) (g : Upd (kb :: h :: B.S) b c) (hs : sinceK kb h B a.heap.size) : Upd [] a c :=
  u.after g (fun x hx => .inl (hs x (RfB.S_sub hx)))
theorem since_of {kb h : Nat} {B : RfB} {N : Nat} (hs : N ≤ kb ∧ N ≤ h ∧ B.since N) : sinceK kb h B N := by
  intro x hx
  simp only [List.mem_cons] at hx
  rcases hx with rfl | rfl | hx
  · exact hs.1
  · exact hs.2.1
  · exact hs.2.2 x hx
/-- None of the one's blocks is one of the other's. -/
def Sep (kb h : Nat) (B : RfB) (kb2 h2 : Nat) (B2 : RfB) : Prop := ∀ x, x ∈ kb :: h :: B.all → x ∉ kb2 :: h2 :: B2.all
theorem Sep.symm {kb h kb2 h2 : Nat} {B B2 : RfB} (s : Sep kb h B kb2 h2 B2) : Sep kb2 h2 B2 kb h B := fun x hx hm => s x hm hx

set_option maxRecDepth 100000 in
set_option maxHeartbeats 4000000 in
theorem copies_ok (a b : Nat) (ha : a < 256) (hb : b < 256) (v v2 : Value) (css dss : List (List Value)) (w : World) (hv : Recs w v 3 css) (hF : ∀ cs ∈ css, IsTurn cs) (hv2 : Recs w v2 3 dss) (hF2 : ∀ cs ∈ dss, IsTurn cs) :
    Calls Try.prog 9 #[.int .u8 (a : Int), .int .u8 (b : Int), v, v2] w fun e w' => e = .returned (.bool true) ∧ Upd [] w w' := by
  have HV := Lib.hid hv; have HV2 := Lib.hid hv2
  obtain ⟨ad, cap, rfl, hcc, hcm, -⟩ := hv
  obtain ⟨ad2, cap2, rfl, hcc2, hcm2, -⟩ := hv2
  have hm : cap ≤ 9223372036854775807 := by unfold maxLen at hcm; omega
  have hm2 : cap2 ≤ 9223372036854775807 := by unfold maxLen at hcm2; omega
  have HF := Lib.hid hF; have HF2 := Lib.hid hF2; clear hF hF2 hcm hcm2
  by_cases h1 : css.length ≤ 80
  · by_cases h2 : dss.length ≤ 80
    · have hg : ¬ (80 : Int) < (css.length : Int) := by omega
      have hg2 : ¬ (80 : Int) < (dss.length : Int) := by omega
      go_enter Try.func9, Try.ntmps9
      go_wp2_with fail
      refine (begin_ok a b ha hb w).mono ?_; rintro e w1 ⟨kb, B, h, rfl, k1, hsc, u1⟩
      have K1 := Lib.hid k1; have SC := Lib.hid (since_of hsc); have U1 := Lib.hid u1
      clear k1 hsc u1
      go_wp2_with fail
      refine (begin_ok a b ha hb w1).mono ?_; rintro e w2 ⟨kb2, B2, h2', rfl, k2, hsc2, u2⟩
      have C2 := Lib.hid k2; have K2 := Lib.hid (K1.out.upd0 u2); have U2 := Lib.hid (U1.out.trans u2)
      have SC2 := Lib.hid (show sinceK kb2 h2' B2 w.heap.size from fun x hx => Nat.le_trans U1.out.size (since_of hsc2 x hx))
      have SEP := Lib.hid (show Sep kb h B kb2 h2' B2 from fun x hx hm => by
        have := K1.out.lts x hx
        have := since_of hsc2 x hm
        omega)
      clear k2 hsc2 u2
      generalize rs0 (1 + a) (1 + b % 64) = s0 at *
      go_wp2_with fail
      go_loopw [11] (fun x wr => ∃ i : Nat, i ≤ css.length ∧ x = .int .i64 i ∧ (∃ vv, KnAt wr kb B h vv (runT s0 (css.take i))) ∧ (∃ vv, KnAt wr kb2 B2 h2' vv (runT s0 (css.take i))) ∧ Upd [] w wr) (fun x _ => css.length - (intOf x).toNat)
      case atStart => exact ⟨0, by omega, rfl, ⟨_, K2.out⟩, ⟨_, C2.out⟩, U2.out⟩
      case round =>
        obtain ⟨i, hi, rfl, ⟨vv, hk⟩, ⟨vc, hc⟩, hup⟩ := hrel
        have K := Lib.hid hk; have C := Lib.hid hc; have UP := Lib.hid hup
        by_cases hlt : i < css.length
        · obtain ⟨g, off, kd, x, o, rfl, hcs, hkd, hx, ho, hcell⟩ := turn_cells HV.out HF.out hlt rfl
          have HST := Lib.hid (runT_step s0 css hlt hcs)
          have HC := Lib.hid hcell
          obtain ⟨c0, c1, c2, hgl⟩ := hcell _ hup
          clear hk hc hup hcs hcell
          go_wp2_with fail
          refine (turn_any K.out kd x o hkd hx ho).mono ?_; rintro e w3 ⟨v3, rfl, k3, u3⟩
          have K3 := Lib.hid (show KnAt w3 kb B h v3 (runT s0 (css.take (i + 1))) from by rw [HST.out]; exact k3)
          have C3 := Lib.hid (C.out.frame K.out u3 (fun x hx hm => SEP.out.symm x hx (RfB.S_sub hm)))
          have U3 := Lib.hid (UP.out.knK u3 SC.out)
          clear k3 u3 c0 c1 c2 hgl
          obtain ⟨c0, c1, c2, hgl⟩ := HC.out _ U3.out
          go_wp2_with fail
          refine (turn_any C3.out kd x o hkd hx ho).mono ?_; rintro e w4 ⟨v4, rfl, k4, u4⟩
          have C4 := Lib.hid (show KnAt w4 kb2 B2 h2' v4 (runT s0 (css.take (i + 1))) from by rw [HST.out]; exact k4)
          have K4 := Lib.hid (K3.out.frame C3.out u4 (fun x hx hm => SEP.out x hx (RfB.S_sub hm)))
          have U4 := Lib.hid (U3.out.knK u4 SC2.out)
          clear k4 u4 c0 c1 c2 hgl
          go_wp2_with fail
          go_roundw
          case rel => exact ⟨i + 1, by omega, by go_num, ⟨_, K4.out⟩, ⟨_, C4.out⟩, U4.out⟩
          case measure => simp [intOf]; omega
        · clear hk hc hup
          generalize runT s0 (css.take i) = s at *
          have c0 : wr.cell? ⟨kb, 0, none⟩ = some (.pointer (some ⟨B.b, 0, none⟩)) := K.out.l.cells.1
          go_wp2_with fail
          clear c0
          refine (rfcopy K.out.rf).mono ?_; rintro e w3 ⟨B3, rfl, r3, s3, u3⟩
          have K3 := Lib.hid (K.out.upd0 u3); have C3 := Lib.hid (C.out.upd0 u3); have U3 := Lib.hid (UP.out.trans u3)
          have d0 : w3.cell? ⟨kb2, 0, none⟩ = some (.pointer (some ⟨B2.b, 0, none⟩)) := C3.out.l.cells.1
          have fr : w3.frozen? ⟨kb2, 0, none⟩ = false := free_of C3.out.l.blk 0
          have hkk : kb2 ≠ kb := fun e => SEP.out kb (by simp) (by simp [e])
          have us : Upd [kb2] w3 (w3.setCell ⟨kb2, 0, none⟩ (.pointer (some ⟨B3.b, 0, none⟩))) := (Upd.refl [kb2] w3).setCell (p := ⟨kb2, 0, none⟩) (by simp) _
          have K4 := Lib.hid (show KnAt (w3.setCell ⟨kb2, 0, none⟩ (.pointer (some ⟨B3.b, 0, none⟩))) kb B h vv s from by
            have hno : ∀ x, x ∈ kb :: h :: B.all → x ∉ [kb2] := fun x hx => by simp; rintro rfl; exact SEP.out x hx (by simp)
            exact ⟨⟨us.keep K3.out.l.blk (hno _ (by simp)), K3.out.l.has.upd us (hno _ (by simp)), K3.out.l.wait.kb C3.out.l.blk (by decide) us, K3.out.l.pok⟩, K3.out.rf.updA us (fun x hx => hno x (by simp [hx])), K3.out.ka, K3.out.ha⟩)
          have hB3 : kb2 ∉ B3.all ∧ h2' ∉ B3.all := ⟨fun hm => by have := s3 _ hm; have := C.out.l.lt; omega, fun hm => by have := s3 _ hm; have := C.out.l.has.lt; omega⟩
          have C4 := Lib.hid (show KnAt (w3.setCell ⟨kb2, 0, none⟩ (.pointer (some ⟨B3.b, 0, none⟩))) kb2 B3 h2' vc s from by
            have hh : h2' ∉ [kb2] := by simp; exact fun e => C3.out.l.kh e.symm
            exact ⟨⟨set_of C3.out.l.blk 0 _, C3.out.l.has.upd us hh, C3.out.l.wait.kb C3.out.l.blk (by decide) us, C3.out.l.pok⟩, r3.updA us (fun x hx => by simp; rintro rfl; exact hB3.1 hx), hB3.1, hB3.2⟩)
          have SEP3 := Lib.hid (show Sep kb h B kb2 h2' B3 from fun x hx hm => by
            simp only [List.mem_cons] at hm
            rcases hm with rfl | rfl | hm
            · exact SEP.out _ hx (by simp)
            · exact SEP.out _ hx (by simp)
            · have := s3 _ hm
              have := K.out.lts x hx
              omega)
          have SC3 := Lib.hid (show sinceK kb2 h2' B3 w.heap.size from fun x hx => by
            simp only [List.mem_cons] at hx
            rcases hx with rfl | rfl | hx
            · exact SC2.out _ (by simp)
            · exact SC2.out _ (by simp)
            · exact Nat.le_trans UP.out.size (s3 _ hx))
          have U4 := Lib.hid (U3.out.after us (fun x hx => by simp at hx; subst hx; exact .inl (SC2.out _ (by simp))))
          clear r3 s3 u3 us hB3 hkk K C K3 U3
          have c0 : (w3.setCell ⟨kb2, 0, none⟩ (.pointer (some ⟨B3.b, 0, none⟩))).cell? ⟨kb, 0, none⟩ = some (.pointer (some ⟨B.b, 0, none⟩)) := K4.out.l.cells.1
          go_wp2_with fail
          generalize w3.setCell ⟨kb2, 0, none⟩ (.pointer (some ⟨B3.b, 0, none⟩)) = w4 at *
          clear d0 fr C3 c0
          refine (rfwaiting K4.out.rf).mono ?_; rintro e w5 ⟨v5, rfl, ⟨hsl, hfr⟩, u5⟩
          obtain ⟨n, hn⟩ : ∃ n, s.l.length = n := ⟨_, rfl⟩
          have HN := Lib.hid hn
          rw [hn] at hsl hfr
          clear hn
          obtain ⟨wa, wcap, rfl, hwc1, hwc2⟩ : ∃ wa wcap, v5 = .slice wa n wcap ∧ n ≤ wcap ∧ wcap ≤ 9223372036854775807 := by
            obtain ⟨-, -, x, y, h3, h4, h5, -⟩ := hsl
            exact ⟨x, y, h3, h4, by unfold maxLen at h5; omega⟩
          have HROW := Lib.hid (show n = 0 ∨ ∃ g off cur, wa = some ⟨g, off, none⟩ ∧ w5.heap[g]? = some (.cells cur 3 (0, 0)) ∧ off + n ≤ cur.size ∧ w4.heap.size ≤ g from by
            obtain ⟨-, -, x, y, h3, h4, h5, h6, h7⟩ := hsl
            simp only [Value.slice.injEq] at h3
            rcases h7 with h7 | ⟨g, off, cur, rfl, hg, hs, -⟩
            · exact .inl h7
            · exact .inr ⟨g, off, cur, h3.1, hg, by omega, by
                have := hfr ⟨g, off, none⟩ wcap (by rw [h3.1])
                exact this⟩)
          have U5 := Lib.hid u5
          clear hsl hfr u5
          have hns : n ≤ 64 := by
            have := K4.out.rf.szs
            have := HN.out
            omega
          go_wp2_with fail
          go_loopw [13] (fun x wr => ∃ i : Nat, i ≤ n ∧ x = .int .i64 i ∧ (n = 0 ∨ ∃ g off cur, wa = some ⟨g, off, none⟩ ∧ wr.heap[g]? = some (.cells cur 3 (0, 0)) ∧ off + n ≤ cur.size ∧ w4.heap.size ≤ g) ∧ Upd [] w4 wr) (fun x _ => n - (intOf x).toNat)
          case atStart => exact ⟨0, by omega, rfl, HROW.out, U5.out⟩
          case round =>
            obtain ⟨i2, hi2, rfl, hrow, hup⟩ := hrel
            by_cases hlt2 : i2 < n
            · obtain ⟨g, off, cur, rfl, hg, hs, hgn⟩ : ∃ g off cur, wa = some ⟨g, off, none⟩ ∧ wr.heap[g]? = some (.cells cur 3 (0, 0)) ∧ off + n ≤ cur.size ∧ w4.heap.size ≤ g := by
                rcases hrow with h0 | h0
                · omega
                · exact h0
              have hcell : wr.cell? ⟨g, off + i2, none⟩ = some (cur[off + i2]'(by omega)) := by rw [cell_of hg]; exact Array.getElem?_eq_getElem _
              have hfr : wr.frozen? ⟨g, off + i2, none⟩ = false := free_of hg _
              have hgl := lt_of_block hg
              have HGG := Lib.hid hg; have HUP := Lib.hid hup
              clear hg hup hrow
              generalize cur[off + i2]'(by omega) = y at hcell
              go_wp2_with fail
              go_roundw
              case rel => exact ⟨i2 + 1, by omega, by go_num, .inr ⟨g, off, _, rfl, set_of HGG.out _ _, by simpa using hs, hgn⟩, HUP.out.setNew hgn _⟩
              case measure => simp [intOf]; omega
            · have K5 := Lib.hid (K4.out.upd0 hup); have C5 := Lib.hid (C4.out.upd0 hup); have U6 := Lib.hid (U4.out.trans hup)
              clear hrow hup
              go_wp2_with fail
              clear hlt2 hi2 hns hwc1 hwc2 HROW
              go_loopw [14] (fun x wt => ∃ j : Nat, j ≤ dss.length ∧ x = .int .i64 j ∧ KnAt wt kb B h vv s ∧ (∃ vc, KnAt wt kb2 B3 h2' vc (runT s (dss.take j))) ∧ Upd [] w wt) (fun x _ => dss.length - (intOf x).toNat)
              case atStart => exact ⟨0, by omega, rfl, K5.out, ⟨_, C5.out⟩, U6.out⟩
              case round =>
                obtain ⟨j, hj, rfl, hk, ⟨vd, hc⟩, hup⟩ := hrel
                have K := Lib.hid hk; have C := Lib.hid hc; have UP7 := Lib.hid hup
                by_cases hlt3 : j < dss.length
                · obtain ⟨g, off, kd, x, o, rfl, hcs, hkd, hx, ho, hcell⟩ := turn_cells HV2.out HF2.out hlt3 rfl
                  have HST := Lib.hid (runT_step s dss hlt3 hcs)
                  obtain ⟨c0, c1, c2, hgl⟩ := hcell _ hup
                  clear hk hc hup hcs hcell
                  go_wp2_with fail
                  refine (turn_any C.out kd x o hkd hx ho).mono ?_; rintro e w6 ⟨v6, rfl, k6, u6⟩
                  have C6 := Lib.hid (show KnAt w6 kb2 B3 h2' v6 (runT s (dss.take (j + 1))) from by rw [HST.out]; exact k6)
                  have K6 := Lib.hid (K.out.frame C.out u6 (fun x hx hm => SEP3.out x hx (RfB.S_sub hm)))
                  have U7 := Lib.hid (UP7.out.knK u6 SC3.out)
                  clear k6 u6 c0 c1 c2 hgl
                  go_wp2_with fail
                  go_roundw
                  case rel => exact ⟨j + 1, by omega, by go_num, K6.out, ⟨_, C6.out⟩, U7.out⟩
                  case measure => simp [intOf]; omega
                · clear hk hc hup
                  go_wp2_with fail
                  refine (agrees_ok C.out).mono ?_; rintro e w6 ⟨rfl, u6⟩
                  go_wp2_with fail
                  refine (agrees_ok (K.out.upd0 u6)).mono ?_; rintro e w7 ⟨rfl, u7⟩
                  go_wp2_with fail
                  refine (works_ok _).mono ?_; rintro e w8 ⟨rfl, u8⟩
                  go_wp2_with fail
                  go_ret
                  exact ⟨rfl, ((UP7.out.trans u6).trans u7).trans u8⟩
    · have hg : ¬ (80 : Int) < (css.length : Int) := by omega
      have hg2 : (80 : Int) < (dss.length : Int) := by omega
      clear h1 h2
      go_enter Try.func9, Try.ntmps9
      go_wp2_with fail
      refine (works_ok _).mono ?_; rintro e w4 ⟨rfl, u4⟩
      go_wp2_with fail
      go_ret
      exact ⟨rfl, u4⟩
  · have hg : (80 : Int) < (css.length : Int) := by omega
    clear h1
    go_enter Try.func9, Try.ntmps9
    go_wp2_with fail
    refine (works_ok _).mono ?_; rintro e w4 ⟨rfl, u4⟩
    go_wp2_with fail
    go_ret
    exact ⟨rfl, u4⟩

theorem copies_fr (w : World) (a : Int) (wa : (Lit.int .u8 a).wf = true) (b : Int) (wb : (Lit.int .u8 b).wf = true) (v : Value) (css : List (List Value)) (h : Recs w v 3 css ∧ ∀ cs ∈ css, IsTurn cs) (v2 : Value) (dss : List (List Value)) (h2 : Recs w v2 3 dss ∧ ∀ cs ∈ dss, IsTurn cs) :
    Calls Try.prog 9 #[.int .u8 a, .int .u8 b, v, v2] w fun e w' => e = .returned (.bool true) ∧ Upd [] w w' := by
  have h3 := wf_u8 wa
  have h4 := wf_u8 wb
  obtain ⟨x, rfl⟩ := Int.eq_ofNat_of_zero_le h3.1
  obtain ⟨y, rfl⟩ := Int.eq_ofNat_of_zero_le h4.1
  exact copies_ok x y (by omega) (by omega) v v2 css dss w h.1 h.2 h2.1 h2.2

end Go.Proofs.Ytmbkjnjfipafmaa
