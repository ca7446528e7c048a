/-
  CleanerApart. Conditions: none.
-/
import Derived.Test.YtphpimbhhmkdkaaClnGet
import Derived.Lib.SmallJoins
namespace Go.Proofs.Ytphpimbhhmkdkaa
open Go.RowKit Go.Maps Go.Deep

/-- The cells of a move. -/
def IsMv (cs : List Value) : Prop := ∃ d x : Int, cs = [.int .u8 d, .int .u8 x] ∧ 0 ≤ d ∧ d < 256 ∧ 0 ≤ x ∧ x < 256
theorem mvs_of {H : Type} {enc : TypeId × Value → H} {w : World} {v : Value} {d : DataW H} {p : List MemPlace}
    (hval : Value.okWide Try.prog w .any 0 22 v) (h : DataW.Trod enc Try.prog w 0 (fun _ => true) true 22 v d p) : ∃ css, Recs w v 2 css ∧ ∀ cs ∈ css, IsMv cs := by
  refine recs_of Try.underlying22 2 (by kernel_rfl) (by decide) IsMv (fun n cs y hl ht => ?_) hval h
  match cs, hl with
  | [c0, c1], _ =>
    obtain ⟨_, _, h0⟩ := field_of (c := 1) Try.underlying27 ht 0 _ rfl rfl rfl (by kernel_rfl)
    obtain ⟨_, _, h1⟩ := field_of (c := 1) Try.underlying27 ht 1 _ rfl rfl rfl (by kernel_rfl)
    obtain ⟨x, rfl, wx⟩ := int_cell Try.underlying5 h0
    obtain ⟨z, rfl, wz⟩ := int_cell Try.underlying5 h1
    exact ⟨x, z, rfl, (wf_u8 wx).1, (wf_u8 wx).2, (wf_u8 wz).1, (wf_u8 wz).2⟩
theorem mv_of {H : Type} {enc : TypeId × Value → H} {w : World} {v : Value} {d : DataW H} {p : List MemPlace}
    (hval : Value.okWide Try.prog w .any 0 27 v) (h : DataW.Trod enc Try.prog w 0 (fun _ => true) true 27 v d p) : ∃ z : Int × Int, v = .agg #[.int .u8 z.1, .int .u8 z.2] ∧ 0 ≤ z.1 ∧ z.1 < 256 ∧ 0 ≤ z.2 ∧ z.2 < 256 := by
  obtain ⟨c0, c1, y0, y1, m, rfl, _, _, hy0, hy1⟩ := Go.Joins.open_agg2 Try.underlying27 (by kernel_rfl) (by kernel_rfl) hval h
  obtain ⟨x, rfl, wx⟩ := int_cell Try.underlying5 hy0
  obtain ⟨z, rfl, wz⟩ := int_cell Try.underlying5 hy1
  exact ⟨(x, z), rfl, (wf_u8 wx).1, (wf_u8 wx).2, (wf_u8 wz).1, (wf_u8 wz).2⟩

set_option maxRecDepth 100000 in
set_option maxHeartbeats 4000000 in
theorem apart_ok (v : Value) (css : List (List Value)) (w : World) (hv : Recs w v 2 css) (hF : ∀ cs ∈ css, IsMv cs) (D X : Int) (hD0 : 0 ≤ D) (hD1 : D < 256) (hX0 : 0 ≤ X) (hX1 : X < 256) :
    Calls Try.prog 8 #[v, .agg #[.int .u8 D, .int .u8 X]] w fun e w' => e = .returned (.bool true) ∧ Upd [] w w' := by
  have HV := Lib.hid hv
  obtain ⟨a, cap, rfl, hcc, hcm, _⟩ := hv
  have hm : cap ≤ 9223372036854775807 := by unfold maxLen at hcm; omega
  have HF := Lib.hid hF; clear hF
  obtain ⟨K, hK, hK1, hK2⟩ : ∃ K : Nat, (if (100 : Int) < (css.length : Int) then (100 : Int) else (css.length : Int)) = (K : Int) ∧ K ≤ css.length ∧ K ≤ 100 := by
    by_cases h : (100 : Int) < css.length
    · exact ⟨100, by rw [if_pos h]; rfl, by omega, by omega⟩
    · exact ⟨css.length, by rw [if_neg h], by omega, by omega⟩
  obtain ⟨j, hj⟩ : ∃ j : Nat, X % 16 = j := ⟨(X % 16).toNat, by omega⟩
  have hj16 : j < 16 := by omega
  go_enter Try.func8, Try.ntmps8
  go_wp2_with fail
  have hM0 : (w.alloc (Obj.cells #[.int .u8 D, .int .u8 X] 27)).heap[w.heap.size]? = some (.cells #[.int .u8 D, .int .u8 X] 27 (0, 0)) := new_of _ _
  have uw : Upd [] w (w.alloc (Obj.cells #[.int .u8 D, .int .u8 X] 27)) := (Upd.refl _ _).alloc _
  generalize w.alloc (Obj.cells #[.int .u8 D, .int .u8 X] 27) = w0 at hM0 uw ⊢
  have hMw : w.heap.size ≤ w.heap.size := Nat.le_refl _
  generalize hMe : w.heap.size = M at hM0 ⊢
  clear hMw
  have HM := Lib.hid (Nat.le_of_eq hMe); clear hMe
  refine (new_at _).mono ?_; rintro e w1 ⟨rfl, a1, u1⟩
  have hm0 : w.heap.size ≤ w0.heap.size := uw.size
  have hMm : M < w0.heap.size := lt_of_block hM0
  generalize w0.heap.size = m at a1 hm0 hMm ⊢
  have HM0 := Lib.hid hm0; clear hm0
  generalize hb : m + 1 = b at *
  clear hb
  have hM1 := u1.keep hM0 (by simp)
  have up1 := uw.trans u1
  clear hM0 u1 uw
  go_wp2_with fail
  clear hK
  go_loopw [33] (fun i wr => ∃ (k : Nat) (f : Nat → Nat), k ≤ K ∧ i = .int .i64 k ∧ ClAt wr b m f ∧ wr.heap[M]? = some (.cells #[.int .u8 D, .int .u8 X] 27 (0, 0)) ∧ Upd [] w wr) (fun i _ => K - (intOf i).toNat)
  case atStart => exact ⟨0, _, by omega, rfl, a1, hM1, up1⟩
  case round =>
    obtain ⟨k, f, hk, rfl, hst, hMc, hup⟩ := hrel
    by_cases hlt : k < K
    · obtain ⟨ab, off, rfl, hab, hcl, hat⟩ := (HV.out.upd hup (by simp)).at (show k < css.length by omega)
      obtain ⟨d, x, hcs, hd0, hd1, hx0, hx1⟩ := HF.out _ (List.getElem_mem (show k < css.length by omega))
      have hc0 : wr.cell? ⟨ab, off + k * 2, none⟩ = some (.int .u8 d) := hat 0 _ (by rw [hcs]; rfl)
      have hc1 : wr.cell? ⟨ab, off + k * 2 + 1, none⟩ = some (.int .u8 x) := hat 1 _ (by rw [hcs]; rfl)
      clear hcl hat hcs
      have HMC := Lib.hid hMc; clear hMc
      go_wp2_with fail
      have up2 : Upd [] wr (wr.alloc (Obj.cells #[.int .u8 d, .int .u8 x] 27)) := (Upd.refl [] wr).alloc _
      refine (do_at b m f d x _ (hst.upd up2 (by simp) (by simp)) hd0 hd1 hx0 hx1).mono ?_
      unfold DoPost
      rintro e w3 ⟨rfl, a3, u3⟩
      have hw := HM0.out
      have up3 := (hup.trans up2).fresh1 u3 hw
      have hM3 := u3.keep (up2.keep HMC.out (by simp)) (by simpa using (show M ≠ m by omega))
      clear hc0 hc1
      go_wp2_with fail
      go_roundw
      case rel => exact ⟨k + 1, _, by omega, rfl, a3, hM3, up3⟩
      case measure => simp [intOf]; omega
    · have hkK : k = K := by omega
      clear HV HF hlt
      go_wp2_with fail
      refine (copy_at b m f _ hst).mono ?_; rintro e w2 ⟨b2, m2, rfl, a2, u2, hb2, hm2⟩
      have t2 := hst.upd u2 (by simp) (by simp)
      have hM2 := u2.keep hMc (by simp)
      have up2 := hup.trans u2
      have hMl := lt_of_block hMc
      have hml := hst.mlt
      have hne : m ≠ m2 := by omega
      have hne2 : M ≠ m2 := by omega
      have hs2 : w.heap.size ≤ m2 := Nat.le_trans hup.size hm2
      have g0 := cell_of hM2 0
      have g1 := cell_of hM2 1
      clear hMc hst u2 hup hb2 hm2
      go_wp2_with fail
      have HMB := Lib.hid HM.out
      refine (do_at b2 m2 f D X _ a2 hD0 hD1 hX0 hX1).mono ?_
      unfold DoPost
      rw [hj, Int.toNat_natCast]
      rintro e w3 ⟨rfl, a3, u3⟩
      have t3 := t2.keep a2 hne u3
      have up3 := up2.fresh1 u3 hs2
      have hM3 := u3.keep hM2 (by simpa using hne2)
      have hds := doS_dist f (D % 5) (show j < 256 by omega)
      have hcf := card_le f
      have hcg := card_le (doS f (D % 5) j)
      generalize hgd : doS f (D % 5) j = g at *
      have HGD := Lib.hid hgd; clear hgd
      clear g0 g1 t2 a2 u3 hM2 up2
      go_wp2_with fail
      go_loopw [58] (fun x wr => ∃ n : Nat, n ≤ 16 ∧ x = .int .i64 n ∧ ClAt wr b m f ∧ ClAt wr b2 m2 g ∧ wr.heap[M]? = some (.cells #[.int .u8 D, .int .u8 X] 27 (0, 0)) ∧ Upd [] w wr) (fun x _ => 16 - (intOf x).toNat)
      case atStart => exact ⟨0, by omega, rfl, t3, a3, hM3, up3⟩
      case round =>
        obtain ⟨n, hn, rfl, t, c, hMc, hup⟩ := hrel
        by_cases hlt : n < 16
        · by_cases hnj : n = j
          · subst hnj
            have ht : ((n : Int) != X % 16) = false := by simp; omega
            have HJ := Lib.hid hj; clear hj
            go_wp2_with fail
            refine (get_at b m f n _ t (by omega)).mono ?_; rintro e w4 ⟨rfl, u4⟩
            go_wp2_with fail
            have hX4 : (w4.alloc (Obj.cells #[.int .i64 (gI f n), .int .i64 (f n)] 31)).heap[w4.heap.size]? = some (.cells #[.int .i64 (gI f n), .int .i64 (f n)] 31 (0, 0)) := new_of _ _
            have uu4 : Upd [] wr (w4.alloc (Obj.cells #[.int .i64 (gI f n), .int .i64 (f n)] 31)) := u4.alloc _
            generalize w4.alloc (Obj.cells #[.int .i64 (gI f n), .int .i64 (f n)] 31) = w5 at hX4 uu4 ⊢
            generalize w4.heap.size = X4 at hX4 ⊢
            have hget := get_at b2 m2 g n w5 (c.upd uu4 (by simp) (by simp)) (by omega)

            refine hget.mono ?_; clear hget; rintro e w6 ⟨rfl, u6⟩
            have g4 := u6.keep hX4 (by simp)
            have x0 := cell_of g4 0
            have x1 := cell_of g4 1
            have hl4 := lt_of_block g4
            have up6 : Upd [] wr w6 := uu4.trans u6
            have gm := up6.keep hMc (by simp)
            have k1 := cell_of gm 1
            have hlM := lt_of_block gm
            have HGM := Lib.hid hMc
            clear g4 hX4 hMc gm u4 u6
            go_wp2_with fail
            go_roundw
            case rel =>
              have up7 : Upd [] wr (w6.alloc (Obj.cells #[.int .i64 (gI g n), .int .i64 (g n)] 31)) := up6.alloc _
              exact ⟨n + 1, by omega, rfl, t.upd up7 (by simp) (by simp), c.upd up7 (by simp) (by simp), up7.keep HGM.out (by simp), hup.trans up7⟩
            case measure => simp [intOf]; omega

          · skip
            have ht : ((n : Int) != X % 16) = true := by simp; omega
            have hg : g n = f n := by rw [← HGD.out]; exact doS_other f _ hnj
            clear hnj
            have hgI : gI g n = gI f n := by unfold gI; rw [hg]
            have hgE : findE g n = findE f n := by unfold findE; rw [hg]
            have HJ := Lib.hid hj; clear hj
            go_wp2_with fail
            refine (get_at b m f n _ t (by omega)).mono ?_; rintro e w4 ⟨rfl, u4⟩
            go_wp2_with fail
            have hX4 : (w4.alloc (Obj.cells #[.int .i64 (gI f n), .int .i64 (f n)] 31)).heap[w4.heap.size]? = some (.cells #[.int .i64 (gI f n), .int .i64 (f n)] 31 (0, 0)) := new_of _ _
            have uu4 : Upd [] wr (w4.alloc (Obj.cells #[.int .i64 (gI f n), .int .i64 (f n)] 31)) := u4.alloc _
            generalize w4.alloc (Obj.cells #[.int .i64 (gI f n), .int .i64 (f n)] 31) = w5 at hX4 uu4 ⊢
            generalize w4.heap.size = X4 at hX4 ⊢
            have hget := get_at b2 m2 g n w5 (c.upd uu4 (by simp) (by simp)) (by omega)
            rw [hg, hgI, hgE] at hget
            refine hget.mono ?_; clear hget; rintro e w6 ⟨rfl, u6⟩
            have g4 := u6.keep hX4 (by simp)
            have x0 := cell_of g4 0
            have x1 := cell_of g4 1
            have hl4 := lt_of_block g4
            have up6 : Upd [] wr w6 := uu4.trans u6
            have gm := up6.keep hMc (by simp)
            have k1 := cell_of gm 1
            have hlM := lt_of_block gm
            have HGM := Lib.hid hMc
            clear g4 hX4 hMc gm u4 u6
            go_wp2_with fail
            go_roundw
            case rel =>
              have up7 : Upd [] wr (w6.alloc (Obj.cells #[.int .i64 (gI f n), .int .i64 (f n)] 31)) := up6.alloc _
              exact ⟨n + 1, by omega, rfl, t.upd up7 (by simp) (by simp), c.upd up7 (by simp) (by simp), up7.keep HGM.out (by simp), hup.trans up7⟩
            case measure => simp [intOf]; omega

        · obtain rfl : n = 16 := by omega
          rw [show Value.int .i64 ((16 : Nat) : Int) = .int .i64 16 from rfl]
          have hml := t.mlt
          have hMl := lt_of_block hMc
          go_wp2_with fail
          refine (copy_at b2 m2 g _ c).mono ?_; rintro e w4 ⟨b3, m3, rfl, a4, u4, hb3, hm3⟩
          have t4 := t.upd u4 (by simp) (by simp)
          have c4 := c.upd u4 (by simp) (by simp)
          have hM4 := u4.keep hMc (by simp)
          have up4 := hup.trans u4
          have hne3 : m3 ≠ m := by omega
          have hMm2 : M ≠ m := by omega
          have g0 := cell_of hM4 0
          have g1 := cell_of hM4 1
          clear hMc t c u4 hup hb3
          go_wp2_with fail
          refine (len_at b m f _ t4).mono ?_; rintro e wx ⟨rfl, rfl⟩
          go_wp2_with fail
          refine (len_at b2 m2 g _ c4).mono ?_; rintro e wx ⟨rfl, rfl⟩
          go_wp2_with fail
          refine (len_at b2 m2 g _ c4).mono ?_; rintro e wx ⟨rfl, rfl⟩
          go_wp2_with fail
          refine (len_at b m f _ t4).mono ?_; rintro e wx ⟨rfl, rfl⟩
          go_wp2_with fail
          refine (do_at b m f D X _ t4 hD0 hD1 hX0 hX1).mono ?_
          unfold DoPost
          rw [hj, Int.toNat_natCast, HGD.out]
          rintro e w5 ⟨rfl, t5, u5⟩
          have c5 := a4.keep t4 hne3 u5
          have hw := HM0.out
          have up5 := up4.fresh1 u5 hw
          clear g0 g1 hM4 a4 t4 u5 up4 c4
          go_wp2_with fail
          go_loopw [118] (fun x wr => ∃ n : Nat, n ≤ 16 ∧ x = .int .i64 n ∧ ClAt wr b m g ∧ ClAt wr b3 m3 g ∧ Upd [] w wr) (fun x _ => 16 - (intOf x).toNat)
          case atStart => exact ⟨0, by omega, rfl, t5, c5, up5⟩
          case round =>
            obtain ⟨n, hn, rfl, t, c, hup⟩ := hrel
            by_cases hlt : n < 16
            · go_wp2_with fail
              refine (get_at b m g n _ t (by omega)).mono ?_; rintro e w4 ⟨rfl, u4⟩
              go_wp2_with fail
              have hX4 : (w4.alloc (Obj.cells #[.int .i64 (gI g n), .int .i64 (g n)] 31)).heap[w4.heap.size]? = some (.cells #[.int .i64 (gI g n), .int .i64 (g n)] 31 (0, 0)) := new_of _ _
              have uu4 : Upd [] wr (w4.alloc (Obj.cells #[.int .i64 (gI g n), .int .i64 (g n)] 31)) := u4.alloc _
              generalize w4.alloc (Obj.cells #[.int .i64 (gI g n), .int .i64 (g n)] 31) = w5 at hX4 uu4 ⊢
              generalize w4.heap.size = X4 at hX4 ⊢
              refine (get_at b3 m3 g n w5 (c.upd uu4 (by simp) (by simp)) (by omega)).mono ?_; rintro e w6 ⟨rfl, u6⟩
              have g4 := u6.keep hX4 (by simp)
              have x0 := cell_of g4 0
              have x1 := cell_of g4 1
              have hl4 := lt_of_block g4
              have up6 : Upd [] wr w6 := uu4.trans u6
              clear g4 hX4 u4 u6
              go_wp2_with fail
              go_roundw
              case rel =>
                have up7 : Upd [] wr (w6.alloc (Obj.cells #[.int .i64 (gI g n), .int .i64 (g n)] 31)) := up6.alloc _
                exact ⟨n + 1, by omega, rfl, t.upd up7 (by simp) (by simp), c.upd up7 (by simp) (by simp), hup.trans up7⟩
              case measure => simp [intOf]; omega
            · go_wp2_with fail
              refine (works_ok _).mono ?_; rintro e w9 ⟨rfl, u9⟩
              go_wp2_with fail
              go_ret
              exact ⟨rfl, hup.trans u9⟩

theorem apart_fr (w : World) (v : Value) (css : List (List Value)) (hv : Recs w v 2 css ∧ ∀ cs ∈ css, IsMv cs) (v2 : Value) (z : Int × Int) (hz : v2 = .agg #[.int .u8 z.1, .int .u8 z.2] ∧ 0 ≤ z.1 ∧ z.1 < 256 ∧ 0 ≤ z.2 ∧ z.2 < 256) :
    Calls Try.prog 8 #[v, v2] w fun e w' => e = .returned (.bool true) ∧ Upd [] w w' := by
  obtain ⟨rfl, h0, h1, h2, h3⟩ := hz
  exact apart_ok v css w hv.1 hv.2 z.1 z.2 h0 h1 h2 h3

end Go.Proofs.Ytphpimbhhmkdkaa
