/-
  QueueRemoves: what is removed is gone, the others keep their order; it can be added again. Conditions: none.
-/
import Derived.Test.YtjmaibobhjcajaaQueMade
import Derived.Test.YtjmaibobhjcajaaAppG
namespace Go.Proofs.Ytjmaibobhjcajaa
open Go.RowKit

theorem remS_filter {q : Qu} (h : q.l.Nodup) (id : Int) : q.remS id = ⟨q.size, q.l.filter (· != id)⟩ := by
  rw [← h.erase_eq_filter, List.erase_eq_eraseIdx]
  unfold Qu.remS fnd List.idxOf?
  cases q.l.findIdx? (· == id) <;> rfl
theorem filter_lt {l : List Int} {id : Int} : decide (((l.filter (· != id)).length : Int) < (l.length : Int)) = decide (id ∈ l) := by
  rw [Bool.eq_iff_iff]
  simp only [decide_eq_true_eq]
  rw [Int.ofNat_lt, List.length_filter_lt_length_iff_exists]
  constructor
  · rintro ⟨x, hx, h⟩
    simp at h; subst h; exact hx
  · intro h
    exact ⟨id, h, by simp⟩

theorem remS_not {size : Nat} {l : List Int} {id : Int} (h : id ∉ l) : (Qu.mk size l).remS id = ⟨size, l⟩ := by
  unfold Qu.remS
  rw [show fnd (Qu.mk size l).l id = none from fnd_none.2 h]

set_option maxRecDepth 100000 in
set_option maxHeartbeats 4000000 in
theorem removes_ok (sz : Int) (h0 : 0 ≤ sz) (h1 : sz < 256) (v : Value) (css : List (List Value)) (id : Int) (hi0 : 0 ≤ id) (hi1 : id < 256) (w : World) (hv : Recs w v 2 css) (hF : ∀ cs ∈ css, IsTurn cs) :
    Calls Try.prog 4 #[.int .u8 sz, v, .int .u8 id] w fun e w' => e = .returned (.bool true) ∧ Upd [] w w' := by
  have HM := Lib.hid (fun w' (h : Recs w' v 2 css) => made_ok sz h0 h1 v css w' h hF)
  have HV := Lib.hid hv
  obtain ⟨av, cap, rfl, hcc, hcm, -⟩ := hv
  have hm : cap ≤ 9223372036854775807 := by unfold maxLen at hcm; omega
  obtain ⟨i0, hi, hz0, hz1, hz2⟩ := info_parts info3
  by_cases hlong : 150 < css.length
  · go_enter Try.func4, Try.ntmps4
    go_wp2_with fail
    refine (works_ok _).mono ?_; rintro e w1 ⟨rfl, u1⟩
    go_wp2_with fail
    go_ret
    exact ⟨rfl, u1⟩
  · go_enter Try.func4, Try.ntmps4
    go_wp2_with fail
    refine (HM.out _ HV.out).mono ?_; rintro e w1 ⟨want, rfl, a1, hown, u1⟩
    have hint := Ints.ofOwn hown
    obtain ⟨wa, wc, rfl, hwc, hwm⟩ := hint.form
    have hok := a1.ok
    have hsz := runQ_size (1 + sz % 64).toNat css
    have hnd := runQ_nodup (1 + sz % 64).toNat css
    generalize runQ (1 + sz % 64).toNat css = q at *
    obtain ⟨size, l⟩ := q
    generalize hbb : w.heap.size = c at a1 ⊢
    have HW := Lib.hid (Nat.le_of_eq hbb); clear hbb hown
    have hl64 : l.length ≤ 64 := Nat.le_trans hok.2.2.1 hok.2.1
    have hls : l.length ≤ size := hok.2.2.1
    have hs64 : size ≤ 64 := hok.2.1
    have hs1 : 1 + sz % 64 = (size : Int) := by dsimp only at hsz; omega
    have HS1 := Lib.hid hs1
    have HRS := Lib.hid (remS_filter (q := ⟨size, l⟩) hnd id)
    have HA1 := Lib.hid a1; have HI1 := Lib.hid hint
    have hcw := a1.lt
    clear hs1 hsz hok hnd a1 hint HM HV
    go_wp2_with fail
    go_loopw [9, 10] (fun x y wr => ∃ (k : Nat) (R : List Int), k ≤ l.length ∧ R = (l.take k).filter (· != id) ∧ R.length ≤ k ∧ y = .int .i64 k ∧ wr.ownsRow w1.heap.size 3 1 x R.length (R.map (Value.int .i64)) ∧ Upd [] w1 wr) (fun _ y _ => l.length - (intOf y).toNat)
    case atStart => exact ⟨0, [], by omega, by simp, by simp, rfl, ⟨rfl, .inl ⟨rfl, rfl⟩⟩, Upd.refl _ _⟩
    case round =>
      obtain ⟨k, R, hk, hR, hRk, rfl, ho, hup⟩ := hrel
      obtain ⟨ra, rc, rfl⟩ := ownsRow_slice ho
      have HR := Lib.hid hR; have HO := Lib.hid ho; clear hR ho
      have hws := hup.size
      by_cases hlt : k < l.length
      · have HI2 := Lib.hid (HI1.out.upd0 hup)
        obtain ⟨g, off, rfl, hg, _, hc⟩ := HI2.out.at hlt
        have HT := Lib.hid (show (l.take (k + 1)).filter (· != id) = (l.take k).filter (· != id) ++ (if (l[k] != id) = true then [l[k]] else []) by
          rw [List.take_succ_eq_append_getElem hlt, List.filter_append, List.filter_cons]; rfl)
        generalize l[k] = x at *
        by_cases hx : (x != id) = true
        · rw [if_pos hx] at HT
          go_wp2_with (at_builtin; refine wpList_append_any _ rfl (.tmp 37) (.tmp 42) 25 rfl w1.heap.size 3 i0 (.int .i64 0) 1 8 Try.underlying25 hi hz0 hz1 hz2 rfl (by decide) _ R.length _ rfl (HO.out.alloc _) _ 1 [.int .i64 x] rfl (sl_lit1 _ _ _ _) ?c1 ?c2 ?c3 ?_)
          case c1 => unfold maxLen; omega
          case c2 => omega
          case c3 => first | omega | (simp; omega)
          intro g3 c3 w3 hown3 hgrow
          have u3 : Upd [] w1 w3 := (hup.alloc _).grown hgrow (fun g hg => (HO.out.lt g hg).1)
          have HO3 := Lib.hid hown3; clear hown3 hgrow
          go_wp2_with fail
          go_roundw
          case rel => exact ⟨k + 1, R ++ [x], by omega, by rw [HT.out, HR.out], by simp; omega, by go_num, by simpa using HO3.out, u3⟩
          case measure => simp [intOf]; omega
        · have hx' : (x != id) = false := by simpa using hx
          rw [if_neg hx] at HT
          clear hx
          go_wp2_with fail
          go_roundw
          case rel => exact ⟨k + 1, R, by omega, by rw [HT.out, HR.out, List.append_nil], by omega, by go_num, HO.out, hup⟩
          case measure => simp [intOf]; omega
      · obtain rfl : k = l.length := by omega
        have hRf : R = l.filter (· != id) := by have := HR.out; rwa [List.take_length] at this
        have hcmp : decide ((R.length : Int) < (l.length : Int)) = decide (id ∈ l) := by rw [hRf]; exact filter_lt
        have hnR : id ∉ R := by rw [hRf]; simp
        have HRS2 := Lib.hid (show (Qu.mk size l).remS id = ⟨size, R⟩ by rw [HRS.out, hRf])
        have HNR := Lib.hid (remS_not (size := size) hnR)
        have hrem : (Qu.mk size R).remB id = false := decide_eq_false hnR
        have HREM := Lib.hid hrem
        have hrem1 : (Qu.mk size l).remB id = decide (R.length < l.length) := by rw [show (Qu.mk size l).remB id = decide (id ∈ l) from rfl, ← hcmp, Bool.eq_iff_iff]; simp
        have HREM1 := Lib.hid hrem1; clear hcmp
        have HNM := Lib.hid hnR
        have hr1 := Ints.ofOwn HO.out
        have hrc : R.length ≤ rc ∧ rc ≤ 9223372036854775807 := by
          obtain ⟨_, _, h3, h4, h5⟩ := hr1.form
          simp only [Value.slice.injEq] at h3
          omega
        obtain ⟨hrc1, hrc2⟩ := hrc
        have hR1 := Lib.hid hr1
        have a1 := HA1.out.upd hup (by simp)
        have up1 := u1.trans hup
        clear HR hRf hnR hrem hrem1 hr1 HA1 HI1 HO u1 hup HRS
        obtain ⟨wo, rfl⟩ : ∃ wo : World, wo = wr := ⟨_, rfl⟩
        go_wp2_with fail
        refine (rem_any id a1).mono ?_; rw [HRS2.out, HREM1.out]; rintro e w2 ⟨rfl, a2, u2⟩
        have hr2 := hR1.out.q a1 u2
        have up2 := up1.fresh1 u2 HW.out
        clear a1 up1 u2 hR1
        go_wp2_with fail
        refine (all_any a2).mono ?_; rintro e w3 ⟨va, rfl, hfa, u3⟩
        have hia : Ints w3 va R := hfa.1
        obtain ⟨aa, ac, rfl, hac, hacm⟩ := hia.form
        have hr3 := hr2.upd0 u3
        have a3 := a2.upd u3 (by simp)
        have up3 := up2.trans u3
        clear a2 up2 u3 hr2 hfa
        go_wp2_with fail
        refine (same_ok _ _ R _ hia hr3).mono ?_; rintro e w4 ⟨rfl, u4⟩
        have HR4 := Lib.hid (hr3.upd0 u4)
        have a4 := a3.upd u4 (by simp)
        have up4 := up3.trans u4
        clear a3 up3 u4 hr3 hia
        go_wp2_with fail
        refine (rem_any id a4).mono ?_; rw [HNR.out, HREM.out]; rintro e w5 ⟨rfl, a5, u5⟩
        have hr5 := HR4.out.q a4 u5
        have up5 := up4.fresh1 u5 HW.out
        clear a4 up4 u5 HR4
        go_wp2_with fail
        refine (all_any a5).mono ?_; rintro e w6 ⟨vb, rfl, hfb, u6⟩
        have hib : Ints w6 vb R := hfb.1
        obtain ⟨ba, bc, rfl, hbc, hbcm⟩ := hib.form
        have hr6 := hr5.upd0 u6
        have a6 := a5.upd u6 (by simp)
        have up6 := up5.trans u6
        clear a5 up5 u6 hr5 hfb
        go_wp2_with fail
        refine (same_ok _ _ R _ hib hr6).mono ?_; rintro e w7 ⟨rfl, u7⟩
        have hr7 := hr6.upd0 u7
        have a7 := a6.upd u7 (by simp)
        have up7 := up6.trans u7
        clear a6 up6 u7 hr6 hib
        by_cases hfull : R.length = size
        · have HE := Lib.hid (show (Qu.mk size R).addE id = 4 by unfold Qu.addE; rw [if_pos ⟨hi0, hi1⟩, if_neg HNM.out, if_pos hfull])
          have hz : ((R.length : Int) == 1 + sz % 64) = true := by simp; have := HS1.out; omega
          clear hfull
          go_wp2_with fail
          refine (add_any id a7).mono ?_; rw [HE.out]; rintro e w8 ⟨rfl, -, u8⟩
          have up8 := up7.fresh1 u8 HW.out
          go_wp2_with fail
          refine (works_ok _).mono ?_; rintro e w9 ⟨rfl, u9⟩
          go_wp2_with fail
          go_ret
          exact ⟨rfl, up8.trans u9⟩
        · have HE := Lib.hid (show (Qu.mk size R).addE id = 0 by unfold Qu.addE; rw [if_pos ⟨hi0, hi1⟩, if_neg HNM.out, if_neg hfull])
          have HS := Lib.hid (show (Qu.mk size R).addS id = ⟨size, R ++ [id]⟩ from addS_new hi0 hi1 HNM.out (by show R.length < size; omega))
          have hz : ((R.length : Int) == 1 + sz % 64) = false := by simp; have := HS1.out; omega
          clear hfull
          go_wp2_with fail
          refine (add_any id a7).mono ?_; rw [HE.out, HS.out]; rintro e w8 ⟨rfl, a8, u8⟩
          have hr8 := hr7.q a7 u8
          have up8 := up7.fresh1 u8 HW.out
          clear a7 up7 u8 hr7
          go_wp2_with fail
          refine (all_any a8).mono ?_; rintro e w9 ⟨vd, rfl, hfd, u9⟩
          have hid : Ints w9 vd (R ++ [id]) := hfd.1
          obtain ⟨da, dc, rfl, hdc, hdcm⟩ := hid.form
          rw [List.length_append, List.length_singleton] at hid hdc ⊢
          have hr9 := hr8.upd0 u9
          have up9 := up8.trans u9
          have HD9 := Lib.hid hid
          have hrx := hr9.upd0 ((Upd.refl [] w9).alloc (.cells #[] 3)); unfold Ints at hrx
          have HRX := Lib.hid hrx
          clear a8 up8 u9 hr8 hfd hr9 hid hrx
          go_wp2_with (at_builtin; refine wpList_append_anyG _ (by rfl) (.tmp 95) (.tmp 96) 25 rfl w9.heap.size 3 i0 (.int .i64 0) 1 8 Try.underlying25 hi hz0 hz1 hz2 rfl (by decide) _ 0 [] rfl (owns_lit0 _ 3 1) _ R.length _ rfl HRX.out (by unfold maxLen; omega) (by omega) (by simp) ?_)
          intro g1 c1 wa1 hown1 hgrow1
          have ua : Upd [] w9 wa1 := ((Upd.refl _ _).alloc _).grown hgrow1 (fun k hk => by simp [Value.ownBlock] at hk; omega)
          have OWN1 := Lib.hid hown1; clear hgrow1 hown1 HRX
          have hwa := ua.size
          go_wp2_with (at_builtin; refine wpList_append_anyG _ (by rfl) (.tmp 97) (.tmp 100) 25 rfl w9.heap.size 3 i0 (.int .i64 0) 1 8 Try.underlying25 hi hz0 hz1 hz2 rfl (by decide) _ R.length _ rfl (OWN1.out.alloc _) _ 1 [.int .i64 id] rfl (sl_lit1 _ _ _ _) (by unfold maxLen; omega) (by omega) (by first | omega | (simp; omega)) ?_)
          intro g2 c2 wb hown2 hgrow2
          have ub : Upd [] w9 wb := (ua.alloc _).grown hgrow2 (fun k hk => (OWN1.out.lt k hk).1)
          have hs := Ints.ofOwn (w := wb) (base := w9.heap.size) (v := .slice g2 (R.length + 1) c2) (l := R ++ [id]) (by rw [List.length_append, List.length_singleton, List.map_append]; simpa using hown2)
          have hd2 := HD9.out.upd0 ub
          have hcs : R.length + 1 ≤ c2 ∧ c2 ≤ 9223372036854775807 := by
            obtain ⟨_, _, h3, h4, h5⟩ := hs.form
            simp only [Value.slice.injEq] at h3
            rw [List.length_append, List.length_singleton] at h4
            omega
          obtain ⟨hc1, hc2⟩ := hcs
          have HS1 := Lib.hid hs; have HD1 := Lib.hid hd2
          have upb := up9.trans ub
          clear hs hd2 hown2 hgrow2 OWN1 ua ub HD9 up9
          go_wp2_with fail
          refine (same_ok _ _ (R ++ [id]) _ HD1.out HS1.out).mono ?_; rintro e wx ⟨rfl, ux⟩
          go_wp2_with fail
          refine (works_ok _).mono ?_; rintro e wy ⟨rfl, uy⟩
          go_wp2_with fail
          go_ret
          exact ⟨rfl, (upb.trans ux).trans uy⟩

theorem removes_fr (w : World) (sz : Int) (h : (Lit.int .u8 sz).wf = true) (v : Value) (css : List (List Value)) (hv : Recs w v 2 css ∧ ∀ cs ∈ css, IsTurn cs) (m : Int) (hm : (Lit.int .u8 m).wf = true) :
    Calls Try.prog 4 #[.int .u8 sz, v, .int .u8 m] w fun e w' => e = .returned (.bool true) ∧ Upd [] w w' :=
  removes_ok sz (wf_u8 h).1 (wf_u8 h).2 v css m (wf_u8 hm).1 (wf_u8 hm).2 w hv.1 hv.2

end Go.Proofs.Ytjmaibobhjcajaa
