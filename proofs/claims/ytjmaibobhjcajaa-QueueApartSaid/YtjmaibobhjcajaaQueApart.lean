/-
  QueueApart: what is returned can be changed; a copy goes on alone. Conditions: none.
-/
import Derived.Test.YtjmaibobhjcajaaQueMade
namespace Go.Proofs.Ytjmaibobhjcajaa
open Go.RowKit

theorem SlAt.put {w : World} {e n c g off : Nat} {xs : List Value} (h : SlAt w e 1 (.slice (some ⟨g, off, none⟩) n c) n xs) {i : Nat} (hi : i < n) {v : Value} (hv : v.oneCell' = true) :
    SlAt (w.setCell ⟨g, off + i, none⟩ v) e 1 (.slice (some ⟨g, off, none⟩) n c) n (xs.set i v) := by
  obtain ⟨h1, h2, a, c', h3, h4, h5, h6, h7⟩ := h
  simp at h3
  obtain ⟨rfl, rfl⟩ := h3
  refine ⟨by simpa using h1, fun x hx => ?_, _, c, rfl, h4, h5, h6, ?_⟩
  · rcases List.mem_or_eq_of_mem_set hx with hx | rfl
    · exact h2 x hx
    · exact hv
  · rcases h7 with h7 | ⟨g', off', cur, ha, hg, hs, hr⟩
    · omega
    · simp at ha
      obtain ⟨rfl, rfl⟩ := ha
      refine .inr ⟨g, off, cur.setIfInBounds (off + i) v, rfl, set_of hg _ _, by simpa using hs, fun j x hx => ?_⟩
      rw [List.getElem?_set] at hx
      rw [Array.getElem?_setIfInBounds]
      by_cases e : i = j
      · subst e
        rw [if_pos rfl] at hx ⊢
        rw [if_pos (by omega)]
        split at hx
        · exact hx
        · cases hx
      · rw [if_neg e] at hx
        rw [if_neg (by omega)]
        exact hr j x hx

set_option maxRecDepth 100000 in
set_option maxHeartbeats 4000000 in
theorem apart_ok (sz : Int) (h0 : 0 ≤ sz) (h1 : sz < 256) (v : Value) (css : List (List Value)) (m : Int) (hm0 : 0 ≤ m) (hm1 : m < 256) (w : World) (hv : Recs w v 2 css) (hF : ∀ cs ∈ css, IsTurn cs) :
    Calls Try.prog 10 #[.int .u8 sz, v, .int .u8 m] w fun e w' => e = .returned (.bool true) ∧ Upd [] w w' := by
  have HM := Lib.hid (fun w' (h : Recs w' v 2 css) => made_ok sz h0 h1 v css w' h hF)
  have HV := Lib.hid hv
  obtain ⟨a, cap, rfl, hcc, hcm, -⟩ := hv
  have hm : cap ≤ 9223372036854775807 := by unfold maxLen at hcm; omega
  by_cases hlong : 100 < css.length
  · go_enter Try.func10, Try.ntmps10
    go_wp2_with fail
    refine (works_ok _).mono ?_; rintro e w1 ⟨rfl, u1⟩
    go_wp2_with fail
    go_ret
    exact ⟨rfl, u1⟩
  · go_enter Try.func10, Try.ntmps10
    go_wp2_with fail
    refine (HM.out _ HV.out).mono ?_; rintro e w1 ⟨want, rfl, a1, hown, u1⟩
    have hint := Ints.ofOwn hown
    have hok := a1.ok
    generalize runQ (1 + sz % 64).toNat css = q at *
    generalize hb : w.heap.size = b at a1 ⊢
    have HW := Lib.hid (Nat.le_of_eq hb); clear hb hown
    have hl64 : q.l.length ≤ 64 := by have := hok.2.1; have := hok.2.2.1; omega
    obtain ⟨wa, wc, rfl, hwc, hwm⟩ := hint.form
    have A1 := Lib.hid a1; have HI1 := Lib.hid hint; have U1 := Lib.hid u1
    clear hint u1 hok
    go_wp2_with fail
    refine (all_any a1).mono ?_; rintro e w2 ⟨va, rfl, hfr, u2⟩
    obtain ⟨xa, xc, rfl, hxc, hxm⟩ := Ints.form hfr.1
    have hfb := hfr.2
    have hsl := hfr.1
    clear hfr a1
    go_wp2_with fail
    go_loopw [10] (fun x wr => ∃ (i : Nat) (xs : List Value), i ≤ q.l.length ∧ x = .int .i64 i ∧ SlAt wr 3 1 (.slice xa q.l.length xc) q.l.length xs ∧ Upd [] w1 wr) (fun x _ => q.l.length - (intOf x).toNat)
    case atStart => exact ⟨0, _, by omega, rfl, hsl, u2⟩
    case round =>
      clear hsl u2
      obtain ⟨i, xs, hi, rfl, hsl, hup⟩ := hrel
      by_cases hlt : i < q.l.length
      · obtain ⟨g, off, rfl, hg, _, hc, cur, hcur⟩ := hsl.at1 hlt
        have hgb := hfb _ _ rfl
        have hxl : i < xs.length := by have := hsl.1; omega
        rw [List.getElem?_eq_getElem hxl] at hc
        have hfz : wr.frozen? ⟨g, off + i, none⟩ = false := free_of hcur (off + i)
        have hput := hsl.put (v := .int .i64 (-1)) hlt rfl
        have HP := Lib.hid hput
        generalize xs[i] = y at *
        clear hput hsl hcur
        go_wp2_with fail
        go_roundw
        case rel => exact ⟨i + 1, _, by omega, by go_num, HP.out, hup.fresh1 (k := g) ((Upd.refl _ _).setCell (by simp) _) hgb⟩
        case measure => simp [intOf]; omega
      · have a2 := A1.out.upd hup (by simp)
        have hint2 := HI1.out.upd0 hup
        have up2 := U1.out.trans hup
        clear hsl hup
        obtain ⟨wo, rfl⟩ : ∃ wo : World, wo = wr := ⟨_, rfl⟩
        go_wp2_with fail
        refine (copy_any a2).mono ?_; rintro e w3 ⟨rfl, c3, u3⟩
        have hcn := a2.lt
        have hcb := up2.size
        generalize wo.heap.size = d at *
        have a3 := a2.upd u3 (by simp)
        have hint3 := hint2.upd0 u3
        have up3 := up2.trans u3
        clear a2 hint2 u3 up2
        go_wp2_with fail
        refine (drain_any m c3 hm0).mono ?_; rintro e w4 ⟨vd, rfl, hown, c4, u4⟩
        have a4 := a3.upd u4 (by simp; omega)
        have hint4 := hint3.q c3 u4
        have up4 := up3.fresh1 u4 hcb
        have hws := u4.size
        have hdl := c3.lt
        have hbase3 := a3.lt
        obtain ⟨ya, yc, rfl, hyc, hym, hyn, hyb⟩ := owns_form hown
        have hsl := SlAt.ofOwn hown (one_ints _)
        have hym' : yc ≤ 9223372036854775807 := by unfold maxLen at hym; omega
        have hwb : w.heap.size ≤ w3.heap.size := up3.size
        have HI3 := Lib.hid hint3
        have HA3 := Lib.hid a3
        have U4 := Lib.hid u4
        have C3 := Lib.hid c3; have UP3 := Lib.hid up3
        clear hown hint3 c3 a3 up3 u4 a4 hint4 up4
        have hkl : drK q.l m ≤ q.l.length := Nat.min_le_left _ _
        generalize drK q.l m = K at *
        go_wp2_with fail
        go_loopw [14] (fun x wr => ∃ (i : Nat) (xs : List Value), i ≤ K ∧ x = .int .i64 i ∧ SlAt wr 3 1 (.slice ya K yc) K xs ∧ QAt wr d ⟨q.size, q.l.drop K⟩ ∧ Upd [d] w3 wr) (fun x _ => K - (intOf x).toNat)
        case atStart => exact ⟨0, _, by omega, rfl, hsl, c4, U4.out⟩
        case round =>
          clear hsl c4
          obtain ⟨i, xs, hi, rfl, hsl, hqd, hup⟩ := hrel
          by_cases hlt : i < K
          · obtain ⟨g, off, rfl, hg, _, hc, cur, hcur⟩ := hsl.at1 hlt
            have hgb := hyb _ rfl
            have hxl : i < xs.length := by have := hsl.1; omega
            rw [List.getElem?_eq_getElem hxl] at hc
            have hfz : wr.frozen? ⟨g, off + i, none⟩ = false := free_of hcur (off + i)
            have hput := hsl.put (v := .int .i64 (-1)) hlt rfl
            have HP := Lib.hid hput
            have hgd : g ≠ d := by
              have : w3.heap.size ≤ g := hgb
              omega
            generalize xs[i] = y at *
            clear hput hsl hcur
            go_wp2_with fail
            go_roundw
            case rel => exact ⟨i + 1, _, by omega, by go_num, HP.out, hqd.upd (S := [g]) ((Upd.refl _ _).setCell (by simp) _) (by simpa using hgd.symm), hup.setNew (p := ⟨g, off + i, none⟩) hgb _⟩
            case measure => simp [intOf]; omega
          · have hbd : b ≠ d := by omega
            have a5 := HA3.out.upd hup (by simpa using hbd)
            have hint5 := HI3.out.q C3.out hup
            have up5 := UP3.out.fresh1 hup hcb
            clear hsl hup
            obtain ⟨wp, rfl⟩ : ∃ wp : World, wp = wr := ⟨_, rfl⟩
            go_wp2_with fail
            refine (add_any 200 hqd).mono ?_; rintro e w6 ⟨rfl, c6, u6⟩
            have a6 := a5.upd u6 (by simpa using hbd)
            have hint6 := hint5.q hqd u6
            have up6 := up5.fresh1 u6 hcb
            clear a5 hint5 up5 hqd c6 u6
            go_wp2_with fail
            refine (all_any a6).mono ?_; rintro e w7 ⟨vb, rfl, hfr, u7⟩
            have a7 := a6.upd u7 (by simp)
            have hint7 := hint6.upd0 u7
            have up7 := up6.trans u7
            clear a6 hint6 up6 u7
            go_wp2_with fail
            refine (same_ok _ _ q.l _ hfr.1 hint7).mono ?_; rintro e w8 ⟨rfl, u8⟩
            have a8 := a7.upd u8 (by simp)
            have hint8 := hint7.upd0 u8
            have up8 := up7.trans u8
            clear a7 hint7 up7 u8 hfr
            go_wp2_with fail
            refine (copy_any a8).mono ?_; rintro e w9 ⟨rfl, c9, u9⟩
            have hcn9 := a8.lt
            have hcb9 := up8.size
            generalize w8.heap.size = d2 at *
            have hbd2 : d2 ≠ b := by omega
            have a9 := a8.upd u9 (by simp)
            have hint9 := hint8.upd0 u9
            have up9 := up8.trans u9
            clear a8 hint8 up8 u9
            go_wp2_with fail
            refine (poll_any a9).mono ?_; rintro e w10 ⟨rfl, a10, u10⟩
            have c10 := c9.upd u10 (by simpa using hbd2)
            have hint10 := hint9.q a9 u10
            have up10 := up9.fresh1 u10 HW.out
            clear a9 hint9 up9 u10 c9
            go_wp2_with fail
            refine (add_any 201 a10).mono ?_; rintro e w11 ⟨rfl, a11, u11⟩
            have c11 := c10.upd u11 (by simpa using hbd2)
            have hint11 := hint10.q a10 u11
            have up11 := up10.fresh1 u11 HW.out
            clear a10 hint10 up10 u11 c10 a11
            go_wp2_with fail
            refine (all_any c11).mono ?_; rintro e w12 ⟨vc, rfl, hfr, u12⟩
            have hint12 := hint11.upd0 u12
            have up12 := up11.trans u12
            clear hint11 up11 u12 c11
            go_wp2_with fail
            refine (same_ok _ _ q.l _ hfr.1 hint12).mono ?_; rintro e w13 ⟨rfl, u13⟩
            go_wp2_with fail
            refine (works_ok _).mono ?_; rintro e w14 ⟨rfl, u14⟩
            go_wp2_with fail
            go_ret
            exact ⟨rfl, (up12.trans u13).trans u14⟩

theorem apart_fr (w : World) (sz : Int) (h : (Lit.int .u8 sz).wf = true) (v : Value) (css : List (List Value)) (hv : Recs w v 2 css ∧ ∀ cs ∈ css, IsTurn cs) (m : Int) (hm : (Lit.int .u8 m).wf = true) :
    Calls Try.prog 10 #[.int .u8 sz, v, .int .u8 m] w fun e w' => e = .returned (.bool true) ∧ Upd [] w w' :=
  apart_ok sz (wf_u8 h).1 (wf_u8 h).2 v css m (wf_u8 hm).1 (wf_u8 hm).2 w hv.1 hv.2

end Go.Proofs.Ytjmaibobhjcajaa
