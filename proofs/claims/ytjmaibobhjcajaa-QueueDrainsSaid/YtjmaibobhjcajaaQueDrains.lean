/-
  QueueDrains: draining in two parts is draining once, and polling so often. Conditions: none.
-/
import Derived.Test.YtjmaibobhjcajaaQueMade
import Derived.Test.YtjmaibobhjcajaaAppG
namespace Go.Proofs.Ytjmaibobhjcajaa
open Go.RowKit

theorem take_len (l : List Int) (m : Int) : (l.take (drK l m)).length = drK l m := by
  have : drK l m ≤ l.length := Nat.min_le_left _ _
  simp; omega
theorem Ints.ofDrain {w : World} {base : Nat} {v : Value} {l : List Int} {m : Int} (h : w.ownsRow base 3 1 v (drK l m) ((l.take (drK l m)).map (Value.int .i64))) : Ints w v (l.take (drK l m)) := by
  refine Ints.ofOwn (base := base) ?_
  rw [take_len]; exact h
theorem drK_two {l : List Int} {a b : Int} (ha : 0 ≤ a) (hb : 0 ≤ b) : drK l a + drK (l.drop (drK l a)) b = drK l (a + b) := by
  unfold drK; rw [List.length_drop]; omega

set_option maxRecDepth 100000 in
set_option maxHeartbeats 4000000 in
theorem drains_ok (sz : Int) (h0 : 0 ≤ sz) (h1 : sz < 256) (v : Value) (css : List (List Value)) (a b : Int) (ha0 : 0 ≤ a) (ha1 : a < 256) (hb0 : 0 ≤ b) (hb1 : b < 256) (w : World) (hv : Recs w v 2 css) (hF : ∀ cs ∈ css, IsTurn cs) :
    Calls Try.prog 9 #[.int .u8 sz, v, .int .u8 a, .int .u8 b] w fun e w' => e = .returned (.bool true) ∧ Upd [] w w' := by
  have HM := Lib.hid (fun w' (h : Recs w' v 2 css) => made_ok sz h0 h1 v css w' h hF)
  have HV := Lib.hid hv
  obtain ⟨av, cap, rfl, hcc, hcm, -⟩ := hv
  have hm : cap ≤ 9223372036854775807 := by unfold maxLen at hcm; omega
  obtain ⟨i0, hi, hz0, hz1, hz2⟩ := info_parts info3
  by_cases hlong : 150 < css.length
  · go_enter Try.func9, Try.ntmps9
    go_wp2_with fail
    refine (works_ok _).mono ?_; rintro e w1 ⟨rfl, u1⟩
    go_wp2_with fail
    go_ret
    exact ⟨rfl, u1⟩
  · go_enter Try.func9, Try.ntmps9
    go_wp2_with fail
    refine (HM.out _ HV.out).mono ?_; rintro e w1 ⟨want, rfl, a1, hown, u1⟩
    obtain ⟨wa, wc, rfl, hwc, hwm⟩ := (Ints.ofOwn hown).form
    have hok := a1.ok
    generalize runQ (1 + sz % 64).toNat css = q at *
    obtain ⟨size, l⟩ := q
    generalize hbb : w.heap.size = c at a1 ⊢
    have HW := Lib.hid (Nat.le_of_eq hbb); clear hbb hown
    have hl64 : l.length ≤ 64 := Nat.le_trans hok.2.2.1 hok.2.1
    clear hok
    go_wp2_with fail
    refine (copy_any a1).mono ?_; rintro e w2 ⟨rfl, o2, u2⟩
    have hco := a1.lt
    have hob := u1.size
    generalize w1.heap.size = o at *
    have a2 := a1.upd u2 (by simp)
    have up2 := u1.trans u2
    clear a1 u1 u2
    go_wp2_with fail
    refine (copy_any a2).mono ?_; rintro e w3 ⟨rfl, t3, u3⟩
    have hot := o2.lt
    have htb := up2.size
    generalize w2.heap.size = t at *
    have a3 := a2.upd u3 (by simp)
    have o3 := o2.upd u3 (by simp)
    have up3 := up2.trans u3
    clear a2 o2 up2 u3
    go_wp2_with fail
    refine (drain_any a a3 ha0).mono ?_; rintro e w4 ⟨vx, rfl, hox, a4, u4⟩
    obtain ⟨xa, xc, rfl, hxc, hxm, -, -⟩ := owns_form hox
    have hx4 := Ints.ofDrain hox
    have o4 := o3.upd u4 (by simp; omega)
    have t4 := t3.upd u4 (by simp; omega)
    have up4 := up3.fresh1 u4 HW.out
    clear hox a3 o3 t3 up3 u4
    go_wp2_with fail
    refine (drain_any b a4 hb0).mono ?_; rintro e w5 ⟨vy, rfl, hoy, a5, u5⟩
    obtain ⟨ya, yc, rfl, hyc, hym, -, -⟩ := owns_form hoy
    have hy5 := Ints.ofDrain hoy
    have hx5 := hx4.q a4 u5
    have o5 := o4.upd u5 (by simp; omega)
    have t5 := t4.upd u5 (by simp; omega)
    have up5 := up4.fresh1 u5 HW.out
    clear hoy a4 o4 t4 up4 u5 hx4
    go_wp2_with fail
    refine (drain_any (a + b) o5 (by omega)).mono ?_; rintro e w6 ⟨vz, rfl, hoz, o6, u6⟩
    obtain ⟨za, zc, rfl, hzc, hzm, -, -⟩ := owns_form hoz
    have hz6 := Ints.ofDrain hoz
    have hx6 := hx5.q o5 u6
    have hy6 := hy5.q o5 u6
    have a6 := a5.upd u6 (by simp; omega)
    have t6 := t5.upd u6 (by simp; omega)
    have up6 := up5.fresh1 u6 hob
    clear hoz a5 o5 t5 up5 u6 hx5 hy5
    have hsum := drK_two (l := l) ha0 hb0
    have hcat : l.take (drK l a) ++ (l.drop (drK l a)).take (drK (l.drop (drK l a)) b) = l.take (drK l (a + b)) := by rw [← hsum, List.take_add]
    have hdrop : (l.drop (drK l a)).drop (drK (l.drop (drK l a)) b) = l.drop (drK l (a + b)) := by rw [← hsum, List.drop_drop]
    have hxl := take_len l a
    have hyl := take_len (l.drop (drK l a)) b
    have hzl := take_len l (a + b)
    have hkz : drK l (a + b) ≤ l.length := Nat.min_le_left _ _
    have hmz1 : (if (l.length : Int) < a + b then (l.length : Int) else a + b) = (drK l (a + b) : Int) := by unfold drK; split <;> omega
    have hmz2 : (if a + b < (l.length : Int) then a + b else (l.length : Int)) = (drK l (a + b) : Int) := by unfold drK; split <;> omega
    have hmx1 : (if (l.length : Int) < a then (l.length : Int) else a) = (drK l a : Int) := by unfold drK; split <;> omega
    have hmx2 : (if a < (l.length : Int) then a else (l.length : Int)) = (drK l a : Int) := by unfold drK; split <;> omega
    dsimp only at hx6 hy6 hz6 a6 o6 t6 hxc hyc hzc
    rw [hdrop] at a6
    have HX6 := Lib.hid hx6; have HY6 := Lib.hid hy6; have HZ6 := Lib.hid hz6
    have HCAT := Lib.hid hcat
    clear hx6 hy6 hz6 hcat hdrop hsum
    generalize hka : drK l a = ka at *
    generalize hkb : drK (l.drop ka) b = kb at *
    generalize hkz : drK l (a + b) = kz at *
    have HKA := Lib.hid hka; have HKB := Lib.hid hkb; have HKZ := Lib.hid hkz
    clear hka hkb hkz
    have hxm' : xc ≤ 9223372036854775807 := by unfold maxLen at hxm; omega
    have hym' : yc ≤ 9223372036854775807 := by unfold maxLen at hym; omega
    have hzm' : zc ≤ 9223372036854775807 := by unfold maxLen at hzm; omega
    have HXL := Lib.hid hxl; have HYL := Lib.hid hyl; have HZL := Lib.hid hzl
    clear hxl hyl hzl
    have hka64 : ka ≤ 64 := by have := HKA.out; unfold drK at this; omega
    have hkb64 : kb ≤ 64 := by have := HKB.out; unfold drK at this; rw [List.length_drop] at this; omega
    have hx7 := HX6.out.upd0 ((Upd.refl [] w6).alloc (.cells #[] 3)); unfold Ints at hx7; rw [HXL.out] at hx7
    have HX7 := Lib.hid hx7; clear hx7
    have hwt : o < w6.heap.size := by have := o6.lt; omega
    go_wp2_with (at_builtin; refine wpList_append_anyG _ (by rfl) (.tmp 79) (.tmp 80) 25 rfl w6.heap.size 3 i0 (.int .i64 0) 1 8 Try.underlying25 hi hz0 hz1 hz2 rfl (by decide) _ 0 [] rfl (owns_lit0 _ 3 1) _ ka _ rfl HX7.out (by unfold maxLen; omega) (by omega) (by simp) ?_)
    intro g1 c1 w7 hown7 hgrow7
    have u7 : Upd [] w6 w7 := ((Upd.refl _ _).alloc _).grown hgrow7 (fun k hk => by simp [Value.ownBlock] at hk; omega)
    have hy7 := HY6.out.upd0 u7; unfold Ints at hy7; rw [HYL.out] at hy7
    have HY7 := Lib.hid hy7; clear hy7
    have OWN7 := Lib.hid hown7; clear hgrow7 hown7 HX7 HX6
    have h76 := u7.size
    go_wp2_with (at_builtin; refine wpList_append_anyG _ (by rfl) (.tmp 81) (.tmp 82) 25 rfl w6.heap.size 3 i0 (.int .i64 0) 1 8 Try.underlying25 hi hz0 hz1 hz2 rfl (by decide) _ ka _ rfl OWN7.out _ kb _ rfl HY7.out (by unfold maxLen; omega) (by omega) h76 ?_)
    intro g2 c2 w8 hown8 hgrow8
    have u8 : Upd [] w6 w8 := u7.grown hgrow8 (fun k hk => (OWN7.out.lt k hk).1)
    have hs8 : Ints w8 (.slice g2 (ka + kb) c2) (l.take kz) := by
      rw [← HCAT.out]
      refine Ints.ofOwn (base := w6.heap.size) ?_
      rw [List.length_append, HXL.out, HYL.out, List.map_append]
      have := hown8
      simpa using this
    have hz8 := HZ6.out.upd0 u8
    have a8 := a6.upd u8 (by simp)
    have o8 := o6.upd u8 (by simp)
    have t8 := t6.upd u8 (by simp)
    have up8 := up6.trans u8
    have HS8 := Lib.hid hs8; have HZ8 := Lib.hid hz8
    obtain ⟨hs1, hs2⟩ : ka + kb ≤ c2 ∧ c2 ≤ 9223372036854775807 := by
      obtain ⟨_, _, _, _, h3, h4, h5, _⟩ := hs8
      simp only [Value.slice.injEq] at h3
      obtain ⟨_, e2, e3⟩ := h3
      unfold maxLen at h5; omega
    clear hown8 hgrow8 OWN7 HY7 HY6 HZ6 hs8 hz8 u7 u8 a6 o6 t6 up6
    go_wp2_with fail
    refine (same_ok _ _ (l.take kz) _ HS8.out HZ8.out).mono ?_; rintro e w9 ⟨rfl, u9⟩
    have hz9 := HZ8.out.upd0 u9
    have a9 := a8.upd u9 (by simp)
    have o9 := o8.upd u9 (by simp)
    have t9 := t8.upd u9 (by simp)
    have up9 := up8.trans u9
    clear a8 o8 t8 up8 u9 HS8 HZ8 hs1 hs2
    go_wp2_with fail
    refine (all_any a9).mono ?_; rintro e w10 ⟨va, rfl, hfa, u10⟩
    have hia : Ints w10 va (l.drop kz) := hfa.1
    obtain ⟨aa, ac, rfl, hac, hacm⟩ := hia.form
    rw [List.length_drop] at hia hac ⊢
    have hz10 := hz9.upd0 u10
    have o10 := o9.upd u10 (by simp)
    have t10 := t9.upd u10 (by simp)
    have up10 := up9.trans u10
    clear a9 o9 t9 up9 u10 hz9 hfa
    go_wp2_with fail
    refine (all_any o10).mono ?_; rintro e w11 ⟨vb, rfl, hfb, u11⟩
    have hib : Ints w11 vb (l.drop kz) := hfb.1
    obtain ⟨ba, bc, rfl, hbc, hbcm⟩ := hib.form
    rw [List.length_drop] at hib hbc ⊢
    have hia11 := hia.upd0 u11
    have hz11 := hz10.upd0 u11
    have o11 := o10.upd u11 (by simp)
    have t11 := t10.upd u11 (by simp)
    have up11 := up10.trans u11
    clear o10 t10 up10 u11 hz10 hfb hia
    go_wp2_with fail
    refine (same_ok _ _ (l.drop kz) _ hia11 hib).mono ?_; rintro e w12 ⟨rfl, u12⟩
    have hz12 := hz11.upd0 u12
    have o12 := o11.upd u12 (by simp)
    have t12 := t11.upd u12 (by simp)
    have up12 := up11.trans u12
    clear o11 t11 up11 u12 hz11 hia11 hib
    go_wp2_with fail
    go_loopw [19] (fun x wr => ∃ i : Nat, i ≤ kz ∧ x = .int .i64 i ∧ QAt wr t ⟨size, l.drop i⟩ ∧ QAt wr o ⟨size, l.drop kz⟩ ∧ Ints wr (.slice za kz zc) (l.take kz) ∧ Upd [] w wr) (fun x _ => kz - (intOf x).toNat)
    case atStart => exact ⟨0, by omega, rfl, by simpa using t12, o12, hz12, up12⟩
    case round =>
      clear t12 o12 hz12 up12
      obtain ⟨i, hi, rfl, t1, o1, hz1, hup⟩ := hrel
      by_cases hlt : i < kz
      · have hil : i < (l.take kz).length := by rw [HZL.out]; exact hlt
        obtain ⟨g, off, rfl, -⟩ := hz1.at hil
        rw [List.drop_eq_getElem_cons (by omega : i < l.length)] at t1
        generalize hxi : l[i] = x at *
        have HZ := Lib.hid hz1; have HXI := Lib.hid hxi; clear hz1 hxi
        go_wp2_with fail
        refine (poll_any t1).mono ?_; rw [show (Qu.mk size (x :: l.drop (i + 1))).pollX = x from rfl, show (Qu.mk size (x :: l.drop (i + 1))).pollB = true from rfl, show (Qu.mk size (x :: l.drop (i + 1))).pollS = ⟨size, l.drop (i + 1)⟩ from rfl]; rintro e w13 ⟨rfl, t2, u13⟩
        have hz2 := HZ.out.q t1 u13
        have o2 := o1.upd u13 (by simp; omega)
        have up2 := hup.fresh1 u13 htb
        obtain ⟨g', off', hga, hg', _, hc'⟩ := hz2.at hil
        rw [List.getElem_take, HXI.out] at hc'
        simp only [Option.some.injEq, Addr.mk.injEq, and_true] at hga
        obtain ⟨rfl, rfl⟩ := hga
        have HZ2 := Lib.hid hz2; clear hz2 t1 o1 HZ u13
        go_wp2_with fail
        go_roundw
        case rel => exact ⟨i + 1, by omega, by go_num, t2, o2, HZ2.out, up2⟩
        case measure => simp [intOf]; omega
      · obtain rfl : i = kz := by omega
        clear hz1
        obtain ⟨wo, rfl⟩ : ∃ wo : World, wo = wr := ⟨_, rfl⟩
        go_wp2_with fail
        refine (all_any t1).mono ?_; rintro e w13 ⟨vc, rfl, hfc, u13⟩
        have hic : Ints w13 vc (l.drop i) := hfc.1
        obtain ⟨ca, cc, rfl, hcc1, hccm⟩ := hic.form
        rw [List.length_drop] at hic hcc1 ⊢
        have o2 := o1.upd u13 (by simp)
        have up2 := hup.trans u13
        clear t1 o1 hup u13 hfc
        go_wp2_with fail
        refine (all_any o2).mono ?_; rintro e w14 ⟨vd, rfl, hfd, u14⟩
        have hid : Ints w14 vd (l.drop i) := hfd.1
        obtain ⟨da, dc, rfl, hdc, hdcm⟩ := hid.form
        rw [List.length_drop] at hid hdc ⊢
        have hic2 := hic.upd0 u14
        have up3 := up2.trans u14
        clear o2 up2 u14 hfd hic
        go_wp2_with fail
        refine (same_ok _ _ (l.drop i) _ hic2 hid).mono ?_; rintro e w15 ⟨rfl, u15⟩
        go_wp2_with fail
        refine (works_ok _).mono ?_; rintro e w16 ⟨rfl, u16⟩
        go_wp2_with fail
        go_ret
        exact ⟨rfl, (up3.trans u15).trans u16⟩

theorem drains_fr (w : World) (sz : Int) (h : (Lit.int .u8 sz).wf = true) (v : Value) (css : List (List Value)) (hv : Recs w v 2 css ∧ ∀ cs ∈ css, IsTurn cs)
    (a : Int) (ha : (Lit.int .u8 a).wf = true) (b : Int) (hb : (Lit.int .u8 b).wf = true) :
    Calls Try.prog 9 #[.int .u8 sz, v, .int .u8 a, .int .u8 b] w fun e w' => e = .returned (.bool true) ∧ Upd [] w w' :=
  drains_ok sz (wf_u8 h).1 (wf_u8 h).2 v css a b (wf_u8 ha).1 (wf_u8 ha).2 (wf_u8 hb).1 (wf_u8 hb).2 w hv.1 hv.2

end Go.Proofs.Ytjmaibobhjcajaa
