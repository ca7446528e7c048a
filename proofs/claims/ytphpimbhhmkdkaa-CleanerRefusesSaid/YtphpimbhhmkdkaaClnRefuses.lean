/-
  CleanerRefuses. Conditions: none.
-/
import Derived.Test.YtphpimbhhmkdkaaClnAbs
namespace Go.Proofs.Ytphpimbhhmkdkaa
open Go.RowKit Go.Maps Go.Deep

/-- The cells of a move. -/
def IsMv (cs : List Value) : Prop := ∃ d x : Int, cs = [.int .u8 d, .int .u8 x] ∧ 0 ≤ d ∧ d < 256 ∧ 0 ≤ x ∧ x < 256
theorem mvs_of {H : Type} {enc : TypeId × Value → H} {w : World} {v : Value} {d : DataW H} {p : List MemPlace}
    (hval : Value.okWide Try.prog w .any 0 22 v) (h : DataW.Trod enc Try.prog w 0 (fun _ => true) true 22 v d p) : ∃ css, Recs w v 2 css ∧ ∀ cs ∈ css, IsMv cs := by
  refine recs_of Try.underlying22 2 (by kernel_rfl) (by decide) IsMv (fun n cs y hl ht => ?_) hval h
  match cs, hl with
  | [c0, c1], _ =>
    obtain ⟨_, _, h0⟩ := field_of (c := 1) Try.underlying27 ht 0 _ rfl rfl rfl (by kernel_rfl)
    obtain ⟨_, _, h1⟩ := field_of (c := 1) Try.underlying27 ht 1 _ rfl rfl rfl (by kernel_rfl)
    obtain ⟨x, rfl, wx⟩ := int_cell Try.underlying5 h0
    obtain ⟨z, rfl, wz⟩ := int_cell Try.underlying5 h1
    exact ⟨x, z, rfl, (wf_u8 wx).1, (wf_u8 wx).2, (wf_u8 wz).1, (wf_u8 wz).2⟩

set_option maxRecDepth 100000 in
set_option maxHeartbeats 4000000 in
theorem refuses_ok (v : Value) (css : List (List Value)) (w : World) (hv : Recs w v 2 css) (hF : ∀ cs ∈ css, IsMv cs) (M : Int) (hM0 : 0 ≤ M) (hM1 : M < 65536) :
    Calls Try.prog 6 #[v, .int .u16 M] w fun e w' => e = .returned (.bool true) ∧ Upd [] w w' := by
  have HV := Lib.hid hv
  obtain ⟨a, cap, rfl, hcc, hcm, _⟩ := hv
  have hm : cap ≤ 9223372036854775807 := by unfold maxLen at hcm; omega
  have HF := Lib.hid hF; clear hF
  obtain ⟨K, hK, hK1, hK2⟩ : ∃ K : Nat, (if (60 : Int) < (css.length : Int) then (60 : Int) else (css.length : Int)) = (K : Int) ∧ K ≤ css.length ∧ K ≤ 60 := by
    by_cases h : (60 : Int) < css.length
    · exact ⟨60, by rw [if_pos h]; rfl, by omega, by omega⟩
    · exact ⟨css.length, by rw [if_neg h], by omega, by omega⟩
  go_enter Try.func6, Try.ntmps6
  go_wp2_with fail
  refine (new_at _).mono ?_; rintro e w1 ⟨rfl, a1, u1⟩
  have hm0 : w.heap.size ≤ w.heap.size := Nat.le_refl _
  generalize hMe : w.heap.size = m at a1 hm0 ⊢
  have HM := Lib.hid (Nat.le_of_eq hMe); clear hMe hm0
  generalize hb : m + 1 = b at *
  clear hb
  go_wp2_with fail
  clear hK
  go_loopw [34] (fun i wr => ∃ (k : Nat) (f : Nat → Nat), k ≤ K ∧ i = .int .i64 k ∧ ClAt wr b m f ∧ (∀ i, 16 ≤ i → f i = 0) ∧ Upd [] w wr) (fun i _ => K - (intOf i).toNat)
  case atStart => exact ⟨0, _, by omega, rfl, a1, fun _ _ => rfl, u1⟩
  case round =>
    obtain ⟨k, f, hk, rfl, hst, hbig, hup⟩ := hrel
    have HB := Lib.hid hbig; clear hbig
    by_cases hlt : k < K
    · obtain ⟨ab, off, rfl, hab, hcl, hat⟩ := (HV.out.upd hup (by simp)).at (show k < css.length by omega)
      obtain ⟨d, x, hcs, hd0, hd1, hx0, hx1⟩ := HF.out _ (List.getElem_mem (show k < css.length by omega))
      have hc0 : wr.cell? ⟨ab, off + k * 2, none⟩ = some (.int .u8 d) := hat 0 _ (by rw [hcs]; rfl)
      have hc1 : wr.cell? ⟨ab, off + k * 2 + 1, none⟩ = some (.int .u8 x) := hat 1 _ (by rw [hcs]; rfl)
      clear hcl hat hcs
      go_wp2_with fail
      have up2 : Upd [] wr (wr.alloc (Obj.cells #[.int .u8 d, .int .u8 x] 27)) := (Upd.refl [] wr).alloc _
      refine (do_at b m f d x _ (hst.upd up2 (by simp) (by simp)) hd0 hd1 hx0 hx1).mono ?_
      unfold DoPost
      rintro e w3 ⟨rfl, a3, u3⟩
      have hw := HM.out
      have up3 := (hup.trans up2).fresh1 u3 hw
      clear hc0 hc1
      go_wp2_with fail
      go_roundw
      case rel => exact ⟨k + 1, _, by omega, rfl, a3, fun i hi => by rw [doS_other f _ (show i ≠ (x % 16).toNat by omega)]; exact HB.out i hi, up3⟩
      case measure => simp [intOf]; omega
    · have hkK : k = K := by omega
      clear HV HF hlt
      go_wp2_with fail
      refine (counts_at b m _ _ hst).mono ?_; rintro e w2 ⟨rfl, u2⟩
      have t0 := hst.upd u2 (by simp) (by simp)
      have up0 := hup.trans u2
      clear hst u2 hup
      go_wp2_with fail
      have hjR : Ref f (16 + M % 240) 5 := .inr ⟨(16 + M % 240).toNat, by omega, by omega, HB.out _ (by omega), rfl⟩
      have HJR := Lib.hid hjR; clear hjR
      refine wp_loop_rounds 5 ?_
      rw [rounds_succ]
      have hA0 : (w2.alloc (Obj.cells #[Value.int IntKind.i64 (-1 - M), Value.int IntKind.i64 3, Value.int IntKind.i64 (256 + M), Value.int IntKind.i64 3, Value.int IntKind.i64 (-9223372036854775808), Value.int IntKind.i64 3, Value.int IntKind.i64 (16 + M % 240), Value.int IntKind.i64 5] 47)).heap[w2.heap.size]? = some (.cells #[Value.int IntKind.i64 (-1 - M), Value.int IntKind.i64 3, Value.int IntKind.i64 (256 + M), Value.int IntKind.i64 3, Value.int IntKind.i64 (-9223372036854775808), Value.int IntKind.i64 3, Value.int IntKind.i64 (16 + M % 240), Value.int IntKind.i64 5] 47 (0, 0)) := new_of _ _
      have ua : Upd [] w2 (w2.alloc (Obj.cells #[Value.int IntKind.i64 (-1 - M), Value.int IntKind.i64 3, Value.int IntKind.i64 (256 + M), Value.int IntKind.i64 3, Value.int IntKind.i64 (-9223372036854775808), Value.int IntKind.i64 3, Value.int IntKind.i64 (16 + M % 240), Value.int IntKind.i64 5] 47)) := (Upd.refl _ _).alloc _
      have t1 := t0.upd ua (by simp) (by simp)
      have up1 := up0.trans ua
      generalize w2.alloc (Obj.cells #[Value.int IntKind.i64 (-1 - M), Value.int IntKind.i64 3, Value.int IntKind.i64 (256 + M), Value.int IntKind.i64 3, Value.int IntKind.i64 (-9223372036854775808), Value.int IntKind.i64 3, Value.int IntKind.i64 (16 + M % 240), Value.int IntKind.i64 5] 47) = v1 at *
      generalize w2.heap.size = A at hA0 ⊢
      clear t0 up0 ua
      have k0 := cell_of hA0 0
      have k1 := cell_of hA0 1
      have hlA := lt_of_block hA0
      have hR : Ref f (-1 - M) 3 := (.inl ⟨.inl (by omega), rfl⟩)
      have HR := Lib.hid hR; clear hR
      have HA := Lib.hid hA0; clear hA0
      go_wp2_with fail
      have hX : (v1.alloc (Obj.cells #[.int .i64 (-1 - M), .int .i64 3] 47)).heap[v1.heap.size]? = some (.cells #[.int .i64 (-1 - M), .int .i64 3] 47 (0, 0)) := new_of _ _
      have ux : Upd [] v1 (v1.alloc (Obj.cells #[.int .i64 (-1 - M), .int .i64 3] 47)) := (Upd.refl _ _).alloc _
      generalize v1.alloc (Obj.cells #[.int .i64 (-1 - M), .int .i64 3] 47) = x1 at hX ux ⊢
      generalize v1.heap.size = X at hX ⊢
      have hlX := lt_of_block hX
      have x0 := cell_of hX 0
      have HX := Lib.hid hX; clear hX k0 k1
      refine (fire_ref b m f _ 3 _ (t1.upd ux (by simp) (by simp)) HR.out).mono ?_; rintro e wx ⟨rfl, rfl⟩
      go_wp2_with fail
      refine (cancel_ref b m f _ 3 _ (t1.upd ux (by simp) (by simp)) HR.out).mono ?_; rintro e wx ⟨rfl, rfl⟩
      go_wp2_with fail
      refine (get_ref b m f _ 3 _ (t1.upd ux (by simp) (by simp)) HR.out).mono ?_; rintro e y1 ⟨rfl, uy⟩
      clear x0
      go_wp2_with fail
      have hY : (y1.alloc (Obj.cells #[.int .i64 0, .int .i64 0] 31)).heap[y1.heap.size]? = some (.cells #[.int .i64 0, .int .i64 0] 31 (0, 0)) := new_of _ _
      have u1 : Upd [] v1 (y1.alloc (Obj.cells #[.int .i64 0, .int .i64 0] 31)) := (ux.trans uy).alloc _
      have hX2 := (uy.alloc (Obj.cells #[.int .i64 0, .int .i64 0] 31)).keep HX.out (by simp)
      generalize y1.alloc (Obj.cells #[.int .i64 0, .int .i64 0] 31) = z1 at hY u1 hX2 ⊢
      generalize y1.heap.size = Y at hY ⊢
      have x0 := cell_of hX2 0
      have x1 := cell_of hX2 1
      have y0 := cell_of hY 0
      have y1 := cell_of hY 1
      have hA1 := u1.keep HA.out (by simp)
      clear ux uy hX2 hY HX hA1 hlX hlA
      go_quiet (first | (go_at_call 17; exact forget_q t1 u1 HR.out) | (go_at_call 16; exact arm_q t1 u1 (.inl (by omega))))
      clear x0 x1 y0 y1 HR
      have hA1 := (u1.drewN nq).keep HA.out (by simp)
      have t2 := t1.upd (u1.drewN nq) (by simp) (by simp)
      have up2 := up1.trans (u1.drewN nq)
      generalize z1.drewN nq = v2 at *
      clear HA u1 t1 up1
      go_wp2_with fail
      rw [rounds_succ]
      have k0 := cell_of hA1 2
      have k1 := cell_of hA1 3
      have hlA := lt_of_block hA1
      have hR : Ref f (256 + M) 3 := (.inl ⟨.inr (by omega), rfl⟩)
      have HR := Lib.hid hR; clear hR
      have HA := Lib.hid hA1; clear hA1
      go_wp2_with fail
      have hX : (v2.alloc (Obj.cells #[.int .i64 (256 + M), .int .i64 3] 47)).heap[v2.heap.size]? = some (.cells #[.int .i64 (256 + M), .int .i64 3] 47 (0, 0)) := new_of _ _
      have ux : Upd [] v2 (v2.alloc (Obj.cells #[.int .i64 (256 + M), .int .i64 3] 47)) := (Upd.refl _ _).alloc _
      generalize v2.alloc (Obj.cells #[.int .i64 (256 + M), .int .i64 3] 47) = x2 at hX ux ⊢
      generalize v2.heap.size = X at hX ⊢
      have hlX := lt_of_block hX
      have x0 := cell_of hX 0
      have HX := Lib.hid hX; clear hX k0 k1
      refine (fire_ref b m f _ 3 _ (t2.upd ux (by simp) (by simp)) HR.out).mono ?_; rintro e wx ⟨rfl, rfl⟩
      go_wp2_with fail
      refine (cancel_ref b m f _ 3 _ (t2.upd ux (by simp) (by simp)) HR.out).mono ?_; rintro e wx ⟨rfl, rfl⟩
      go_wp2_with fail
      refine (get_ref b m f _ 3 _ (t2.upd ux (by simp) (by simp)) HR.out).mono ?_; rintro e y2 ⟨rfl, uy⟩
      clear x0
      go_wp2_with fail
      have hY : (y2.alloc (Obj.cells #[.int .i64 0, .int .i64 0] 31)).heap[y2.heap.size]? = some (.cells #[.int .i64 0, .int .i64 0] 31 (0, 0)) := new_of _ _
      have u2 : Upd [] v2 (y2.alloc (Obj.cells #[.int .i64 0, .int .i64 0] 31)) := (ux.trans uy).alloc _
      have hX2 := (uy.alloc (Obj.cells #[.int .i64 0, .int .i64 0] 31)).keep HX.out (by simp)
      generalize y2.alloc (Obj.cells #[.int .i64 0, .int .i64 0] 31) = z2 at hY u2 hX2 ⊢
      generalize y2.heap.size = Y at hY ⊢
      have x0 := cell_of hX2 0
      have x1 := cell_of hX2 1
      have y0 := cell_of hY 0
      have y1 := cell_of hY 1
      have hA2 := u2.keep HA.out (by simp)
      clear ux uy hX2 hY HX hA2 hlX hlA
      go_quiet (first | (go_at_call 17; exact forget_q t2 u2 HR.out) | (go_at_call 16; exact arm_q t2 u2 (.inr (by omega))))
      clear x0 x1 y0 y1 HR
      have hA2 := (u2.drewN nq).keep HA.out (by simp)
      have t3 := t2.upd (u2.drewN nq) (by simp) (by simp)
      have up3 := up2.trans (u2.drewN nq)
      generalize z2.drewN nq = v3 at *
      clear HA u2 t2 up2
      go_wp2_with fail
      rw [rounds_succ]
      have k0 := cell_of hA2 4
      have k1 := cell_of hA2 5
      have hlA := lt_of_block hA2
      have hR : Ref f (-9223372036854775808) 3 := (.inl ⟨.inl (by omega), rfl⟩)
      have HR := Lib.hid hR; clear hR
      have HA := Lib.hid hA2; clear hA2
      go_wp2_with fail
      have hX : (v3.alloc (Obj.cells #[.int .i64 (-9223372036854775808), .int .i64 3] 47)).heap[v3.heap.size]? = some (.cells #[.int .i64 (-9223372036854775808), .int .i64 3] 47 (0, 0)) := new_of _ _
      have ux : Upd [] v3 (v3.alloc (Obj.cells #[.int .i64 (-9223372036854775808), .int .i64 3] 47)) := (Upd.refl _ _).alloc _
      generalize v3.alloc (Obj.cells #[.int .i64 (-9223372036854775808), .int .i64 3] 47) = x3 at hX ux ⊢
      generalize v3.heap.size = X at hX ⊢
      have hlX := lt_of_block hX
      have x0 := cell_of hX 0
      have HX := Lib.hid hX; clear hX k0 k1
      refine (fire_ref b m f _ 3 _ (t3.upd ux (by simp) (by simp)) HR.out).mono ?_; rintro e wx ⟨rfl, rfl⟩
      go_wp2_with fail
      refine (cancel_ref b m f _ 3 _ (t3.upd ux (by simp) (by simp)) HR.out).mono ?_; rintro e wx ⟨rfl, rfl⟩
      go_wp2_with fail
      refine (get_ref b m f _ 3 _ (t3.upd ux (by simp) (by simp)) HR.out).mono ?_; rintro e y3 ⟨rfl, uy⟩
      clear x0
      go_wp2_with fail
      have hY : (y3.alloc (Obj.cells #[.int .i64 0, .int .i64 0] 31)).heap[y3.heap.size]? = some (.cells #[.int .i64 0, .int .i64 0] 31 (0, 0)) := new_of _ _
      have u3 : Upd [] v3 (y3.alloc (Obj.cells #[.int .i64 0, .int .i64 0] 31)) := (ux.trans uy).alloc _
      have hX2 := (uy.alloc (Obj.cells #[.int .i64 0, .int .i64 0] 31)).keep HX.out (by simp)
      generalize y3.alloc (Obj.cells #[.int .i64 0, .int .i64 0] 31) = z3 at hY u3 hX2 ⊢
      generalize y3.heap.size = Y at hY ⊢
      have x0 := cell_of hX2 0
      have x1 := cell_of hX2 1
      have y0 := cell_of hY 0
      have y1 := cell_of hY 1
      have hA3 := u3.keep HA.out (by simp)
      clear ux uy hX2 hY HX hA3 hlX hlA
      go_quiet (first | (go_at_call 17; exact forget_q t3 u3 HR.out) | (go_at_call 16; exact arm_q t3 u3 (.inl (by omega))))
      clear x0 x1 y0 y1 HR
      have hA3 := (u3.drewN nq).keep HA.out (by simp)
      have t4 := t3.upd (u3.drewN nq) (by simp) (by simp)
      have up4 := up3.trans (u3.drewN nq)
      generalize z3.drewN nq = v4 at *
      clear HA u3 t3 up3
      go_wp2_with fail
      rw [rounds_succ]
      have k0 := cell_of hA3 6
      have k1 := cell_of hA3 7
      have hlA := lt_of_block hA3
      have hR : Ref f (16 + M % 240) 5 := HJR.out
      have HR := Lib.hid hR; clear hR
      have HA := Lib.hid hA3; clear hA3
      go_wp2_with fail
      have hX : (v4.alloc (Obj.cells #[.int .i64 (16 + M % 240), .int .i64 5] 47)).heap[v4.heap.size]? = some (.cells #[.int .i64 (16 + M % 240), .int .i64 5] 47 (0, 0)) := new_of _ _
      have ux : Upd [] v4 (v4.alloc (Obj.cells #[.int .i64 (16 + M % 240), .int .i64 5] 47)) := (Upd.refl _ _).alloc _
      generalize v4.alloc (Obj.cells #[.int .i64 (16 + M % 240), .int .i64 5] 47) = x4 at hX ux ⊢
      generalize v4.heap.size = X at hX ⊢
      have hlX := lt_of_block hX
      have x0 := cell_of hX 0
      have HX := Lib.hid hX; clear hX k0 k1
      refine (fire_ref b m f _ 5 _ (t4.upd ux (by simp) (by simp)) HR.out).mono ?_; rintro e wx ⟨rfl, rfl⟩
      go_wp2_with fail
      refine (cancel_ref b m f _ 5 _ (t4.upd ux (by simp) (by simp)) HR.out).mono ?_; rintro e wx ⟨rfl, rfl⟩
      go_wp2_with fail
      refine (get_ref b m f _ 5 _ (t4.upd ux (by simp) (by simp)) HR.out).mono ?_; rintro e y4 ⟨rfl, uy⟩
      clear x0
      go_wp2_with fail
      have hY : (y4.alloc (Obj.cells #[.int .i64 0, .int .i64 0] 31)).heap[y4.heap.size]? = some (.cells #[.int .i64 0, .int .i64 0] 31 (0, 0)) := new_of _ _
      have u4 : Upd [] v4 (y4.alloc (Obj.cells #[.int .i64 0, .int .i64 0] 31)) := (ux.trans uy).alloc _
      have hX2 := (uy.alloc (Obj.cells #[.int .i64 0, .int .i64 0] 31)).keep HX.out (by simp)
      generalize y4.alloc (Obj.cells #[.int .i64 0, .int .i64 0] 31) = z4 at hY u4 hX2 ⊢
      generalize y4.heap.size = Y at hY ⊢
      have x0 := cell_of hX2 0
      have x1 := cell_of hX2 1
      have y0 := cell_of hY 0
      have y1 := cell_of hY 1
      have hA4 := u4.keep HA.out (by simp)
      clear ux uy hX2 hY HX hA4 hlX hlA
      go_quiet (first | (go_at_call 17; exact forget_q t4 u4 HR.out))
      clear x0 x1 y0 y1 HR
      have hA4 := (u4.drewN nq).keep HA.out (by simp)
      have t5 := t4.upd (u4.drewN nq) (by simp) (by simp)
      have up5 := up4.trans (u4.drewN nq)
      generalize z4.drewN nq = v5 at *
      clear HA u4 t4 up4
      go_wp2_with fail
      rw [rounds_succ]
      go_wp2_with fail
      refine (counts_at b m _ _ t5).mono ?_; rintro e w8 ⟨rfl, u8'⟩
      go_wp2_with fail
      refine (works_ok _).mono ?_; rintro e w9 ⟨rfl, u9'⟩
      go_wp2_with fail
      go_ret
      exact ⟨rfl, (up5.trans u8').trans u9'⟩

theorem refuses_fr (w : World) (v : Value) (css : List (List Value)) (hv : Recs w v 2 css ∧ ∀ cs ∈ css, IsMv cs) (M : Int) (hM : (Lit.int .u16 M).wf = true) :
    Calls Try.prog 6 #[v, .int .u16 M] w fun e w' => e = .returned (.bool true) ∧ Upd [] w w' :=
  refuses_ok v css w hv.1 hv.2 M (wf_u16 hM).1 (wf_u16 hM).2

end Go.Proofs.Ytphpimbhhmkdkaa
