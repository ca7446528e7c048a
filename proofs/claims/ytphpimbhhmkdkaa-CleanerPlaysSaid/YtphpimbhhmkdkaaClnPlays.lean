/-
  CleanerPlays. Conditions: none.
-/
import Derived.Test.YtphpimbhhmkdkaaClnAny
import Derived.Deep.RegionHeld3
namespace Go.Proofs.Ytphpimbhhmkdkaa
open Go.RowKit Go.Maps Go.Deep

/-- The cells of a step. -/
def IsStp (cs : List Value) : Prop := ∃ d x : Int, cs = [.int .i64 d, .int .i64 x]
theorem steps_of {H : Type} {enc : TypeId × Value → H} {w : World} {v : Value} {d : DataW H} {p : List MemPlace}
    (hval : Value.okWide Try.prog w .any 0 50 v) (h : DataW.Trod enc Try.prog w 0 (fun _ => true) true 50 v d p) : ∃ css, Recs w v 2 css ∧ ∀ cs ∈ css, IsStp cs := by
  refine recs_of Try.underlying50 2 (by kernel_rfl) (by decide) IsStp (fun n cs y hl ht => ?_) hval h
  match cs, hl with
  | [c0, c1], _ =>
    obtain ⟨_, _, h0⟩ := field_of (c := 1) Try.underlying54 ht 0 _ rfl rfl rfl (by kernel_rfl)
    obtain ⟨_, _, h1⟩ := field_of (c := 1) Try.underlying54 ht 1 _ rfl rfl rfl (by kernel_rfl)
    obtain ⟨x, rfl, _⟩ := int_cell Try.underlying3 h0
    obtain ⟨z, rfl, _⟩ := int_cell Try.underlying3 h1
    exact ⟨x, z, rfl⟩

/-- What was copied: nothing yet, or a pair with the same states, apart from the present one. -/
def Old (w : World) (m r : Nat) (o s : Value) : Prop :=
  (o = .pointer none ∧ s = .pointer none) ∨ ∃ b' m' r' g, o = .pointer (some ⟨b', 0, none⟩) ∧ s = .pointer (some ⟨r', 0, none⟩) ∧ ClAt w b' m' g ∧ RAt w r' g ∧ m' ≠ m ∧ r' ≠ r
theorem Old.upd {w w' : World} {b m r : Nat} {f : Nat → Nat} {o s : Value} (h : Old w m r o s) (hc : ClAt w b m f) (hr : RAt w r f) (u : Upd [m, r] w w') : Old w' m r o s := by
  rcases h with h | ⟨b', m', r', g, h1, h2, h3, h4, h5, h6⟩
  · exact .inl h
  · have e1 := hr.ne h3
    have e2 := h4.ne hc
    have e3 : b' ≠ m := by
      rintro rfl
      obtain ⟨_, hb, _⟩ := h3
      obtain ⟨_, _, ⟨es, c, hm, _⟩, _⟩ := hc
      rw [hb] at hm; simp at hm
    refine .inr ⟨b', m', r', g, h1, h2, h3.upd u ?_ ?_, h4.upd u ?_, h5, h6⟩
    · simp; exact ⟨e3, fun e => e1.2 e.symm⟩
    · simp; exact ⟨h5, fun e => e1.1 e.symm⟩
    · simp; exact ⟨e2.1, h6⟩

set_option maxRecDepth 100000 in
set_option maxHeartbeats 8000000 in
theorem plays_ok (v : Value) (css : List (List Value)) (w : World) (hv : Recs w v 2 css) (hF : ∀ cs ∈ css, IsStp cs) (q : Int) :
    Calls Try.prog 7 #[v, .int .i64 q] w fun e w' => e = .returned (.bool true) ∧ Upd [] w w' := by
  have HV := Lib.hid hv
  obtain ⟨a, cap, rfl, hcc, hcm, _⟩ := hv
  have hm : cap ≤ 9223372036854775807 := by unfold maxLen at hcm; omega
  have HF := Lib.hid hF; clear hF
  by_cases hlong : 300 < css.length
  · go_enter Try.func7, Try.ntmps7
    go_wp2_with fail
    refine (works_ok _).mono ?_; rintro e w1 ⟨rfl, u1⟩
    go_wp2_with fail
    go_ret
    exact ⟨rfl, u1⟩
  · go_enter Try.func7, Try.ntmps7
    go_wp2_with fail
    refine (new_at _).mono ?_; rintro e w1 ⟨rfl, a1, u1⟩
    have hm0 : w.heap.size ≤ w.heap.size := Nat.le_refl _
    generalize hMe : w.heap.size = m0 at a1 hm0 ⊢
    have HM := Lib.hid (Nat.le_of_eq hMe); clear hMe hm0
    generalize hb : m0 + 1 = b0 at *
    clear hb
    go_wp2_with fail
    refine (rnew_at _).mono ?_; rintro e w2 ⟨rfl, r2, u2⟩
    have hr0 : w.heap.size ≤ w1.heap.size := u1.size
    generalize w1.heap.size = r0 at r2 hr0 ⊢
    have HR0 := Lib.hid hr0; clear hr0
    have a2 := a1.upd u2 (by simp) (by simp)
    have up2 := u1.trans u2
    clear a1 u1 u2
    go_wp2_with fail
    go_loopw [28, 5, 6, 7, 8] (fun x28 x5 x6 x7 x8 wr => ∃ (k : Nat) (f : Nat → Nat) (b m r : Nat), k ≤ css.length ∧ x28 = .int .i64 k ∧ x5 = .pointer (some ⟨b, 0, none⟩) ∧ x6 = .pointer (some ⟨r, 0, none⟩) ∧ ClAt wr b m f ∧ RAt wr r f ∧ Old wr m r x7 x8 ∧ w.heap.size ≤ m ∧ w.heap.size ≤ r ∧ Upd [] w wr) (fun x28 _ _ _ _ _ => css.length - (intOf x28).toNat)
    case atStart => exact ⟨0, _, b0, m0, r0, by omega, rfl, rfl, rfl, a2, r2, .inl ⟨rfl, rfl⟩, HM.out, HR0.out, up2⟩
    case round =>
      obtain ⟨k, f, b, m, r, hk, rfl, rfl, rfl, hc, hr, hold, hmw, hrw, hup⟩ := hrel
      clear a2 r2 up2 HM HR0
      by_cases hlt : k < css.length
      · obtain ⟨ab, off, rfl, hab, hcl, hat⟩ := (HV.out.upd hup (by simp)).at (show k < css.length by omega)
        obtain ⟨d, x, hcs⟩ := HF.out _ (List.getElem_mem (show k < css.length by omega))
        have hc0 : wr.cell? ⟨ab, off + k * 2, none⟩ = some (.int .i64 d) := hat 0 _ (by rw [hcs]; rfl)
        have hc1 : wr.cell? ⟨ab, off + k * 2 + 1, none⟩ = some (.int .i64 x) := hat 1 _ (by rw [hcs]; rfl)
        clear hcl hat hcs
        obtain ⟨hne1, hne2⟩ := hr.ne hc
        have hml := hc.mlt
        have hrl := hr.lt
        have hbl := hc.lt
        have hX : (wr.alloc (Obj.cells #[.int .i64 d, .int .i64 x] 54)).heap[wr.heap.size]? = some (.cells #[.int .i64 d, .int .i64 x] 54 (0, 0)) := new_of _ _
        have ux : Upd [] wr (wr.alloc (Obj.cells #[.int .i64 d, .int .i64 x] 54)) := (Upd.refl _ _).alloc _
        have hcX := hc.upd ux (by simp) (by simp)
        have hrX := hr.upd ux (by simp)
        have holdX : Old _ m r _ _ := hold.upd hc hr ux.nil
        have upX := hup.trans ux
        have hXm : wr.heap.size ∉ [m, r] := by simp; omega
        have HC := Lib.hid hcX
        have HRR := Lib.hid hrX
        have HO := Lib.hid holdX
        have HUP := Lib.hid upX
        have HXM := Lib.hid hXm
        have HX := Lib.hid hX
        have hlX0 := lt_of_block hX
        have x1 := cell_of hX 1
        clear hc hr hold hup ux hcX hrX holdX upX hXm hX
        have NXm : wr.heap.size ≠ m := by omega
        have NXr : wr.heap.size ≠ r := by omega
        have NE1 : m ≠ r := fun e => hne1 e.symm
        have NE2 : b ≠ r := fun e => hne2 e.symm
        have hd : d = 0 ∨ d = 1 ∨ d = 2 ∨ d = 3 ∨ d = 4 ∨ (d ≠ 0 ∧ d ≠ 1 ∧ d ≠ 2 ∧ d ≠ 3 ∧ d ≠ 4) := by omega
        rcases hd with rfl | rfl | rfl | rfl | rfl | ⟨h0, h1, h2, h3, h4⟩
        · skip
          go_wp2_with fail
          generalize wr.alloc (Obj.cells #[.int .i64 0, .int .i64 x] 54) = v0 at *
          generalize wr.heap.size = X at *
          have T0 := Lib.hid (HC.out.upd ((Upd.refl [] v0).drew) (by simp) (by simp))
          have R0 := Lib.hid (HRR.out.upd ((Upd.refl [] v0).drew) (by simp))
          have x1' : v0.cell? ⟨X, 1, none⟩ = some (.int .i64 x) := x1
          clear x1
          go_region_held3 (fun w' => w'.cell? ⟨X, 1, none⟩ = some (.int .i64 x)) (first | exact x1' | exact y1 | exact y2) (first | (go_at_call 16; refine (arm_any b m f x _ T0.out).mono ?_; rintro e w1 ⟨rfl, a1, u1⟩; have y1 := cell_of (u1.keep HX.out (by simpa using NXm)) 1; have R1 := Lib.hid (R0.out.upd u1 (by simpa using hne1)); have A1 := Lib.hid a1; clear a1) | (go_at_call 21; refine (rarm_any r f x _ R1.out).mono ?_; rintro e v9 ⟨rfl, r9, u2⟩; have c9 := A1.out.upd u2 (by simpa using NE2) (by simpa using NE1); have u9 : Upd [m, r] v0 v9 := (((Upd.refl [m, r] v0).drew).trans (u1.mono (by simp))).trans (u2.mono (by simp)); have y2 := cell_of (u9.keep HX.out HXM.out) 1))
          clear y1 y2 R1 A1 u1 u2 x1' T0 R0
          have o9 := HO.out.upd HC.out HRR.out u9
          have up9 : Upd [] w v9 := HUP.out.after u9 (by simp; exact ⟨hmw, hrw⟩)
          have hX9 := u9.keep HX.out HXM.out
          rcases o9 with ⟨rfl, rfl⟩ | ⟨b', m', r', g, rfl, rfl, hC9, hR9, n1, n2⟩
          · skip
            have z1 := cell_of hX9 1
            have hX9l := lt_of_block hX9
            go_wp2_with fail
            refine (shows_at b m r (armS f x) x _ c9 r9).mono ?_; rintro e v10 ⟨rfl, q10⟩
            clear z1
            go_wp2_with fail
            refine (shows_at b m r (armS f x) q _ (c9.upd q10 (by simp) (by simp)) (r9.upd q10 (by simp))).mono ?_; rintro e v11 ⟨rfl, q11⟩
            have q12 := q10.trans q11
            go_wp2_with fail
            go_roundw
            case rel => exact ⟨k + 1, _, b, m, r, by omega, by go_num, rfl, rfl, c9.upd q12 (by simp) (by simp), r9.upd q12 (by simp), .inl ⟨rfl, rfl⟩, hmw, hrw, up9.trans q12⟩
            case measure => simp [intOf]; omega
          · skip
            have z1 := cell_of hX9 1
            have hX9l := lt_of_block hX9
            go_wp2_with fail
            refine (shows_at b m r (armS f x) x _ c9 r9).mono ?_; rintro e v10 ⟨rfl, q10⟩
            clear z1
            go_wp2_with fail
            refine (shows_at b m r (armS f x) q _ (c9.upd q10 (by simp) (by simp)) (r9.upd q10 (by simp))).mono ?_; rintro e v11 ⟨rfl, q11⟩
            have q12 := q10.trans q11
            have hX11 := q12.keep hX9 (by simp)
            have z1 := cell_of hX11 1
            clear hX11
            go_wp2_with fail
            refine (shows_at b' m' r' g x _ (hC9.upd q12 (by simp) (by simp)) (hR9.upd q12 (by simp))).mono ?_; rintro e v13 ⟨rfl, q13⟩
            have q14 := q12.trans q13
            clear z1
            go_wp2_with fail
            go_roundw
            case rel => exact ⟨k + 1, _, b, m, r, by omega, by go_num, rfl, rfl, c9.upd q14 (by simp) (by simp), r9.upd q14 (by simp), .inr ⟨b', m', r', g, rfl, rfl, hC9.upd q14 (by simp) (by simp), hR9.upd q14 (by simp), n1, n2⟩, hmw, hrw, up9.trans q14⟩
            case measure => simp [intOf]; omega
        · skip
          go_wp2_with fail
          generalize wr.alloc (Obj.cells #[.int .i64 1, .int .i64 x] 54) = v0 at *
          generalize wr.heap.size = X at *
          refine (fire_any b m f x _ HC.out).mono ?_; rintro e w1 ⟨rfl, a1, u1⟩
          have hX1 := u1.keep HX.out (by simpa using NXm)
          have y1 := cell_of hX1 1
          have hlX1 := lt_of_block hX1
          clear x1 hX1
          have hbb : endB f x = true ∨ endB f x = false := by cases endB f x <;> simp
          go_wp2_with fail
          refine (rfire_any r f x _ (HRR.out.upd u1 (by simpa using hne1))).mono ?_; rintro e v9 ⟨rfl, r9, u2⟩
          have c9 := a1.upd u2 (by simpa using NE2) (by simpa using NE1)
          have u9 : Upd [m, r] v0 v9 := (u1.mono (by simp)).trans (u2.mono (by simp))
          clear a1 u1 u2 y1
          have o9 := HO.out.upd HC.out HRR.out u9
          have up9 : Upd [] w v9 := HUP.out.after u9 (by simp; exact ⟨hmw, hrw⟩)
          have hX9 := u9.keep HX.out HXM.out
          rcases o9 with ⟨rfl, rfl⟩ | ⟨b', m', r', g, rfl, rfl, hC9, hR9, n1, n2⟩
          · skip
            have z1 := cell_of hX9 1
            have hX9l := lt_of_block hX9
            go_wp2_with fail
            refine (shows_at b m r (endS f x 2) x _ c9 r9).mono ?_; rintro e v10 ⟨rfl, q10⟩
            clear z1
            go_wp2_with fail
            refine (shows_at b m r (endS f x 2) q _ (c9.upd q10 (by simp) (by simp)) (r9.upd q10 (by simp))).mono ?_; rintro e v11 ⟨rfl, q11⟩
            have q12 := q10.trans q11
            go_wp2_with fail
            go_roundw
            case rel => exact ⟨k + 1, _, b, m, r, by omega, by go_num, rfl, rfl, c9.upd q12 (by simp) (by simp), r9.upd q12 (by simp), .inl ⟨rfl, rfl⟩, hmw, hrw, up9.trans q12⟩
            case measure => simp [intOf]; omega
          · skip
            have z1 := cell_of hX9 1
            have hX9l := lt_of_block hX9
            go_wp2_with fail
            refine (shows_at b m r (endS f x 2) x _ c9 r9).mono ?_; rintro e v10 ⟨rfl, q10⟩
            clear z1
            go_wp2_with fail
            refine (shows_at b m r (endS f x 2) q _ (c9.upd q10 (by simp) (by simp)) (r9.upd q10 (by simp))).mono ?_; rintro e v11 ⟨rfl, q11⟩
            have q12 := q10.trans q11
            have hX11 := q12.keep hX9 (by simp)
            have z1 := cell_of hX11 1
            clear hX11
            go_wp2_with fail
            refine (shows_at b' m' r' g x _ (hC9.upd q12 (by simp) (by simp)) (hR9.upd q12 (by simp))).mono ?_; rintro e v13 ⟨rfl, q13⟩
            have q14 := q12.trans q13
            clear z1
            go_wp2_with fail
            go_roundw
            case rel => exact ⟨k + 1, _, b, m, r, by omega, by go_num, rfl, rfl, c9.upd q14 (by simp) (by simp), r9.upd q14 (by simp), .inr ⟨b', m', r', g, rfl, rfl, hC9.upd q14 (by simp) (by simp), hR9.upd q14 (by simp), n1, n2⟩, hmw, hrw, up9.trans q14⟩
            case measure => simp [intOf]; omega
        · skip
          go_wp2_with fail
          generalize wr.alloc (Obj.cells #[.int .i64 2, .int .i64 x] 54) = v0 at *
          generalize wr.heap.size = X at *
          refine (cancel_any b m f x _ HC.out).mono ?_; rintro e w1 ⟨rfl, a1, u1⟩
          have hX1 := u1.keep HX.out (by simpa using NXm)
          have y1 := cell_of hX1 1
          have hlX1 := lt_of_block hX1
          clear x1 hX1
          have hbb : endB f x = true ∨ endB f x = false := by cases endB f x <;> simp
          go_wp2_with fail
          refine (rcancel_any r f x _ (HRR.out.upd u1 (by simpa using hne1))).mono ?_; rintro e v9 ⟨rfl, r9, u2⟩
          have c9 := a1.upd u2 (by simpa using NE2) (by simpa using NE1)
          have u9 : Upd [m, r] v0 v9 := (u1.mono (by simp)).trans (u2.mono (by simp))
          clear a1 u1 u2 y1
          have o9 := HO.out.upd HC.out HRR.out u9
          have up9 : Upd [] w v9 := HUP.out.after u9 (by simp; exact ⟨hmw, hrw⟩)
          have hX9 := u9.keep HX.out HXM.out
          rcases o9 with ⟨rfl, rfl⟩ | ⟨b', m', r', g, rfl, rfl, hC9, hR9, n1, n2⟩
          · skip
            have z1 := cell_of hX9 1
            have hX9l := lt_of_block hX9
            go_wp2_with fail
            refine (shows_at b m r (endS f x 3) x _ c9 r9).mono ?_; rintro e v10 ⟨rfl, q10⟩
            clear z1
            go_wp2_with fail
            refine (shows_at b m r (endS f x 3) q _ (c9.upd q10 (by simp) (by simp)) (r9.upd q10 (by simp))).mono ?_; rintro e v11 ⟨rfl, q11⟩
            have q12 := q10.trans q11
            go_wp2_with fail
            go_roundw
            case rel => exact ⟨k + 1, _, b, m, r, by omega, by go_num, rfl, rfl, c9.upd q12 (by simp) (by simp), r9.upd q12 (by simp), .inl ⟨rfl, rfl⟩, hmw, hrw, up9.trans q12⟩
            case measure => simp [intOf]; omega
          · skip
            have z1 := cell_of hX9 1
            have hX9l := lt_of_block hX9
            go_wp2_with fail
            refine (shows_at b m r (endS f x 3) x _ c9 r9).mono ?_; rintro e v10 ⟨rfl, q10⟩
            clear z1
            go_wp2_with fail
            refine (shows_at b m r (endS f x 3) q _ (c9.upd q10 (by simp) (by simp)) (r9.upd q10 (by simp))).mono ?_; rintro e v11 ⟨rfl, q11⟩
            have q12 := q10.trans q11
            have hX11 := q12.keep hX9 (by simp)
            have z1 := cell_of hX11 1
            clear hX11
            go_wp2_with fail
            refine (shows_at b' m' r' g x _ (hC9.upd q12 (by simp) (by simp)) (hR9.upd q12 (by simp))).mono ?_; rintro e v13 ⟨rfl, q13⟩
            have q14 := q12.trans q13
            clear z1
            go_wp2_with fail
            go_roundw
            case rel => exact ⟨k + 1, _, b, m, r, by omega, by go_num, rfl, rfl, c9.upd q14 (by simp) (by simp), r9.upd q14 (by simp), .inr ⟨b', m', r', g, rfl, rfl, hC9.upd q14 (by simp) (by simp), hR9.upd q14 (by simp), n1, n2⟩, hmw, hrw, up9.trans q14⟩
            case measure => simp [intOf]; omega
        · skip
          go_wp2_with fail
          generalize wr.alloc (Obj.cells #[.int .i64 3, .int .i64 x] 54) = v0 at *
          generalize wr.heap.size = X at *
          have T0 := Lib.hid (HC.out.upd ((Upd.refl [] v0).drew) (by simp) (by simp))
          have R0 := Lib.hid (HRR.out.upd ((Upd.refl [] v0).drew) (by simp))
          have x1' : v0.cell? ⟨X, 1, none⟩ = some (.int .i64 x) := x1
          clear x1
          go_region_held3 (fun w' => w'.cell? ⟨X, 1, none⟩ = some (.int .i64 x)) (first | exact x1' | exact y1 | exact y2) (first | (go_at_call 17; refine (forget_any b m f x _ T0.out).mono ?_; rintro e w1 ⟨rfl, a1, u1⟩; have y1 := cell_of (u1.keep HX.out (by simpa using NXm)) 1; have R1 := Lib.hid (R0.out.upd u1 (by simpa using hne1)); have A1 := Lib.hid a1; clear a1) | (go_at_call 24; refine (rforget_any r f x _ R1.out).mono ?_; rintro e v9 ⟨rfl, r9, u2⟩; have c9 := A1.out.upd u2 (by simpa using NE2) (by simpa using NE1); have u9 : Upd [m, r] v0 v9 := (((Upd.refl [m, r] v0).drew).trans (u1.mono (by simp))).trans (u2.mono (by simp)); have y2 := cell_of (u9.keep HX.out HXM.out) 1))
          clear y1 y2 R1 A1 u1 u2 x1' T0 R0
          have o9 := HO.out.upd HC.out HRR.out u9
          have up9 : Upd [] w v9 := HUP.out.after u9 (by simp; exact ⟨hmw, hrw⟩)
          have hX9 := u9.keep HX.out HXM.out
          rcases o9 with ⟨rfl, rfl⟩ | ⟨b', m', r', g, rfl, rfl, hC9, hR9, n1, n2⟩
          · skip
            have z1 := cell_of hX9 1
            have hX9l := lt_of_block hX9
            go_wp2_with fail
            refine (shows_at b m r (forS f x) x _ c9 r9).mono ?_; rintro e v10 ⟨rfl, q10⟩
            clear z1
            go_wp2_with fail
            refine (shows_at b m r (forS f x) q _ (c9.upd q10 (by simp) (by simp)) (r9.upd q10 (by simp))).mono ?_; rintro e v11 ⟨rfl, q11⟩
            have q12 := q10.trans q11
            go_wp2_with fail
            go_roundw
            case rel => exact ⟨k + 1, _, b, m, r, by omega, by go_num, rfl, rfl, c9.upd q12 (by simp) (by simp), r9.upd q12 (by simp), .inl ⟨rfl, rfl⟩, hmw, hrw, up9.trans q12⟩
            case measure => simp [intOf]; omega
          · skip
            have z1 := cell_of hX9 1
            have hX9l := lt_of_block hX9
            go_wp2_with fail
            refine (shows_at b m r (forS f x) x _ c9 r9).mono ?_; rintro e v10 ⟨rfl, q10⟩
            clear z1
            go_wp2_with fail
            refine (shows_at b m r (forS f x) q _ (c9.upd q10 (by simp) (by simp)) (r9.upd q10 (by simp))).mono ?_; rintro e v11 ⟨rfl, q11⟩
            have q12 := q10.trans q11
            have hX11 := q12.keep hX9 (by simp)
            have z1 := cell_of hX11 1
            clear hX11
            go_wp2_with fail
            refine (shows_at b' m' r' g x _ (hC9.upd q12 (by simp) (by simp)) (hR9.upd q12 (by simp))).mono ?_; rintro e v13 ⟨rfl, q13⟩
            have q14 := q12.trans q13
            clear z1
            go_wp2_with fail
            go_roundw
            case rel => exact ⟨k + 1, _, b, m, r, by omega, by go_num, rfl, rfl, c9.upd q14 (by simp) (by simp), r9.upd q14 (by simp), .inr ⟨b', m', r', g, rfl, rfl, hC9.upd q14 (by simp) (by simp), hR9.upd q14 (by simp), n1, n2⟩, hmw, hrw, up9.trans q14⟩
            case measure => simp [intOf]; omega
        · skip
          go_wp2_with fail
          generalize wr.alloc (Obj.cells #[.int .i64 4, .int .i64 x] 54) = v0 at *
          generalize wr.heap.size = X at *
          have hcc9 := HC.out
          refine (copy_at b m f _ hcc9).mono ?_; rintro e w1 ⟨b2, m2, rfl, c1, u1, hb2, hm2⟩
          clear hcc9
          go_wp2_with fail
          refine (rcopy_at r f _ (HRR.out.upd u1 (by simp))).mono ?_; rintro e v9 ⟨rfl, r9, u2⟩
          have c9 := c1.upd u2 (by simp) (by simp)
          have u9 := u1.trans u2
          have hC9 := HC.out.upd u9 (by simp) (by simp)
          have hR9 := HRR.out.upd u9 (by simp)
          have hX9 := u9.keep HX.out (by simp)
          have up9 := HUP.out.trans u9
          have n1 : m ≠ m2 := by have := HC.out.mlt; omega
          have hr2 : v0.heap.size ≤ w1.heap.size := u1.size
          have hrv := HRR.out.lt
          have n2 : r ≠ w1.heap.size := by omega
          have hwv := HUP.out.size
          have hmw2 : w.heap.size ≤ m2 := by omega
          have hrw2 : w.heap.size ≤ w1.heap.size := by omega
          generalize w1.heap.size = r2 at *
          clear c1 u1 u2 hb2 hm2 hr2 hrv hwv
          have z1 := cell_of hX9 1
          have hX9l := lt_of_block hX9
          go_wp2_with fail
          refine (shows_at b2 m2 r2 f x _ c9 r9).mono ?_; rintro e v10 ⟨rfl, q10⟩
          clear z1
          go_wp2_with fail
          refine (shows_at b2 m2 r2 f q _ (c9.upd q10 (by simp) (by simp)) (r9.upd q10 (by simp))).mono ?_; rintro e v11 ⟨rfl, q11⟩
          have q12 := q10.trans q11
          have hX11 := q12.keep hX9 (by simp)
          have z1 := cell_of hX11 1
          clear hX11
          go_wp2_with fail
          refine (shows_at b m r f x _ (hC9.upd q12 (by simp) (by simp)) (hR9.upd q12 (by simp))).mono ?_; rintro e v13 ⟨rfl, q13⟩
          have q14 := q12.trans q13
          clear z1
          go_wp2_with fail
          go_roundw
          case rel => exact ⟨k + 1, _, b2, m2, r2, by omega, by go_num, rfl, rfl, c9.upd q14 (by simp) (by simp), r9.upd q14 (by simp), .inr ⟨b, m, r, f, rfl, rfl, hC9.upd q14 (by simp) (by simp), hR9.upd q14 (by simp), n1, n2⟩, hmw2, hrw2, up9.trans q14⟩
          case measure => simp [intOf]; omega
        · skip
          have hb0 : (d == 0) = false := by simpa using h0
          have hb1 : (d == 1) = false := by simpa using h1
          have hb2 : (d == 2) = false := by simpa using h2
          have hb3 : (d == 3) = false := by simpa using h3
          have hb4 : (d == 4) = false := by simpa using h4
          clear h0 h1 h2 h3 h4
          obtain ⟨v9, hv9⟩ : ∃ v9 : World, v9 = wr.alloc (Obj.cells #[.int .i64 d, .int .i64 x] 54) := ⟨_, rfl⟩
          have c9 : ClAt v9 b m f := hv9 ▸ HC.out
          have r9 : RAt v9 r f := hv9 ▸ HRR.out
          have o9 : Old v9 m r _ _ := hv9 ▸ HO.out
          have up9 : Upd [] w v9 := hv9 ▸ HUP.out
          have hX9 : v9.heap[wr.heap.size]? = some (.cells #[.int .i64 d, .int .i64 x] 54 (0, 0)) := hv9 ▸ HX.out
          rcases o9 with ⟨rfl, rfl⟩ | ⟨b', m', r', g, rfl, rfl, hC9, hR9, n1, n2⟩
          · skip
            go_wp2_with fail
            rw [← hv9]
            clear hv9
            refine (shows_at b m r f x _ c9 r9).mono ?_; rintro e v10 ⟨rfl, q10⟩
            go_wp2_with fail
            refine (shows_at b m r f q _ (c9.upd q10 (by simp) (by simp)) (r9.upd q10 (by simp))).mono ?_; rintro e v11 ⟨rfl, q11⟩
            have q12 := q10.trans q11
            go_wp2_with fail
            go_roundw
            case rel => exact ⟨k + 1, _, b, m, r, by omega, by go_num, rfl, rfl, c9.upd q12 (by simp) (by simp), r9.upd q12 (by simp), .inl ⟨rfl, rfl⟩, hmw, hrw, up9.trans q12⟩
            case measure => simp [intOf]; omega
          · skip
            go_wp2_with fail
            rw [← hv9]
            clear hv9
            refine (shows_at b m r f x _ c9 r9).mono ?_; rintro e v10 ⟨rfl, q10⟩
            go_wp2_with fail
            refine (shows_at b m r f q _ (c9.upd q10 (by simp) (by simp)) (r9.upd q10 (by simp))).mono ?_; rintro e v11 ⟨rfl, q11⟩
            have q12 := q10.trans q11
            have hX11 := q12.keep hX9 (by simp)
            have z1 := cell_of hX11 1
            clear hX11
            go_wp2_with fail
            refine (shows_at b' m' r' g x _ (hC9.upd q12 (by simp) (by simp)) (hR9.upd q12 (by simp))).mono ?_; rintro e v13 ⟨rfl, q13⟩
            have q14 := q12.trans q13
            clear z1
            go_wp2_with fail
            go_roundw
            case rel => exact ⟨k + 1, _, b, m, r, by omega, by go_num, rfl, rfl, c9.upd q14 (by simp) (by simp), r9.upd q14 (by simp), .inr ⟨b', m', r', g, rfl, rfl, hC9.upd q14 (by simp) (by simp), hR9.upd q14 (by simp), n1, n2⟩, hmw, hrw, up9.trans q14⟩
            case measure => simp [intOf]; omega
      · have hkn : k = css.length := by omega
        clear HV HF hlt hold
        go_wp2_with fail
        refine (shows_at b m r f q _ hc hr).mono ?_; rintro e v10 ⟨rfl, q10⟩
        go_wp2_with fail
        refine (works_ok _).mono ?_; rintro e v11 ⟨rfl, q11⟩
        go_wp2_with fail
        go_ret
        exact ⟨rfl, (hup.trans q10).trans q11⟩

theorem plays_fr (w : World) (v : Value) (css : List (List Value)) (hv : Recs w v 2 css ∧ ∀ cs ∈ css, IsStp cs) (q : Int) (_ : (Lit.int .i64 q).wf = true) :
    Calls Try.prog 7 #[v, .int .i64 q] w fun e w' => e = .returned (.bool true) ∧ Upd [] w w' := plays_ok v css w hv.1 hv.2 q

end Go.Proofs.Ytphpimbhhmkdkaa
