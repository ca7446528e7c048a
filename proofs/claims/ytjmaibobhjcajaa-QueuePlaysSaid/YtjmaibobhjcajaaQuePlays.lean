/-
  QueuePlays: after each step a queue shows what the document's shows. Conditions: none.
-/
import Derived.Test.YtjmaibobhjcajaaQueBoth
import Derived.Test.YtjmaibobhjcajaaArgs
import Derived.Deep.DeepCutAuto
import Derived.Deep.CutBlock
namespace Go.Proofs.Ytjmaibobhjcajaa
open Go.RowKit

/-- The cells of a step. -/
def IsStep (cs : List Value) : Prop := ∃ d s : Int, cs = [.int .i64 d, .int .i64 s]
theorem steps_of {H : Type} {enc : TypeId × Value → H} {w : World} {v : Value} {d : DataW H} {p : List MemPlace}
    (hval : Value.okWide Try.prog w .any 0 44 v) (h : DataW.Trod enc Try.prog w 0 (fun _ => true) true 44 v d p) : ∃ css, Recs w v 2 css ∧ ∀ cs ∈ css, IsStep cs := by
  refine recs_of Try.underlying44 2 (by kernel_rfl) (by decide) IsStep (fun n cs y hl ht => ?_) hval h
  match cs, hl with
  | [c0, c1], _ =>
    obtain ⟨_, _, h0⟩ := field_of (c := 1) Try.underlying49 ht 0 _ rfl rfl rfl (by kernel_rfl)
    obtain ⟨_, _, h1⟩ := field_of (c := 1) Try.underlying49 ht 1 _ rfl rfl rfl (by kernel_rfl)
    obtain ⟨x, rfl, _⟩ := int_cell Try.underlying3 h0
    obtain ⟨z, rfl, _⟩ := int_cell Try.underlying3 h1
    exact ⟨x, z, rfl⟩

/-- What holds between the steps, and behind the switch. -/
def PlRel (w : World) (x y : Value) (wr : World) : Prop :=
  ∃ (p r : Option Addr) (s : Option Qu), x = .pointer p ∧ y = .pointer r ∧ QV wr p s ∧ RV wr r s ∧ Since w.heap.size p ∧ Since w.heap.size r ∧ Upd [] w wr

set_option maxRecDepth 100000 in
set_option maxHeartbeats 8000000 in
theorem plays_ok (n : Int) (v : Value) (css : List (List Value)) (at_ : Int) (w : World) (hv : Recs w v 2 css) (hF : ∀ cs ∈ css, IsStep cs) (hlong : css.length ≤ 200) :
    Calls Try.prog 7 #[.int .i64 n, v, .int .i64 at_] w fun e w' => e = .returned (.bool true) ∧ Upd [] w w' := by
  have HV := Lib.hid hv
  obtain ⟨a, cap, rfl, hcc, hcm, -⟩ := hv
  have hm : cap ≤ 9223372036854775807 := by unfold maxLen at hcm; omega
  have HF := Lib.hid hF; clear hF
  have hlg : decide (200 < (css.length : Int)) = false := by simp; omega
  go_enter Try.func7, Try.ntmps7
  go_wp2_with fail
  refine (vnew n _).mono ?_; rintro e w1 ⟨p0, rfl, hp0, q1, sp0, u1⟩
  go_wp2_with fail
  refine (wnew n _).mono ?_; rintro e w2 ⟨r0, rfl, hr0, r1, sr0, u2⟩
  have q2 := q1.upd0 u2
  have sr0' : Since w.heap.size r0 := fun x hx => Nat.le_trans u1.size (sr0 x hx)
  have REL0 := Lib.hid (show PlRel w (.pointer p0) (.pointer r0) w2 from ⟨p0, r0, newS n, rfl, rfl, q2, r1, sp0, sr0', u1.trans u2⟩)
  clear q1 q2 r1 sr0 sr0' sp0 u1 u2
  go_wp2_with fail
  go_loopw [7, 9, 11] (fun p r x wr => ∃ i : Nat, i ≤ css.length ∧ x = .int .i64 i ∧ PlRel w p r wr) (fun _ _ x _ => css.length - (intOf x).toNat)
  case atStart => exact ⟨0, by omega, rfl, REL0.out⟩
  case round =>
    clear REL0 hp0 hr0
    obtain ⟨i, hi, rfl, p, r, s, rfl, rfl, hq, hr, hp0, hr0, hup⟩ := hrel
    have HQ := Lib.hid hq; clear hq
    have HR := Lib.hid hr; clear hr
    have SP := Lib.hid hp0; clear hp0
    have SR := Lib.hid hr0; clear hr0
    by_cases hlt : i < css.length
    · obtain ⟨ab, off, rfl, hab, hcl, hat⟩ := HV.out.at hlt
      obtain ⟨dd, x, hcs⟩ := HF.out _ (List.getElem_mem hlt)
      have HC : ∀ w', Upd [] w w' → w'.cell? ⟨ab, off + i * 2, none⟩ = some (.int .i64 dd) ∧ w'.cell? ⟨ab, off + i * 2 + 1, none⟩ = some (.int .i64 x) ∧ ab < w'.heap.size := fun w' h =>
        ⟨(h.cell (p := ⟨ab, off + i * 2, none⟩) hab (by simp)).trans (hat 0 _ (by rw [hcs]; rfl)), (h.cell (p := ⟨ab, off + i * 2 + 1, none⟩) hab (by simp)).trans (hat 1 _ (by rw [hcs]; rfl)), Nat.lt_of_lt_of_le hab h.size⟩
      have HCH := Lib.hid HC; clear HC
      clear hcl hat hcs hab
      obtain ⟨hc0, hc1, hab⟩ := HCH.out _ hup
      go_upto_block 2 with fail
      go_cut [7, 9] (fun p r wx => PlRel w p r wx)
      case first =>
        by_cases h0 : dd = 0
        · subst h0
          have T0 := Lib.hid (HQ.out.upd0 ((Upd.refl [] wr).drew))
          have R0 := Lib.hid (HR.out.upd0 ((Upd.refl [] wr).drew))
          go_wp2_with fail
          go_region_held3 (fun w' => w'.cell? ⟨ab, off + i * 2 + 1, none⟩ = some (.int .i64 x)) (first | exact hc1 | exact y1 | exact y2) (first | (go_at_call 16; refine (vadd x T0.out).mono ?_; rintro e w1 ⟨rfl, a1, u1⟩; have up1 := hup.drew.since u1 SP.out; have y1 := (HCH.out _ up1).2.1; have R1 := Lib.hid (R0.out.left T0.out u1); have A1 := Lib.hid a1; clear a1) | (go_at_call 24; refine (wadd x R1.out).mono ?_; rintro e v9 ⟨rfl, r9, u2⟩; have c9 := A1.out.right R1.out u2; have up9 := up1.since u2 SR.out; have y2 := (HCH.out _ up9).2.1))
          clear y1 y2 R1 A1 u1 u2 T0 R0
          go_wp2_with fail
          go_meet
          case rel => exact ⟨p, r, _, rfl, rfl, c9, r9, SP.out, SR.out, up9⟩
        by_cases h1 : dd = 1
        · subst h1
          clear h0
          go_wp2_with fail
          refine (vpoll HQ.out).mono ?_; rintro e w3 ⟨rfl, a3, u3⟩
          have r3 := HR.out.left HQ.out u3
          go_wp2_with fail
          refine (wpoll r3).mono ?_; rintro e w4 ⟨rfl, r4, u4⟩
          have a4 := a3.right r3 u4
          have up4 := (hup.since u3 SP.out).since u4 SR.out
          clear a3 r3 u3 u4
          go_wp2_with fail
          go_meet
          case rel => exact ⟨p, r, _, rfl, rfl, a4, r4, SP.out, SR.out, up4⟩
        by_cases h2 : dd = 2
        · subst h2
          clear h0 h1
          have T0 := Lib.hid (HQ.out.upd0 ((Upd.refl [] wr).drew))
          have R0 := Lib.hid (HR.out.upd0 ((Upd.refl [] wr).drew))
          go_wp2_with fail
          go_region_held3 (fun w' => w'.cell? ⟨ab, off + i * 2 + 1, none⟩ = some (.int .i64 x)) (first | exact hc1 | exact y1 | exact y2) (first | (go_at_call 19; refine (vrem x T0.out).mono ?_; rintro e w1 ⟨rfl, a1, u1⟩; have up1 := hup.drew.since u1 SP.out; have y1 := (HCH.out _ up1).2.1; have R1 := Lib.hid (R0.out.left T0.out u1); have A1 := Lib.hid a1; clear a1) | (go_at_call 26; refine (wrem x R1.out).mono ?_; rintro e v9 ⟨rfl, r9, u2⟩; have c9 := A1.out.right R1.out u2; have up9 := up1.since u2 SR.out; have y2 := (HCH.out _ up9).2.1))
          clear y1 y2 R1 A1 u1 u2 T0 R0
          go_wp2_with fail
          go_meet
          case rel => exact ⟨p, r, _, rfl, rfl, c9, r9, SP.out, SR.out, up9⟩
        by_cases h3 : dd = 3
        · subst h3
          clear h0 h1 h2
          go_wp2_with fail
          refine (vdrain x HQ.out).mono ?_; rintro e w3 ⟨v3, rfl, i3, a3, u3⟩
          have r3 := HR.out.left HQ.out u3
          have up3 := hup.since u3 SP.out
          obtain ⟨d0, d1, dab⟩ := HCH.out _ up3
          go_wp2_with fail
          refine (wdrain x r3).mono ?_; rintro e w4 ⟨v4, rfl, i4, r4, u4⟩
          have a4 := a3.right r3 u4
          have up4 := up3.since u4 SR.out
          have i5 := i3.rv r3 u4
          clear a3 r3 u3 u4 i3 d0 d1 dab
          go_wp2_with fail
          refine (ints_ok _ _ _ _ i5 i4).mono ?_; rintro e w5 ⟨rfl, u5⟩
          have a5 := a4.upd0 u5
          have r5 := r4.upd0 u5
          have up5 := up4.trans u5
          clear a4 r4 u5 i4 i5
          go_wp2_with fail
          go_meet
          case rel => exact ⟨p, r, _, rfl, rfl, a5, r5, SP.out, SR.out, up5⟩
        by_cases h4 : dd = 4
        · subst h4
          clear h0 h1 h2 h3
          go_wp2_with fail
          refine (vcopy HQ.out).mono ?_; rintro e w3 ⟨p2, rfl, a3, s3, u3⟩
          have r3 := HR.out.upd0 u3
          go_wp2_with fail
          refine (wcopy r3).mono ?_; rintro e w4 ⟨r2, rfl, r4, s4, u4⟩
          have a4 := a3.upd0 u4
          have sp : Since w.heap.size p2 := fun x hx => Nat.le_trans hup.size (s3 x hx)
          have sr : Since w.heap.size r2 := fun x hx => Nat.le_trans (hup.trans u3).size (s4 x hx)
          have up4 := (hup.trans u3).trans u4
          clear a3 r3 u3 u4 s3 s4
          go_wp2_with fail
          go_meet
          case rel => exact ⟨p2, r2, _, rfl, rfl, a4, r4, sp, sr, up4⟩
        · have b0 : (dd == 0) = false := by simpa using h0
          have b1 : (dd == 1) = false := by simpa using h1
          have b2 : (dd == 2) = false := by simpa using h2
          have b3 : (dd == 3) = false := by simpa using h3
          have b4 : (dd == 4) = false := by simpa using h4
          clear h0 h1 h2 h3 h4
          go_wp2_with fail
          go_meet
          case rel => exact ⟨p, r, _, rfl, rfl, HQ.out, HR.out, SP.out, SR.out, hup⟩
      case rest =>
        clear hc0 hc1 hab HQ HR SP SR hup
        obtain ⟨p2, r2, s2, rfl, rfl, hq, hr, sp, sr, hup⟩ := hcut
        have SP := Lib.hid sp; clear sp
        have SR := Lib.hid sr; clear sr
        go_wp2_with fail
        refine (vpeek at_ hq).mono ?_; rintro e w3 ⟨rfl, u3⟩
        replace hq := hq.upd0 u3; replace hr := hr.upd0 u3; replace hup := hup.trans u3; clear u3
        go_wp2_with fail
        refine (wpeek at_ hr).mono ?_; rintro e w4 ⟨rfl, u3⟩
        replace hq := hq.upd0 u3; replace hr := hr.upd0 u3; replace hup := hup.trans u3; clear u3
        go_wp2_with fail
        refine (vlen hq).mono ?_; rintro e w5 ⟨rfl, u3⟩
        replace hq := hq.upd0 u3; replace hr := hr.upd0 u3; replace hup := hup.trans u3; clear u3
        go_wp2_with fail
        refine (wlen hr).mono ?_; rintro e w6 ⟨rfl, u3⟩
        replace hq := hq.upd0 u3; replace hr := hr.upd0 u3; replace hup := hup.trans u3; clear u3
        go_wp2_with fail
        refine (vroom hq).mono ?_; rintro e w7 ⟨rfl, u3⟩
        replace hq := hq.upd0 u3; replace hr := hr.upd0 u3; replace hup := hup.trans u3; clear u3
        go_wp2_with fail
        refine (wroom hr).mono ?_; rintro e w8 ⟨rfl, u3⟩
        replace hq := hq.upd0 u3; replace hr := hr.upd0 u3; replace hup := hup.trans u3; clear u3
        go_wp2_with fail
        refine (vall hq).mono ?_; rintro e w9 ⟨v9, rfl, i9, u3⟩
        replace hq := hq.upd0 u3; replace hr := hr.upd0 u3; replace hup := hup.trans u3; clear u3
        go_wp2_with fail
        refine (wall hr).mono ?_; rintro e w10 ⟨v10, rfl, i10, u3⟩
        replace hq := hq.upd0 u3; replace hr := hr.upd0 u3; replace hup := hup.trans u3; replace i9 := i9.upd0 u3; clear u3
        go_wp2_with fail
        refine (ints_ok _ _ _ _ i9 i10).mono ?_; rintro e w11 ⟨rfl, u3⟩
        replace hq := hq.upd0 u3; replace hr := hr.upd0 u3; replace hup := hup.trans u3; clear u3 i9 i10
        go_wp2_with fail
        go_roundw
        case rel => exact ⟨i + 1, by omega, by go_num, p2, r2, s2, rfl, rfl, hq, hr, SP.out, SR.out, hup⟩
        case measure => simp [intOf]; omega
    · go_wp2_with fail
      refine (works_ok _).mono ?_; rintro e w5 ⟨rfl, u5⟩
      go_wp2_with fail
      go_ret
      exact ⟨rfl, hup.trans u5⟩

set_option maxRecDepth 100000 in
set_option maxHeartbeats 1000000 in
theorem plays_fr (w : World) (size : Int) (_ : (Lit.int .i64 size).wf = true) (v : Value) (css : List (List Value)) (hv : Recs w v 2 css ∧ ∀ cs ∈ css, IsStep cs) (at_ : Int) (_ : (Lit.int .i64 at_).wf = true) :
    Calls Try.prog 7 #[.int .i64 size, v, .int .i64 at_] w fun e w' => e = .returned (.bool true) ∧ Upd [] w w' := by
  obtain ⟨hv, hF⟩ := hv
  by_cases hlong : css.length ≤ 200
  · exact plays_ok size v css at_ w hv hF hlong
  · obtain ⟨a, cap, rfl, hcc, hcm, _⟩ := hv
    have hm : cap ≤ 9223372036854775807 := by unfold maxLen at hcm; omega
    have hlg : (200 : Int) < css.length := by omega
    go_enter Try.func7, Try.ntmps7
    go_wp2_with fail
    refine (works_ok _).mono ?_; rintro e w5 ⟨rfl, u5⟩
    go_wp2_with fail
    go_ret
    exact ⟨rfl, u5⟩

end Go.Proofs.Ytjmaibobhjcajaa
