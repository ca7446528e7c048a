/-
  PhantomPlays: a table does what the document says, call by call; what was copied stays. Conditions: none.
-/
import Derived.Test.YtlndkmejmolnhaaPhShow
import Derived.Test.YtlndkmejmolnhaaArgs
namespace Go.Proofs.Ytlndkmejmolnhaa
open Go.RowKit Go.Maps Go.WideShapes Go.Deep

/-- The cells of a step: what it does, an id, an object. -/
def IsStep (cs : List Value) : Prop := ∃ (d : Nat) (i : Int) (r : Rf), cs = [.int .u8 (d : Int), .int .i64 i, .int .i64 r.1, .int .u32 r.2] ∧ d < 256 ∧ (Lit.int .i64 i).wf = true ∧ refWf r
set_option maxRecDepth 100000 in
theorem isStep_of {H : Type} {enc : TypeId × Value → H} {w : World} {n : Nat} {cs : List Value} {y : DataW H × List MemPlace} (hl : cs.length = 4) (ht : DataW.trod enc Try.prog w 0 (fun _ => true) true n 60 cs = some y) : IsStep cs := by
  match cs, hl with
  | [c0, c1, c2, c3], _ =>
    obtain ⟨_, _, h0⟩ := field_of (c := 1) Try.underlying60 ht 0 _ rfl rfl rfl (by kernel_rfl)
    obtain ⟨_, _, h1⟩ := field_of (c := 1) Try.underlying60 ht 1 _ rfl rfl rfl (by kernel_rfl)
    obtain ⟨_, _, h2⟩ := field_of (c := 2) Try.underlying60 ht 2 _ rfl rfl rfl (by kernel_rfl)
    obtain ⟨_, _, k0⟩ := field_of (c := 1) Try.underlying24 h2 0 _ rfl rfl rfl (by kernel_rfl)
    obtain ⟨_, _, k1⟩ := field_of (c := 1) Try.underlying24 h2 1 _ rfl rfl rfl (by kernel_rfl)
    obtain ⟨a, rfl, wa⟩ := int_cell Try.underlying5 h0
    obtain ⟨b, rfl, wb⟩ := int_cell Try.underlying3 h1
    obtain ⟨c, rfl, wc⟩ := int_cell Try.underlying3 k0
    obtain ⟨d, rfl, wd⟩ := int_cell Try.underlying22 k1
    have ha := wf_u8 wa
    exact ⟨a.toNat, b, (c, d), by rw [Int.toNat_of_nonneg ha.1], by omega, wb, wc, wd⟩
set_option maxRecDepth 100000 in
theorem steps_of {H : Type} {enc : TypeId × Value → H} {w : World} {v : Value} {d : DataW H} {p : List MemPlace}
    (hval : Value.okWide Try.prog w .any 0 55 v) (h : DataW.Trod enc Try.prog w 0 (fun _ => true) true 55 v d p) : ∃ css, Recs w v 4 css ∧ ∀ cs ∈ css, IsStep cs :=
  recs_of Try.underlying55 4 (by kernel_rfl) (by decide) IsStep (fun _ _ _ hl ht => isStep_of hl ht) hval h

set_option maxRecDepth 100000 in
set_option maxHeartbeats 8000000 in
theorem plays_ok (a : Int) (v : Value) (css : List (List Value)) (w : World) (hv : Recs w v 4 css) (hF : ∀ cs ∈ css, IsStep cs) :
    Calls Try.prog 8 #[.int .i64 a, v] w fun e w' => e = .returned (.bool true) ∧ Upd [] w w' := by
  have HV := Lib.hid hv
  obtain ⟨ad, cap, rfl, hcc, hcm, -⟩ := hv
  have hm : cap ≤ 9223372036854775807 := by unfold maxLen at hcm; omega
  have HF := Lib.hid hF; clear hF hcm
  have zR := zeroR
  have nR := neR
  have gR := gdR
  by_cases h100 : css.length ≤ 100
  · have hg : ¬ (100 : Int) < (css.length : Int) := by omega
    by_cases hok : 1 ≤ a ∧ a ≤ 256
    · obtain ⟨p, rfl⟩ := Int.eq_ofNat_of_zero_le (show 0 ≤ a by omega)
      go_enter Try.func8, Try.ntmps8
      go_wp2_with fail
      refine (pnew_ok p w (by omega) (by omega)).mono ?_; rintro e w1 ⟨rfl, p1, u1⟩
      go_wp2_with fail
      refine (rnew_ok p w1 (by omega) (by omega)).mono ?_; rintro e w2 ⟨rb0, gl0, rfl, q2, hgl, u2⟩
      have P0 := Lib.hid (p1.upd0 u2); have Q0 := Lib.hid q2; have U0 := Lib.hid (u1.trans u2)
      have M0 := Lib.hid (show w.heap.size ≤ w.heap.size ∧ w.heap.size ≤ w.heap.size + 1 ∧ w.heap.size ≤ gl0 from ⟨Nat.le_refl _, by omega, Nat.le_trans u1.size hgl⟩)
      clear p1 u1 q2 hgl u2
      go_wp2_with fail
      clear hok
      go_loopw [5, 7, 9, 10, 43] (fun q r o ws x wr => ∃ i : Nat, i ≤ css.length ∧ x = .int .i64 i ∧ (∃ b m n rb gl s, q = .pointer (some ⟨b, 0, none⟩) ∧ r = .pointer (some ⟨rb, 0, none⟩) ∧ PtAt wr b m n s ∧ PrAt wr rb gl s ∧ (w.heap.size ≤ m ∧ w.heap.size ≤ n ∧ w.heap.size ≤ gl) ∧ Old wr o ws m n gl) ∧ Upd [] w wr) (fun _ _ _ _ x _ => css.length - (intOf x).toNat)
      case atStart => exact ⟨0, by omega, rfl, ⟨_, _, _, _, _, _, rfl, rfl, P0.out, Q0.out, M0.out, .inl ⟨rfl, rfl⟩⟩, U0.out⟩
      case round =>
        clear P0 Q0 U0 M0
        obtain ⟨i, hi, rfl, ⟨b, m, n, rb, gl, s, rfl, rfl, hp, hq, hmn, hold⟩, hup⟩ := hrel
        have PP := Lib.hid hp; have QQ := Lib.hid hq; have MT := Lib.hid hmn; have OO := Lib.hid hold; have UP := Lib.hid hup
        have HOK := Lib.hid hp.ok
        clear hp hq hmn hold
        by_cases hlt : i < css.length
        · obtain ⟨ab, off, rfl, hab, -, hat⟩ := HV.out.at hlt
          obtain ⟨d, id, ⟨r1, r2⟩, hcs, wd, wid, hwr⟩ := HF.out _ (List.getElem_mem hlt)
          dsimp only at hcs
          have HWR := Lib.hid hwr; have HID := Lib.hid wid
          have z0 : wr.cell? ⟨ab, off + i * 4, none⟩ = some (.int .u8 (d : Int)) := (hup.cell (p := ⟨ab, off + i * 4, none⟩) hab (by simp)).trans (hat 0 _ (by rw [hcs]; rfl))
          have z1 : wr.cell? ⟨ab, off + i * 4 + 1, none⟩ = some (.int .i64 id) := (hup.cell (p := ⟨ab, off + i * 4 + 1, none⟩) hab (by simp)).trans (hat 1 _ (by rw [hcs]; rfl))
          have z2 : wr.cell? ⟨ab, off + i * 4 + 2, none⟩ = some (.int .i64 r1) := (hup.cell (p := ⟨ab, off + i * 4 + 2, none⟩) hab (by simp)).trans (hat 2 _ (by rw [hcs]; rfl))
          have z3 : wr.cell? ⟨ab, off + i * 4 + 3, none⟩ = some (.int .u32 r2) := (hup.cell (p := ⟨ab, off + i * 4 + 3, none⟩) hab (by simp)).trans (hat 3 _ (by rw [hcs]; rfl))
          have zl : ab < wr.heap.size := Nat.lt_of_lt_of_le hab hup.size
          have e4 : Int.tmod (d : Int) 4 = ((d % 4 : Nat) : Int) := by rw [Int.tmod_eq_emod_of_nonneg (by omega)]; rfl
          have ul : Upd [] wr (((wr.alloc (.cells #[.int .u8 (d : Int), .int .i64 id, .int .i64 r1, .int .u32 r2] 60)).alloc (.cells #[.int .i64 0, .int .u32 0] 24)).alloc (.cells #[.int .i64 0, .int .u32 0] 24)) := (((Upd.refl _ _).alloc _).alloc _).alloc _
          have hN : (((wr.alloc (.cells #[.int .u8 (d : Int), .int .i64 id, .int .i64 r1, .int .u32 r2] 60)).alloc (.cells #[.int .i64 0, .int .u32 0] 24)).alloc (.cells #[.int .i64 0, .int .u32 0] 24)).heap[wr.heap.size]? = some (.cells #[.int .u8 (d : Int), .int .i64 id, .int .i64 r1, .int .u32 r2] 60 (0, 0)) := alloc_of (alloc_of (new_of wr (.cells #[.int .u8 (d : Int), .int .i64 id, .int .i64 r1, .int .u32 r2] 60)))
          have hA : (((wr.alloc (.cells #[.int .u8 (d : Int), .int .i64 id, .int .i64 r1, .int .u32 r2] 60)).alloc (.cells #[.int .i64 0, .int .u32 0] 24)).alloc (.cells #[.int .i64 0, .int .u32 0] 24)).heap[wr.heap.size + 1]? = some (.cells #[.int .i64 0, .int .u32 0] 24 (0, 0)) := by
            refine alloc_of ?_
            have := new_of (wr.alloc (.cells #[.int .u8 (d : Int), .int .i64 id, .int .i64 r1, .int .u32 r2] 60)) (.cells #[.int .i64 0, .int .u32 0] 24)
            rwa [World.size_alloc] at this
          have hC : (((wr.alloc (.cells #[.int .u8 (d : Int), .int .i64 id, .int .i64 r1, .int .u32 r2] 60)).alloc (.cells #[.int .i64 0, .int .u32 0] 24)).alloc (.cells #[.int .i64 0, .int .u32 0] 24)).heap[wr.heap.size + 2]? = some (.cells #[.int .i64 0, .int .u32 0] 24 (0, 0)) := by
            have := new_of ((wr.alloc (.cells #[.int .u8 (d : Int), .int .i64 id, .int .i64 r1, .int .u32 r2] 60)).alloc (.cells #[.int .i64 0, .int .u32 0] 24)) (.cells #[.int .i64 0, .int .u32 0] 24)
            simpa using this
          have P1 := Lib.hid (PP.out.upd0 ul); have Q1 := Lib.hid (QQ.out.upd0 ul)
          have N1 := Lib.hid hN; have A1 := Lib.hid hA; have C1 := Lib.hid hC; have UL := Lib.hid ul
          have hgW : gl < wr.heap.size := QQ.out.row.lt

          clear hab hat hcs hwr ul hup wid hN hA hC
          have hd4 : d % 4 = 0 ∨ d % 4 = 1 ∨ d % 4 = 2 ∨ d % 4 = 3 := by omega
          rcases hd4 with hk | hk | hk | hk
          · as_aux_lemma =>
            rw [hk] at e4
            have hgA : gl < wr.heap.size + 1 := by omega
            have hgC : gl < wr.heap.size + 2 := by omega
            have hNA : wr.heap.size < wr.heap.size + 1 := by omega
            have hAC : wr.heap.size + 1 < wr.heap.size + 2 := by omega
            have hNC : wr.heap.size < wr.heap.size + 2 := by omega
            have y1 : (((wr.alloc (.cells #[.int .u8 (d : Int), .int .i64 id, .int .i64 r1, .int .u32 r2] 60)).alloc (.cells #[.int .i64 0, .int .u32 0] 24)).alloc (.cells #[.int .i64 0, .int .u32 0] 24)).cell? ⟨wr.heap.size, 1, none⟩ = some (.int .i64 id) := cell_of N1.out 1
            have y2 : (((wr.alloc (.cells #[.int .u8 (d : Int), .int .i64 id, .int .i64 r1, .int .u32 r2] 60)).alloc (.cells #[.int .i64 0, .int .u32 0] 24)).alloc (.cells #[.int .i64 0, .int .u32 0] 24)).cell? ⟨wr.heap.size, 2, none⟩ = some (.int .i64 r1) := cell_of N1.out 2
            have y3 : (((wr.alloc (.cells #[.int .u8 (d : Int), .int .i64 id, .int .i64 r1, .int .u32 r2] 60)).alloc (.cells #[.int .i64 0, .int .u32 0] 24)).alloc (.cells #[.int .i64 0, .int .u32 0] 24)).cell? ⟨wr.heap.size, 3, none⟩ = some (.int .u32 r2) := cell_of N1.out 3
            have yl := lt_of_block N1.out
            go_wp2_with fail
            generalize (((wr.alloc (.cells #[.int .u8 (d : Int), .int .i64 id, .int .i64 r1, .int .u32 r2] 60)).alloc (.cells #[.int .i64 0, .int .u32 0] 24)).alloc (.cells #[.int .i64 0, .int .u32 0] 24)) = V at *
            generalize wr.heap.size + 2 = C at *
            generalize wr.heap.size + 1 = A at *
            generalize hMw : wr.heap.size = N at *
            have hWN := Nat.le_of_eq hMw
            clear hMw
            obtain ⟨x, hx⟩ : ∃ x, s.addE id (r1, r2) = x := ⟨_, rfl⟩
            obtain ⟨s2, hs2⟩ : ∃ s2, s.addS id (r1, r2) = s2 := ⟨_, rfl⟩
            have hq := padd (P1.out.upd0 ((Upd.refl _ _).drew)) id (r1, r2) HWR.out
            unfold AddPost at hq
            rw [hx, hs2] at hq
            have HQ := Lib.hid hq
            have HR := Lib.hid (show ∀ w', PrAt w' rb gl s → Calls Try.prog 21 #[.pointer (some ⟨rb, 0, none⟩), .int .i64 id, .agg #[.int .i64 r1, .int .u32 r2]] w' fun e w'' => e = .returned (.int .i64 x) ∧ PrAt w'' rb gl s2 ∧ Upd [gl] w' w'' from fun w' h => by
              have := radd h HOK.out id (r1, r2) HWR.out
              rw [hx, hs2] at this
              exact this)
            have hxx : (x != x) = false := by simp
            clear hx hs2 hq
            go_region_held3 (fun w' => w'.cell? ⟨N, 1, none⟩ = some (.int .i64 id) ∧ w'.cell? ⟨N, 2, none⟩ = some (.int .i64 r1) ∧ w'.cell? ⟨N, 3, none⟩ = some (.int .u32 r2)) (first | go_keep | exact ⟨y1, y2, y3⟩ | exact KB | exact KA) (first | (go_at_call 21; refine (HR.out _ qa).mono ?_; rintro e w3 ⟨rfl, q3, v3⟩; have NB3 := v3.keep NBA (by obtain ⟨cc, hcc⟩ := qa.row.blk; simpa using ne_types NBA hcc (by decide)); have KB := And.intro (cell_of NB3 1) (And.intro (cell_of NB3 2) (cell_of NB3 3))) | (go_at_call 12; refine HQ.out.mono ?_; rintro e w2 ⟨rfl, p2, v2⟩; have u2 : Upd [m, n] V w2 := ((Upd.refl _ _).drew).trans v2; have NBA := u2.keep N1.out (by simp; exact ⟨P1.out.nem N1.out, P1.out.nen N1.out⟩); have KA := And.intro (cell_of NBA 1) (And.intro (cell_of NBA 2) (cell_of NBA 3)); have qa := Q1.out.go P1.out u2))
            all_goals
              have uu : Upd [m, n, gl] wr w3 := (UL.out.nil.trans (u2.mono (by simp))).trans (v3.mono (by simp))
              have PT := Lib.hid (p2.ref qa v3); have QT := Lib.hid q3; have NT := Lib.hid NB3; have OT := Lib.hid (OO.out.go PP.out QQ.out uu); have UT := Lib.hid (UP.out.after uu (by have := MT.out; simp; omega))
              have A4 := v3.keep (u2.keep A1.out (by simp; exact ⟨P1.out.nem A1.out, P1.out.nen A1.out⟩)) (by simp; omega)
              have C4 := v3.keep (u2.keep C1.out (by simp; exact ⟨P1.out.nem C1.out, P1.out.nen C1.out⟩)) (by simp; omega)
              have a0 : w3.cell? ⟨A, 0, none⟩ = some (.int .i64 0) := cell_of A4 0
              have a1 : w3.cell? ⟨A, 1, none⟩ = some (.int .u32 0) := cell_of A4 1
              have c0 : w3.cell? ⟨C, 0, none⟩ = some (.int .i64 0) := cell_of C4 0
              have c1 : w3.cell? ⟨C, 1, none⟩ = some (.int .u32 0) := cell_of C4 1
              clear y1 y2 y3 yl HQ HR u2 v2 v3 p2 qa q3 NBA KA KB NB3 A4 C4 uu
              have y1 : w3.cell? ⟨N, 1, none⟩ = some (.int .i64 id) := cell_of NT.out 1
              have y2 : w3.cell? ⟨N, 2, none⟩ = some (.int .i64 r1) := cell_of NT.out 2
              have y3 : w3.cell? ⟨N, 3, none⟩ = some (.int .u32 r2) := cell_of NT.out 3
              have yl := lt_of_block NT.out
              go_wp2_with fail
              clear a0 a1 c0 c1
              clear y1 y2 y3 yl
              refine (shows_ok PT.out QT.out id (r1, r2) HID.out HWR.out).mono ?_; rintro e x1 ⟨rfl, u⟩
              have PA := Lib.hid (PT.out.upd0 u); have QA := Lib.hid (QT.out.upd0 u); have OA := Lib.hid (OT.out.upd0 u); have UA := Lib.hid (UT.out.trans u); have NA := Lib.hid (u.keep NT.out (by simp))
              have y1 : x1.cell? ⟨N, 1, none⟩ = some (.int .i64 id) := cell_of NA.out 1
              have y2 : x1.cell? ⟨N, 2, none⟩ = some (.int .i64 r1) := cell_of NA.out 2
              have y3 : x1.cell? ⟨N, 3, none⟩ = some (.int .u32 r2) := cell_of NA.out 3
              have yl := lt_of_block NA.out
              clear u
              rcases OA.out with ⟨rfl, rfl⟩ | ⟨bo, mo, no, ro, lo, so, rfl, rfl, h3, h4, -, -⟩
              · go_wp2_with fail
                clear y1 y2 y3 yl
                refine (shows_nil _ id (r1, r2)).mono ?_; rintro e x2 ⟨rfl, u⟩
                have PZ := Lib.hid (PA.out.upd0 u); have QZ := Lib.hid (QA.out.upd0 u); have OZ := Lib.hid (OA.out.upd0 u); have UZ := Lib.hid (UA.out.trans u)
                clear u
                go_wp2_with fail
                go_roundw
                case rel => exact ⟨i + 1, by omega, by go_num, ⟨_, _, _, _, _, _, rfl, rfl, PZ.out, QZ.out, MT.out, OZ.out⟩, UZ.out⟩
                case measure => simp [intOf]; omega
              · have H3 := Lib.hid h3; have H4 := Lib.hid h4
                clear h3 h4
                go_wp2_with fail
                clear y1 y2 y3 yl
                refine (shows_ok H3.out H4.out id (r1, r2) HID.out HWR.out).mono ?_; rintro e x2 ⟨rfl, u⟩
                have PZ := Lib.hid (PA.out.upd0 u); have QZ := Lib.hid (QA.out.upd0 u); have OZ := Lib.hid (OA.out.upd0 u); have UZ := Lib.hid (UA.out.trans u)
                clear u H3 H4
                go_wp2_with fail
                go_roundw
                case rel => exact ⟨i + 1, by omega, by go_num, ⟨_, _, _, _, _, _, rfl, rfl, PZ.out, QZ.out, MT.out, OZ.out⟩, UZ.out⟩
                case measure => simp [intOf]; omega
          · as_aux_lemma =>
            rw [hk] at e4
            have hgA : gl < wr.heap.size + 1 := by omega
            have hgC : gl < wr.heap.size + 2 := by omega
            have hNA : wr.heap.size < wr.heap.size + 1 := by omega
            have hAC : wr.heap.size + 1 < wr.heap.size + 2 := by omega
            have hNC : wr.heap.size < wr.heap.size + 2 := by omega
            have y1 : (((wr.alloc (.cells #[.int .u8 (d : Int), .int .i64 id, .int .i64 r1, .int .u32 r2] 60)).alloc (.cells #[.int .i64 0, .int .u32 0] 24)).alloc (.cells #[.int .i64 0, .int .u32 0] 24)).cell? ⟨wr.heap.size, 1, none⟩ = some (.int .i64 id) := cell_of N1.out 1
            have y2 : (((wr.alloc (.cells #[.int .u8 (d : Int), .int .i64 id, .int .i64 r1, .int .u32 r2] 60)).alloc (.cells #[.int .i64 0, .int .u32 0] 24)).alloc (.cells #[.int .i64 0, .int .u32 0] 24)).cell? ⟨wr.heap.size, 2, none⟩ = some (.int .i64 r1) := cell_of N1.out 2
            have y3 : (((wr.alloc (.cells #[.int .u8 (d : Int), .int .i64 id, .int .i64 r1, .int .u32 r2] 60)).alloc (.cells #[.int .i64 0, .int .u32 0] 24)).alloc (.cells #[.int .i64 0, .int .u32 0] 24)).cell? ⟨wr.heap.size, 3, none⟩ = some (.int .u32 r2) := cell_of N1.out 3
            have yl := lt_of_block N1.out
            go_wp2_with fail
            generalize (((wr.alloc (.cells #[.int .u8 (d : Int), .int .i64 id, .int .i64 r1, .int .u32 r2] 60)).alloc (.cells #[.int .i64 0, .int .u32 0] 24)).alloc (.cells #[.int .i64 0, .int .u32 0] 24)) = V at *
            generalize wr.heap.size + 2 = C at *
            generalize wr.heap.size + 1 = A at *
            generalize hMw : wr.heap.size = N at *
            have hWN := Nat.le_of_eq hMw
            clear hMw
            obtain ⟨x, hx⟩ : ∃ x, s.addE id (r1, r2) = x := ⟨_, rfl⟩
            obtain ⟨s2, hs2⟩ : ∃ s2, s.addS id (r1, r2) = s2 := ⟨_, rfl⟩
            have hq := padd (P1.out.upd0 ((Upd.refl _ _).drew)) id (r1, r2) HWR.out
            unfold AddPost at hq
            rw [hx, hs2] at hq
            have HQ := Lib.hid hq
            have HR := Lib.hid (show ∀ w', PrAt w' rb gl s → Calls Try.prog 21 #[.pointer (some ⟨rb, 0, none⟩), .int .i64 id, .agg #[.int .i64 r1, .int .u32 r2]] w' fun e w'' => e = .returned (.int .i64 x) ∧ PrAt w'' rb gl s2 ∧ Upd [gl] w' w'' from fun w' h => by
              have := radd h HOK.out id (r1, r2) HWR.out
              rw [hx, hs2] at this
              exact this)
            have hxx : (x != x) = false := by simp
            clear hx hs2 hq
            go_region_held3 (fun w' => w'.cell? ⟨N, 1, none⟩ = some (.int .i64 id) ∧ w'.cell? ⟨N, 2, none⟩ = some (.int .i64 r1) ∧ w'.cell? ⟨N, 3, none⟩ = some (.int .u32 r2)) (first | go_keep | exact ⟨y1, y2, y3⟩ | exact KB | exact KA) (first | (go_at_call 21; refine (HR.out _ qa).mono ?_; rintro e w3 ⟨rfl, q3, v3⟩; have NB3 := v3.keep NBA (by obtain ⟨cc, hcc⟩ := qa.row.blk; simpa using ne_types NBA hcc (by decide)); have KB := And.intro (cell_of NB3 1) (And.intro (cell_of NB3 2) (cell_of NB3 3))) | (go_at_call 12; refine HQ.out.mono ?_; rintro e w2 ⟨rfl, p2, v2⟩; have u2 : Upd [m, n] V w2 := ((Upd.refl _ _).drew).trans v2; have NBA := u2.keep N1.out (by simp; exact ⟨P1.out.nem N1.out, P1.out.nen N1.out⟩); have KA := And.intro (cell_of NBA 1) (And.intro (cell_of NBA 2) (cell_of NBA 3)); have qa := Q1.out.go P1.out u2))
            all_goals
              have uu : Upd [m, n, gl] wr w3 := (UL.out.nil.trans (u2.mono (by simp))).trans (v3.mono (by simp))
              have PT := Lib.hid (p2.ref qa v3); have QT := Lib.hid q3; have NT := Lib.hid NB3; have OT := Lib.hid (OO.out.go PP.out QQ.out uu); have UT := Lib.hid (UP.out.after uu (by have := MT.out; simp; omega))
              have A4 := v3.keep (u2.keep A1.out (by simp; exact ⟨P1.out.nem A1.out, P1.out.nen A1.out⟩)) (by simp; omega)
              have C4 := v3.keep (u2.keep C1.out (by simp; exact ⟨P1.out.nem C1.out, P1.out.nen C1.out⟩)) (by simp; omega)
              have a0 : w3.cell? ⟨A, 0, none⟩ = some (.int .i64 0) := cell_of A4 0
              have a1 : w3.cell? ⟨A, 1, none⟩ = some (.int .u32 0) := cell_of A4 1
              have c0 : w3.cell? ⟨C, 0, none⟩ = some (.int .i64 0) := cell_of C4 0
              have c1 : w3.cell? ⟨C, 1, none⟩ = some (.int .u32 0) := cell_of C4 1
              clear y1 y2 y3 yl HQ HR u2 v2 v3 p2 qa q3 NBA KA KB NB3 A4 C4 uu
              have y1 : w3.cell? ⟨N, 1, none⟩ = some (.int .i64 id) := cell_of NT.out 1
              have y2 : w3.cell? ⟨N, 2, none⟩ = some (.int .i64 r1) := cell_of NT.out 2
              have y3 : w3.cell? ⟨N, 3, none⟩ = some (.int .u32 r2) := cell_of NT.out 3
              have yl := lt_of_block NT.out
              go_wp2_with fail
              clear a0 a1 c0 c1
              clear y1 y2 y3 yl
              refine (shows_ok PT.out QT.out id (r1, r2) HID.out HWR.out).mono ?_; rintro e x1 ⟨rfl, u⟩
              have PA := Lib.hid (PT.out.upd0 u); have QA := Lib.hid (QT.out.upd0 u); have OA := Lib.hid (OT.out.upd0 u); have UA := Lib.hid (UT.out.trans u); have NA := Lib.hid (u.keep NT.out (by simp))
              have y1 : x1.cell? ⟨N, 1, none⟩ = some (.int .i64 id) := cell_of NA.out 1
              have y2 : x1.cell? ⟨N, 2, none⟩ = some (.int .i64 r1) := cell_of NA.out 2
              have y3 : x1.cell? ⟨N, 3, none⟩ = some (.int .u32 r2) := cell_of NA.out 3
              have yl := lt_of_block NA.out
              clear u
              rcases OA.out with ⟨rfl, rfl⟩ | ⟨bo, mo, no, ro, lo, so, rfl, rfl, h3, h4, -, -⟩
              · go_wp2_with fail
                clear y1 y2 y3 yl
                refine (shows_nil _ id (r1, r2)).mono ?_; rintro e x2 ⟨rfl, u⟩
                have PZ := Lib.hid (PA.out.upd0 u); have QZ := Lib.hid (QA.out.upd0 u); have OZ := Lib.hid (OA.out.upd0 u); have UZ := Lib.hid (UA.out.trans u)
                clear u
                go_wp2_with fail
                go_roundw
                case rel => exact ⟨i + 1, by omega, by go_num, ⟨_, _, _, _, _, _, rfl, rfl, PZ.out, QZ.out, MT.out, OZ.out⟩, UZ.out⟩
                case measure => simp [intOf]; omega
              · have H3 := Lib.hid h3; have H4 := Lib.hid h4
                clear h3 h4
                go_wp2_with fail
                clear y1 y2 y3 yl
                refine (shows_ok H3.out H4.out id (r1, r2) HID.out HWR.out).mono ?_; rintro e x2 ⟨rfl, u⟩
                have PZ := Lib.hid (PA.out.upd0 u); have QZ := Lib.hid (QA.out.upd0 u); have OZ := Lib.hid (OA.out.upd0 u); have UZ := Lib.hid (UA.out.trans u)
                clear u H3 H4
                go_wp2_with fail
                go_roundw
                case rel => exact ⟨i + 1, by omega, by go_num, ⟨_, _, _, _, _, _, rfl, rfl, PZ.out, QZ.out, MT.out, OZ.out⟩, UZ.out⟩
                case measure => simp [intOf]; omega
          · as_aux_lemma =>
            rw [hk] at e4
            have hgA : gl < wr.heap.size + 1 := by omega
            have hgC : gl < wr.heap.size + 2 := by omega
            have hNA : wr.heap.size < wr.heap.size + 1 := by omega
            have hAC : wr.heap.size + 1 < wr.heap.size + 2 := by omega
            have hNC : wr.heap.size < wr.heap.size + 2 := by omega
            have y1 : (((wr.alloc (.cells #[.int .u8 (d : Int), .int .i64 id, .int .i64 r1, .int .u32 r2] 60)).alloc (.cells #[.int .i64 0, .int .u32 0] 24)).alloc (.cells #[.int .i64 0, .int .u32 0] 24)).cell? ⟨wr.heap.size, 1, none⟩ = some (.int .i64 id) := cell_of N1.out 1
            have y2 : (((wr.alloc (.cells #[.int .u8 (d : Int), .int .i64 id, .int .i64 r1, .int .u32 r2] 60)).alloc (.cells #[.int .i64 0, .int .u32 0] 24)).alloc (.cells #[.int .i64 0, .int .u32 0] 24)).cell? ⟨wr.heap.size, 2, none⟩ = some (.int .i64 r1) := cell_of N1.out 2
            have y3 : (((wr.alloc (.cells #[.int .u8 (d : Int), .int .i64 id, .int .i64 r1, .int .u32 r2] 60)).alloc (.cells #[.int .i64 0, .int .u32 0] 24)).alloc (.cells #[.int .i64 0, .int .u32 0] 24)).cell? ⟨wr.heap.size, 3, none⟩ = some (.int .u32 r2) := cell_of N1.out 3
            have yl := lt_of_block N1.out
            obtain ⟨x, hx⟩ : ∃ x, s.clrE id = x := ⟨_, rfl⟩
            obtain ⟨s2, hs2⟩ : ∃ s2, s.clrS id = s2 := ⟨_, rfl⟩
            obtain ⟨⟨c1', c2'⟩, hc⟩ : ∃ y, s.clrR id = y := ⟨_, rfl⟩
            go_wp2_with fail
            generalize (((wr.alloc (.cells #[.int .u8 (d : Int), .int .i64 id, .int .i64 r1, .int .u32 r2] 60)).alloc (.cells #[.int .i64 0, .int .u32 0] 24)).alloc (.cells #[.int .i64 0, .int .u32 0] 24)) = V at *
            generalize wr.heap.size + 2 = C at *
            generalize wr.heap.size + 1 = A at *
            generalize hMw : wr.heap.size = N at *
            have hWN := Nat.le_of_eq hMw
            clear hMw
            have hq := pclr P1.out id
            rw [hx, hs2, hc] at hq
            have HQ := Lib.hid hq
            have HR := Lib.hid (show ∀ w', PrAt w' rb gl s → Calls Try.prog 22 #[.pointer (some ⟨rb, 0, none⟩), .int .i64 id] w' fun e w'' => e = .returned (.tuple #[.agg #[.int .i64 c1', .int .u32 c2'], .int .i64 x]) ∧ PrAt w'' rb gl s2 ∧ Upd [gl] w' w'' from fun w' h => by
              have := rclr h HOK.out id
              rw [hx, hs2, hc] at this
              exact this)
            have hxx : (x != x) = false := by simp
            have hcc : (c1' == c1' && c2' == c2') = true := by simp
            clear hx hs2 hq hc y1 y2 y3 yl
            refine HQ.out.mono ?_; rintro e w2 ⟨rfl, p2, u2⟩
            dsimp only
            have NX := u2.keep N1.out (by simp; exact ⟨P1.out.nem N1.out, P1.out.nen N1.out⟩)
            have AX := u2.keep A1.out (by simp; exact ⟨P1.out.nem A1.out, P1.out.nen A1.out⟩)
            have CX := u2.keep C1.out (by simp; exact ⟨P1.out.nem C1.out, P1.out.nen C1.out⟩)
            have q2 := Q1.out.go P1.out u2
            have uA : Upd [A] w2 ((w2.setCell ⟨A, 0, none⟩ (.int .i64 c1')).setCell ⟨A, 1, none⟩ (.int .u32 c2')) := ((Upd.refl [A] w2).setCell (p := ⟨A, 0, none⟩) (by simp) _).setCell (p := ⟨A, 1, none⟩) (by simp) _
            have P3 := Lib.hid (p2.upd uA (by simpa using Ne.symm (ne_types AX p2.blk (by decide))) (by simpa using Ne.symm (p2.nem AX)) (by simpa using Ne.symm (p2.nen AX)))
            have Q3 := Lib.hid (q2.upd uA (by obtain ⟨cc, hcc⟩ := q2.blk; simpa using Ne.symm (ne_types AX hcc (by decide))) (by simp; omega))
            have N3 := Lib.hid (uA.keep NX (by simp; omega)); have C3 := Lib.hid (uA.keep CX (by simp; omega)); have A3 := Lib.hid (set_of (set_of AX 0 (.int .i64 c1')) 1 (.int .u32 c2'))
            have U3 := Lib.hid ((UL.out.nil.trans u2).after uA (by simp; omega))
            have a0 : w2.cell? ⟨A, 0, none⟩ = some (.int .i64 0) := cell_of AX 0
            have a1 : w2.cell? ⟨A, 1, none⟩ = some (.int .u32 0) := cell_of AX 1
            have a2 : w2.frozen? ⟨A, 0, none⟩ = false := free_of AX 0
            have a3 : w2.frozen? ⟨A, 1, none⟩ = false := free_of AX 1
            have y1 : w2.cell? ⟨N, 1, none⟩ = some (.int .i64 id) := cell_of NX 1
            have yl := lt_of_block NX
            clear u2 AX CX NX q2 uA p2
            go_wp2_with fail
            clear a0 a1 a2 a3 y1 yl
            generalize ((w2.setCell ⟨A, 0, none⟩ (.int .i64 c1')).setCell ⟨A, 1, none⟩ (.int .u32 c2')) = w3 at *
            refine (HR.out _ Q3.out).mono ?_; rintro e w4 ⟨rfl, q4, v4⟩
            dsimp only
            have NX := v4.keep N3.out (by obtain ⟨cc, hcc⟩ := Q3.out.row.blk; simpa using ne_types N3.out hcc (by decide))
            have AX := v4.keep A3.out (by simp; omega)
            have CX := v4.keep C3.out (by simp; omega)
            have p4 := P3.out.ref Q3.out v4
            have uC : Upd [C] w4 ((w4.setCell ⟨C, 0, none⟩ (.int .i64 c1')).setCell ⟨C, 1, none⟩ (.int .u32 c2')) := ((Upd.refl [C] w4).setCell (p := ⟨C, 0, none⟩) (by simp) _).setCell (p := ⟨C, 1, none⟩) (by simp) _
            have PT := Lib.hid (p4.upd uC (by simpa using Ne.symm (ne_types CX p4.blk (by decide))) (by simpa using Ne.symm (p4.nem CX)) (by simpa using Ne.symm (p4.nen CX)))
            have QT := Lib.hid (q4.upd uC (by obtain ⟨cc, hcc⟩ := q4.blk; simpa using Ne.symm (ne_types CX hcc (by decide))) (by simp; omega))
            have NT := Lib.hid (uC.keep NX (by simp; omega))
            have uu : Upd [m, n, gl] wr ((w4.setCell ⟨C, 0, none⟩ (.int .i64 c1')).setCell ⟨C, 1, none⟩ (.int .u32 c2')) := ((U3.out.mono (by simp)).trans (v4.mono (by simp))).after uC (by simp; omega)
            have OT := Lib.hid (OO.out.go PP.out QQ.out uu); have UT := Lib.hid (UP.out.after uu (by have := MT.out; simp; omega))
            have a0 : w4.cell? ⟨A, 0, none⟩ = some (.int .i64 c1') := cell_of AX 0
            have a1 : w4.cell? ⟨A, 1, none⟩ = some (.int .u32 c2') := cell_of AX 1
            have c0 : w4.cell? ⟨C, 0, none⟩ = some (.int .i64 0) := cell_of CX 0
            have c1 : w4.cell? ⟨C, 1, none⟩ = some (.int .u32 0) := cell_of CX 1
            have c2 : w4.frozen? ⟨C, 0, none⟩ = false := free_of CX 0
            have c3 : w4.frozen? ⟨C, 1, none⟩ = false := free_of CX 1
            have d0 : ((w4.setCell ⟨C, 0, none⟩ (.int .i64 c1')).setCell ⟨C, 1, none⟩ (.int .u32 c2')).cell? ⟨C, 0, none⟩ = some (.int .i64 c1') := cell_of (set_of (set_of CX 0 _) 1 _) 0
            have d1 : ((w4.setCell ⟨C, 0, none⟩ (.int .i64 c1')).setCell ⟨C, 1, none⟩ (.int .u32 c2')).cell? ⟨C, 1, none⟩ = some (.int .u32 c2') := cell_of (set_of (set_of CX 0 _) 1 _) 1
            have y1 : w4.cell? ⟨N, 1, none⟩ = some (.int .i64 id) := cell_of NX 1
            have y2 : w4.cell? ⟨N, 2, none⟩ = some (.int .i64 r1) := cell_of NX 2
            have y3 : w4.cell? ⟨N, 3, none⟩ = some (.int .u32 r2) := cell_of NX 3
            have yl := lt_of_block NX
            clear v4 q4 p4 NX AX CX uC uu
            go_wp2_with fail
            clear a0 a1 c0 c1 c2 c3 d0 d1
            generalize ((w4.setCell ⟨C, 0, none⟩ (.int .i64 c1')).setCell ⟨C, 1, none⟩ (.int .u32 c2')) = w5 at *
            clear y1 y2 y3 yl
            refine (shows_ok PT.out QT.out id (r1, r2) HID.out HWR.out).mono ?_; rintro e x1 ⟨rfl, u⟩
            have PA := Lib.hid (PT.out.upd0 u); have QA := Lib.hid (QT.out.upd0 u); have OA := Lib.hid (OT.out.upd0 u); have UA := Lib.hid (UT.out.trans u); have NA := Lib.hid (u.keep NT.out (by simp))
            have y1 : x1.cell? ⟨N, 1, none⟩ = some (.int .i64 id) := cell_of NA.out 1
            have y2 : x1.cell? ⟨N, 2, none⟩ = some (.int .i64 r1) := cell_of NA.out 2
            have y3 : x1.cell? ⟨N, 3, none⟩ = some (.int .u32 r2) := cell_of NA.out 3
            have yl := lt_of_block NA.out
            clear u
            rcases OA.out with ⟨rfl, rfl⟩ | ⟨bo, mo, no, ro, lo, so, rfl, rfl, h3, h4, -, -⟩
            · go_wp2_with fail
              clear y1 y2 y3 yl
              refine (shows_nil _ id (r1, r2)).mono ?_; rintro e x2 ⟨rfl, u⟩
              have PZ := Lib.hid (PA.out.upd0 u); have QZ := Lib.hid (QA.out.upd0 u); have OZ := Lib.hid (OA.out.upd0 u); have UZ := Lib.hid (UA.out.trans u)
              clear u
              go_wp2_with fail
              go_roundw
              case rel => exact ⟨i + 1, by omega, by go_num, ⟨_, _, _, _, _, _, rfl, rfl, PZ.out, QZ.out, MT.out, OZ.out⟩, UZ.out⟩
              case measure => simp [intOf]; omega
            · have H3 := Lib.hid h3; have H4 := Lib.hid h4
              clear h3 h4
              go_wp2_with fail
              clear y1 y2 y3 yl
              refine (shows_ok H3.out H4.out id (r1, r2) HID.out HWR.out).mono ?_; rintro e x2 ⟨rfl, u⟩
              have PZ := Lib.hid (PA.out.upd0 u); have QZ := Lib.hid (QA.out.upd0 u); have OZ := Lib.hid (OA.out.upd0 u); have UZ := Lib.hid (UA.out.trans u)
              clear u H3 H4
              go_wp2_with fail
              go_roundw
              case rel => exact ⟨i + 1, by omega, by go_num, ⟨_, _, _, _, _, _, rfl, rfl, PZ.out, QZ.out, MT.out, OZ.out⟩, UZ.out⟩
              case measure => simp [intOf]; omega
          · as_aux_lemma =>
            rw [hk] at e4
            have hgA : gl < wr.heap.size + 1 := by omega
            have hgC : gl < wr.heap.size + 2 := by omega
            have hNA : wr.heap.size < wr.heap.size + 1 := by omega
            have hAC : wr.heap.size + 1 < wr.heap.size + 2 := by omega
            have hNC : wr.heap.size < wr.heap.size + 2 := by omega
            have y1 : (((wr.alloc (.cells #[.int .u8 (d : Int), .int .i64 id, .int .i64 r1, .int .u32 r2] 60)).alloc (.cells #[.int .i64 0, .int .u32 0] 24)).alloc (.cells #[.int .i64 0, .int .u32 0] 24)).cell? ⟨wr.heap.size, 1, none⟩ = some (.int .i64 id) := cell_of N1.out 1
            have y2 : (((wr.alloc (.cells #[.int .u8 (d : Int), .int .i64 id, .int .i64 r1, .int .u32 r2] 60)).alloc (.cells #[.int .i64 0, .int .u32 0] 24)).alloc (.cells #[.int .i64 0, .int .u32 0] 24)).cell? ⟨wr.heap.size, 2, none⟩ = some (.int .i64 r1) := cell_of N1.out 2
            have y3 : (((wr.alloc (.cells #[.int .u8 (d : Int), .int .i64 id, .int .i64 r1, .int .u32 r2] 60)).alloc (.cells #[.int .i64 0, .int .u32 0] 24)).alloc (.cells #[.int .i64 0, .int .u32 0] 24)).cell? ⟨wr.heap.size, 3, none⟩ = some (.int .u32 r2) := cell_of N1.out 3
            have yl := lt_of_block N1.out
            go_wp2_with fail
            generalize (((wr.alloc (.cells #[.int .u8 (d : Int), .int .i64 id, .int .i64 r1, .int .u32 r2] 60)).alloc (.cells #[.int .i64 0, .int .u32 0] 24)).alloc (.cells #[.int .i64 0, .int .u32 0] 24)) = V at *
            generalize wr.heap.size + 2 = C at *
            generalize wr.heap.size + 1 = A at *
            generalize hMw : wr.heap.size = N at *
            have hWN := Nat.le_of_eq hMw
            clear hMw
            clear y1 y2 y3 yl
            refine (pcopy P1.out).mono ?_; rintro e w2 ⟨b2, m2, n2, rfl, p2, u2, hb2, hm2, hn2⟩
            go_wp2_with fail
            refine (rcopy (Q1.out.upd0 u2) HOK.out).mono ?_; rintro e w3 ⟨rb2, gl2, rfl, q3, hg2, u3⟩
            have uu : Upd [] wr w3 := (UL.out.trans u2).trans u3
            have PT := Lib.hid (p2.upd0 u3); have QT := Lib.hid q3; have UT := Lib.hid (UP.out.trans uu); have NT := Lib.hid ((u2.trans u3).keep N1.out (by simp))
            have MT2 := Lib.hid (show w.heap.size ≤ m2 ∧ w.heap.size ≤ n2 ∧ w.heap.size ≤ gl2 from by have := UP.out.size; have := UL.out.size; have := u2.size; omega)
            have OT := Lib.hid (show Old w3 (.pointer (some ⟨b, 0, none⟩)) (.pointer (some ⟨rb, 0, none⟩)) m2 n2 gl2 from .inr ⟨b, m, n, rb, gl, s, rfl, rfl, PP.out.upd0 uu, QQ.out.upd0 uu, by have := PP.out.ltm; have := PP.out.ltn; have := UL.out.size; omega, by have := QQ.out.row.lt; have := UL.out.size; have := u2.size; omega⟩)
            have A4 := (u2.trans u3).keep A1.out (by simp)
            have C4 := (u2.trans u3).keep C1.out (by simp)
            have a0 : w3.cell? ⟨A, 0, none⟩ = some (.int .i64 0) := cell_of A4 0
            have a1 : w3.cell? ⟨A, 1, none⟩ = some (.int .u32 0) := cell_of A4 1
            have c0 : w3.cell? ⟨C, 0, none⟩ = some (.int .i64 0) := cell_of C4 0
            have c1 : w3.cell? ⟨C, 1, none⟩ = some (.int .u32 0) := cell_of C4 1
            clear p2 q3 hb2 hm2 hn2 hg2 u2 u3 uu A4 C4
            have y1 : w3.cell? ⟨N, 1, none⟩ = some (.int .i64 id) := cell_of NT.out 1
            have y2 : w3.cell? ⟨N, 2, none⟩ = some (.int .i64 r1) := cell_of NT.out 2
            have y3 : w3.cell? ⟨N, 3, none⟩ = some (.int .u32 r2) := cell_of NT.out 3
            have yl := lt_of_block NT.out
            go_wp2_with fail
            clear a0 a1 c0 c1
            clear y1 y2 y3 yl
            refine (shows_ok PT.out QT.out id (r1, r2) HID.out HWR.out).mono ?_; rintro e x1 ⟨rfl, u⟩
            have PA := Lib.hid (PT.out.upd0 u); have QA := Lib.hid (QT.out.upd0 u); have OA := Lib.hid (OT.out.upd0 u); have UA := Lib.hid (UT.out.trans u); have NA := Lib.hid (u.keep NT.out (by simp))
            have y1 : x1.cell? ⟨N, 1, none⟩ = some (.int .i64 id) := cell_of NA.out 1
            have y2 : x1.cell? ⟨N, 2, none⟩ = some (.int .i64 r1) := cell_of NA.out 2
            have y3 : x1.cell? ⟨N, 3, none⟩ = some (.int .u32 r2) := cell_of NA.out 3
            have yl := lt_of_block NA.out
            clear u
            rcases OA.out with ⟨h, -⟩ | ⟨bo, mo, no, ro, lo, so, h1, h2, h3, h4, -, -⟩
            · cases h
            · cases h1; cases h2
              have H3 := Lib.hid h3; have H4 := Lib.hid h4
              clear h3 h4
              go_wp2_with fail
              clear y1 y2 y3 yl
              refine (shows_ok H3.out H4.out id (r1, r2) HID.out HWR.out).mono ?_; rintro e x2 ⟨rfl, u⟩
              have PZ := Lib.hid (PA.out.upd0 u); have QZ := Lib.hid (QA.out.upd0 u); have OZ := Lib.hid (OA.out.upd0 u); have UZ := Lib.hid (UA.out.trans u)
              clear u H3 H4
              go_wp2_with fail
              go_roundw
              case rel => exact ⟨i + 1, by omega, by go_num, ⟨_, _, _, _, _, _, rfl, rfl, PZ.out, QZ.out, MT2.out, OZ.out⟩, UZ.out⟩
              case measure => simp [intOf]; omega
        · rcases OO.out with ⟨rfl, rfl⟩ | ⟨bo, mo, no, ro, lo, so, rfl, rfl, -⟩
          all_goals
            clear hup
            go_wp2_with fail
            refine (works_ok _).mono ?_; rintro e w4 ⟨rfl, u4⟩
            go_wp2_with fail
            go_ret
            exact ⟨rfl, UP.out.trans u4⟩
    · have hbad : a < 1 ∨ 256 < a := by omega
      have HB := Lib.hid hbad
      clear hok hbad
      go_enter Try.func8, Try.ntmps8
      go_wp2_with fail
      refine (pnew_err a w HB.out).mono ?_; rintro e w1 ⟨rfl, e1⟩
      obtain rfl := e1
      go_wp2_with fail
      refine (rnew_err a w HB.out).mono ?_; rintro e w1 ⟨rfl, e1⟩
      obtain rfl := e1
      go_wp2_with fail
      go_loopw [5, 7, 9, 10, 43] (fun q r o ws x wr => q = .pointer none ∧ r = .pointer none ∧ o = .pointer none ∧ ws = .pointer none ∧ (∃ i : Nat, i ≤ css.length ∧ x = .int .i64 i) ∧ Upd [] w wr) (fun _ _ _ _ x _ => css.length - (intOf x).toNat)
      case atStart => exact ⟨rfl, rfl, rfl, rfl, ⟨0, by omega, rfl⟩, Upd.refl _ _⟩
      case round =>
        obtain ⟨rfl, rfl, rfl, rfl, ⟨i, hi, rfl⟩, hup⟩ := hrel
        have UP := Lib.hid hup
        by_cases hlt : i < css.length
        · obtain ⟨ab, off, rfl, hab, -, hat⟩ := HV.out.at hlt
          obtain ⟨d, id, ⟨r1, r2⟩, hcs, wd, wid, hwr⟩ := HF.out _ (List.getElem_mem hlt)
          dsimp only at hcs
          have z0 : wr.cell? ⟨ab, off + i * 4, none⟩ = some (.int .u8 (d : Int)) := (hup.cell (p := ⟨ab, off + i * 4, none⟩) hab (by simp)).trans (hat 0 _ (by rw [hcs]; rfl))
          have z1 : wr.cell? ⟨ab, off + i * 4 + 1, none⟩ = some (.int .i64 id) := (hup.cell (p := ⟨ab, off + i * 4 + 1, none⟩) hab (by simp)).trans (hat 1 _ (by rw [hcs]; rfl))
          have z2 : wr.cell? ⟨ab, off + i * 4 + 2, none⟩ = some (.int .i64 r1) := (hup.cell (p := ⟨ab, off + i * 4 + 2, none⟩) hab (by simp)).trans (hat 2 _ (by rw [hcs]; rfl))
          have z3 : wr.cell? ⟨ab, off + i * 4 + 3, none⟩ = some (.int .u32 r2) := (hup.cell (p := ⟨ab, off + i * 4 + 3, none⟩) hab (by simp)).trans (hat 3 _ (by rw [hcs]; rfl))
          have zl : ab < wr.heap.size := Nat.lt_of_lt_of_le hab hup.size
          have e4 : Int.tmod (d : Int) 4 = ((d % 4 : Nat) : Int) := by rw [Int.tmod_eq_emod_of_nonneg (by omega)]; rfl
          have ul : Upd [] wr (((wr.alloc (.cells #[.int .u8 (d : Int), .int .i64 id, .int .i64 r1, .int .u32 r2] 60)).alloc (.cells #[.int .i64 0, .int .u32 0] 24)).alloc (.cells #[.int .i64 0, .int .u32 0] 24)) := (((Upd.refl _ _).alloc _).alloc _).alloc _
          have hN : (((wr.alloc (.cells #[.int .u8 (d : Int), .int .i64 id, .int .i64 r1, .int .u32 r2] 60)).alloc (.cells #[.int .i64 0, .int .u32 0] 24)).alloc (.cells #[.int .i64 0, .int .u32 0] 24)).heap[wr.heap.size]? = some (.cells #[.int .u8 (d : Int), .int .i64 id, .int .i64 r1, .int .u32 r2] 60 (0, 0)) := alloc_of (alloc_of (new_of wr (.cells #[.int .u8 (d : Int), .int .i64 id, .int .i64 r1, .int .u32 r2] 60)))
          have hA : (((wr.alloc (.cells #[.int .u8 (d : Int), .int .i64 id, .int .i64 r1, .int .u32 r2] 60)).alloc (.cells #[.int .i64 0, .int .u32 0] 24)).alloc (.cells #[.int .i64 0, .int .u32 0] 24)).heap[wr.heap.size + 1]? = some (.cells #[.int .i64 0, .int .u32 0] 24 (0, 0)) := by
            refine alloc_of ?_
            have := new_of (wr.alloc (.cells #[.int .u8 (d : Int), .int .i64 id, .int .i64 r1, .int .u32 r2] 60)) (.cells #[.int .i64 0, .int .u32 0] 24)
            rwa [World.size_alloc] at this
          have hC : (((wr.alloc (.cells #[.int .u8 (d : Int), .int .i64 id, .int .i64 r1, .int .u32 r2] 60)).alloc (.cells #[.int .i64 0, .int .u32 0] 24)).alloc (.cells #[.int .i64 0, .int .u32 0] 24)).heap[wr.heap.size + 2]? = some (.cells #[.int .i64 0, .int .u32 0] 24 (0, 0)) := by
            have := new_of ((wr.alloc (.cells #[.int .u8 (d : Int), .int .i64 id, .int .i64 r1, .int .u32 r2] 60)).alloc (.cells #[.int .i64 0, .int .u32 0] 24)) (.cells #[.int .i64 0, .int .u32 0] 24)
            simpa using this
          have N1 := Lib.hid hN; have A1 := Lib.hid hA; have C1 := Lib.hid hC; have UL := Lib.hid ul

          clear hab hat hcs hwr ul hup wid hN hA hC
          have hd4 : d % 4 = 0 ∨ d % 4 = 1 ∨ d % 4 = 2 ∨ d % 4 = 3 := by omega
          rcases hd4 with hk | hk | hk | hk
          · as_aux_lemma =>
            rw [hk] at e4
            have hNA : wr.heap.size < wr.heap.size + 1 := by omega
            have hAC : wr.heap.size + 1 < wr.heap.size + 2 := by omega
            have hNC : wr.heap.size < wr.heap.size + 2 := by omega
            have y1 : (((wr.alloc (.cells #[.int .u8 (d : Int), .int .i64 id, .int .i64 r1, .int .u32 r2] 60)).alloc (.cells #[.int .i64 0, .int .u32 0] 24)).alloc (.cells #[.int .i64 0, .int .u32 0] 24)).cell? ⟨wr.heap.size, 1, none⟩ = some (.int .i64 id) := cell_of N1.out 1
            have y2 : (((wr.alloc (.cells #[.int .u8 (d : Int), .int .i64 id, .int .i64 r1, .int .u32 r2] 60)).alloc (.cells #[.int .i64 0, .int .u32 0] 24)).alloc (.cells #[.int .i64 0, .int .u32 0] 24)).cell? ⟨wr.heap.size, 2, none⟩ = some (.int .i64 r1) := cell_of N1.out 2
            have y3 : (((wr.alloc (.cells #[.int .u8 (d : Int), .int .i64 id, .int .i64 r1, .int .u32 r2] 60)).alloc (.cells #[.int .i64 0, .int .u32 0] 24)).alloc (.cells #[.int .i64 0, .int .u32 0] 24)).cell? ⟨wr.heap.size, 3, none⟩ = some (.int .u32 r2) := cell_of N1.out 3
            have yl := lt_of_block N1.out
            go_wp2_with fail
            generalize (((wr.alloc (.cells #[.int .u8 (d : Int), .int .i64 id, .int .i64 r1, .int .u32 r2] 60)).alloc (.cells #[.int .i64 0, .int .u32 0] 24)).alloc (.cells #[.int .i64 0, .int .u32 0] 24)) = V at *
            generalize wr.heap.size + 2 = C at *
            generalize wr.heap.size + 1 = A at *
            generalize hMw : wr.heap.size = N at *
            have hWN := Nat.le_of_eq hMw
            clear hMw
            go_region_held3 (fun w' => w'.cell? ⟨N, 1, none⟩ = some (.int .i64 id) ∧ w'.cell? ⟨N, 2, none⟩ = some (.int .i64 r1) ∧ w'.cell? ⟨N, 3, none⟩ = some (.int .u32 r2)) (first | go_keep | exact ⟨y1, y2, y3⟩ | exact KB | exact KA) (first | (go_at_call 21; refine (rnadd id r1 r2 w2).mono ?_; rintro e w3 ⟨rfl, v3⟩; have NB3 := v3.keep NBA (by simp); have KB := And.intro (cell_of NB3 1) (And.intro (cell_of NB3 2) (cell_of NB3 3))) | (go_at_call 12; refine (nadd none id r1 r2 _ (.inl rfl)).mono ?_; rintro e w2 ⟨rfl, v2⟩; have u2 : Upd [] V w2 := ((Upd.refl _ _).drew).trans v2; have NBA := u2.keep N1.out (by simp); have KA := And.intro (cell_of NBA 1) (And.intro (cell_of NBA 2) (cell_of NBA 3))))
            all_goals
              have uu : Upd [] V w3 := u2.trans v3
              have NT := Lib.hid NB3; have UT := Lib.hid ((UP.out.trans UL.out).trans uu)
              have A4 := uu.keep A1.out (by simp)
              have C4 := uu.keep C1.out (by simp)
              have a0 : w3.cell? ⟨A, 0, none⟩ = some (.int .i64 0) := cell_of A4 0
              have a1 : w3.cell? ⟨A, 1, none⟩ = some (.int .u32 0) := cell_of A4 1
              have c0 : w3.cell? ⟨C, 0, none⟩ = some (.int .i64 0) := cell_of C4 0
              have c1 : w3.cell? ⟨C, 1, none⟩ = some (.int .u32 0) := cell_of C4 1
              clear y1 y2 y3 yl u2 v2 v3 NBA KA KB NB3 A4 C4 uu
              have y1 : w3.cell? ⟨N, 1, none⟩ = some (.int .i64 id) := cell_of NT.out 1
              have y2 : w3.cell? ⟨N, 2, none⟩ = some (.int .i64 r1) := cell_of NT.out 2
              have y3 : w3.cell? ⟨N, 3, none⟩ = some (.int .u32 r2) := cell_of NT.out 3
              have yl := lt_of_block NT.out
              go_wp2_with fail
              clear a0 a1 c0 c1
              clear y1 y2 y3 yl
              refine (shows_nil _ id (r1, r2)).mono ?_; rintro e x1 ⟨rfl, u⟩
              have UA := Lib.hid (UT.out.trans u); have NA := Lib.hid (u.keep NT.out (by simp))
              have y1 : x1.cell? ⟨N, 1, none⟩ = some (.int .i64 id) := cell_of NA.out 1
              have y2 : x1.cell? ⟨N, 2, none⟩ = some (.int .i64 r1) := cell_of NA.out 2
              have y3 : x1.cell? ⟨N, 3, none⟩ = some (.int .u32 r2) := cell_of NA.out 3
              have yl := lt_of_block NA.out
              clear u
              go_wp2_with fail
              clear y1 y2 y3 yl
              refine (shows_nil _ id (r1, r2)).mono ?_; rintro e x2 ⟨rfl, u⟩
              have UZ := Lib.hid (UA.out.trans u)
              clear u
              go_wp2_with fail
              go_roundw
              case rel => exact ⟨rfl, rfl, rfl, rfl, ⟨i + 1, by omega, by go_num⟩, UZ.out⟩
              case measure => simp [intOf]; omega
          · as_aux_lemma =>
            rw [hk] at e4
            have hNA : wr.heap.size < wr.heap.size + 1 := by omega
            have hAC : wr.heap.size + 1 < wr.heap.size + 2 := by omega
            have hNC : wr.heap.size < wr.heap.size + 2 := by omega
            have y1 : (((wr.alloc (.cells #[.int .u8 (d : Int), .int .i64 id, .int .i64 r1, .int .u32 r2] 60)).alloc (.cells #[.int .i64 0, .int .u32 0] 24)).alloc (.cells #[.int .i64 0, .int .u32 0] 24)).cell? ⟨wr.heap.size, 1, none⟩ = some (.int .i64 id) := cell_of N1.out 1
            have y2 : (((wr.alloc (.cells #[.int .u8 (d : Int), .int .i64 id, .int .i64 r1, .int .u32 r2] 60)).alloc (.cells #[.int .i64 0, .int .u32 0] 24)).alloc (.cells #[.int .i64 0, .int .u32 0] 24)).cell? ⟨wr.heap.size, 2, none⟩ = some (.int .i64 r1) := cell_of N1.out 2
            have y3 : (((wr.alloc (.cells #[.int .u8 (d : Int), .int .i64 id, .int .i64 r1, .int .u32 r2] 60)).alloc (.cells #[.int .i64 0, .int .u32 0] 24)).alloc (.cells #[.int .i64 0, .int .u32 0] 24)).cell? ⟨wr.heap.size, 3, none⟩ = some (.int .u32 r2) := cell_of N1.out 3
            have yl := lt_of_block N1.out
            go_wp2_with fail
            generalize (((wr.alloc (.cells #[.int .u8 (d : Int), .int .i64 id, .int .i64 r1, .int .u32 r2] 60)).alloc (.cells #[.int .i64 0, .int .u32 0] 24)).alloc (.cells #[.int .i64 0, .int .u32 0] 24)) = V at *
            generalize wr.heap.size + 2 = C at *
            generalize wr.heap.size + 1 = A at *
            generalize hMw : wr.heap.size = N at *
            have hWN := Nat.le_of_eq hMw
            clear hMw
            go_region_held3 (fun w' => w'.cell? ⟨N, 1, none⟩ = some (.int .i64 id) ∧ w'.cell? ⟨N, 2, none⟩ = some (.int .i64 r1) ∧ w'.cell? ⟨N, 3, none⟩ = some (.int .u32 r2)) (first | go_keep | exact ⟨y1, y2, y3⟩ | exact KB | exact KA) (first | (go_at_call 21; refine (rnadd id r1 r2 w2).mono ?_; rintro e w3 ⟨rfl, v3⟩; have NB3 := v3.keep NBA (by simp); have KB := And.intro (cell_of NB3 1) (And.intro (cell_of NB3 2) (cell_of NB3 3))) | (go_at_call 12; refine (nadd none id r1 r2 _ (.inl rfl)).mono ?_; rintro e w2 ⟨rfl, v2⟩; have u2 : Upd [] V w2 := ((Upd.refl _ _).drew).trans v2; have NBA := u2.keep N1.out (by simp); have KA := And.intro (cell_of NBA 1) (And.intro (cell_of NBA 2) (cell_of NBA 3))))
            all_goals
              have uu : Upd [] V w3 := u2.trans v3
              have NT := Lib.hid NB3; have UT := Lib.hid ((UP.out.trans UL.out).trans uu)
              have A4 := uu.keep A1.out (by simp)
              have C4 := uu.keep C1.out (by simp)
              have a0 : w3.cell? ⟨A, 0, none⟩ = some (.int .i64 0) := cell_of A4 0
              have a1 : w3.cell? ⟨A, 1, none⟩ = some (.int .u32 0) := cell_of A4 1
              have c0 : w3.cell? ⟨C, 0, none⟩ = some (.int .i64 0) := cell_of C4 0
              have c1 : w3.cell? ⟨C, 1, none⟩ = some (.int .u32 0) := cell_of C4 1
              clear y1 y2 y3 yl u2 v2 v3 NBA KA KB NB3 A4 C4 uu
              have y1 : w3.cell? ⟨N, 1, none⟩ = some (.int .i64 id) := cell_of NT.out 1
              have y2 : w3.cell? ⟨N, 2, none⟩ = some (.int .i64 r1) := cell_of NT.out 2
              have y3 : w3.cell? ⟨N, 3, none⟩ = some (.int .u32 r2) := cell_of NT.out 3
              have yl := lt_of_block NT.out
              go_wp2_with fail
              clear a0 a1 c0 c1
              clear y1 y2 y3 yl
              refine (shows_nil _ id (r1, r2)).mono ?_; rintro e x1 ⟨rfl, u⟩
              have UA := Lib.hid (UT.out.trans u); have NA := Lib.hid (u.keep NT.out (by simp))
              have y1 : x1.cell? ⟨N, 1, none⟩ = some (.int .i64 id) := cell_of NA.out 1
              have y2 : x1.cell? ⟨N, 2, none⟩ = some (.int .i64 r1) := cell_of NA.out 2
              have y3 : x1.cell? ⟨N, 3, none⟩ = some (.int .u32 r2) := cell_of NA.out 3
              have yl := lt_of_block NA.out
              clear u
              go_wp2_with fail
              clear y1 y2 y3 yl
              refine (shows_nil _ id (r1, r2)).mono ?_; rintro e x2 ⟨rfl, u⟩
              have UZ := Lib.hid (UA.out.trans u)
              clear u
              go_wp2_with fail
              go_roundw
              case rel => exact ⟨rfl, rfl, rfl, rfl, ⟨i + 1, by omega, by go_num⟩, UZ.out⟩
              case measure => simp [intOf]; omega
          · as_aux_lemma =>
            rw [hk] at e4
            have hNA : wr.heap.size < wr.heap.size + 1 := by omega
            have hAC : wr.heap.size + 1 < wr.heap.size + 2 := by omega
            have hNC : wr.heap.size < wr.heap.size + 2 := by omega
            have y1 : (((wr.alloc (.cells #[.int .u8 (d : Int), .int .i64 id, .int .i64 r1, .int .u32 r2] 60)).alloc (.cells #[.int .i64 0, .int .u32 0] 24)).alloc (.cells #[.int .i64 0, .int .u32 0] 24)).cell? ⟨wr.heap.size, 1, none⟩ = some (.int .i64 id) := cell_of N1.out 1
            have y2 : (((wr.alloc (.cells #[.int .u8 (d : Int), .int .i64 id, .int .i64 r1, .int .u32 r2] 60)).alloc (.cells #[.int .i64 0, .int .u32 0] 24)).alloc (.cells #[.int .i64 0, .int .u32 0] 24)).cell? ⟨wr.heap.size, 2, none⟩ = some (.int .i64 r1) := cell_of N1.out 2
            have y3 : (((wr.alloc (.cells #[.int .u8 (d : Int), .int .i64 id, .int .i64 r1, .int .u32 r2] 60)).alloc (.cells #[.int .i64 0, .int .u32 0] 24)).alloc (.cells #[.int .i64 0, .int .u32 0] 24)).cell? ⟨wr.heap.size, 3, none⟩ = some (.int .u32 r2) := cell_of N1.out 3
            have yl := lt_of_block N1.out
            go_wp2_with fail
            generalize (((wr.alloc (.cells #[.int .u8 (d : Int), .int .i64 id, .int .i64 r1, .int .u32 r2] 60)).alloc (.cells #[.int .i64 0, .int .u32 0] 24)).alloc (.cells #[.int .i64 0, .int .u32 0] 24)) = V at *
            generalize wr.heap.size + 2 = C at *
            generalize wr.heap.size + 1 = A at *
            generalize hMw : wr.heap.size = N at *
            have hWN := Nat.le_of_eq hMw
            clear hMw
            clear y1 y2 y3 yl
            refine (nclr none id _ (.inl rfl)).mono ?_; rintro e w2 ⟨rfl, u2⟩
            have NX := u2.keep N1.out (by simp)
            have AX := u2.keep A1.out (by simp)
            have CX := u2.keep C1.out (by simp)
            have uA : Upd [A] w2 ((w2.setCell ⟨A, 0, none⟩ (.int .i64 0)).setCell ⟨A, 1, none⟩ (.int .u32 0)) := ((Upd.refl [A] w2).setCell (p := ⟨A, 0, none⟩) (by simp) _).setCell (p := ⟨A, 1, none⟩) (by simp) _
            have N3 := Lib.hid (uA.keep NX (by simp; omega)); have C3 := Lib.hid (uA.keep CX (by simp; omega)); have A3 := Lib.hid (set_of (set_of AX 0 (.int .i64 0)) 1 (.int .u32 0))
            have U3 := Lib.hid ((UL.out.trans u2).after uA (by simp; omega))
            have a0 : w2.cell? ⟨A, 0, none⟩ = some (.int .i64 0) := cell_of AX 0
            have a1 : w2.cell? ⟨A, 1, none⟩ = some (.int .u32 0) := cell_of AX 1
            have a2 : w2.frozen? ⟨A, 0, none⟩ = false := free_of AX 0
            have a3 : w2.frozen? ⟨A, 1, none⟩ = false := free_of AX 1
            have y1 : w2.cell? ⟨N, 1, none⟩ = some (.int .i64 id) := cell_of NX 1
            have yl := lt_of_block NX
            clear u2 AX CX NX uA
            go_wp2_with fail
            clear a0 a1 a2 a3 y1 yl
            generalize ((w2.setCell ⟨A, 0, none⟩ (.int .i64 0)).setCell ⟨A, 1, none⟩ (.int .u32 0)) = w3 at *
            refine (rnclr id _).mono ?_; rintro e w4 ⟨rfl, v4⟩
            have NX := v4.keep N3.out (by simp)
            have AX := v4.keep A3.out (by simp)
            have CX := v4.keep C3.out (by simp)
            have uC : Upd [C] w4 ((w4.setCell ⟨C, 0, none⟩ (.int .i64 0)).setCell ⟨C, 1, none⟩ (.int .u32 0)) := ((Upd.refl [C] w4).setCell (p := ⟨C, 0, none⟩) (by simp) _).setCell (p := ⟨C, 1, none⟩) (by simp) _
            have NT := Lib.hid (uC.keep NX (by simp; omega))
            have uu : Upd [] wr ((w4.setCell ⟨C, 0, none⟩ (.int .i64 0)).setCell ⟨C, 1, none⟩ (.int .u32 0)) := (U3.out.trans v4).after uC (by simp; omega)
            have UT := Lib.hid (UP.out.trans uu)
            have a0 : w4.cell? ⟨A, 0, none⟩ = some (.int .i64 0) := cell_of AX 0
            have a1 : w4.cell? ⟨A, 1, none⟩ = some (.int .u32 0) := cell_of AX 1
            have c0 : w4.cell? ⟨C, 0, none⟩ = some (.int .i64 0) := cell_of CX 0
            have c1 : w4.cell? ⟨C, 1, none⟩ = some (.int .u32 0) := cell_of CX 1
            have c2 : w4.frozen? ⟨C, 0, none⟩ = false := free_of CX 0
            have c3 : w4.frozen? ⟨C, 1, none⟩ = false := free_of CX 1
            have d0 : ((w4.setCell ⟨C, 0, none⟩ (.int .i64 0)).setCell ⟨C, 1, none⟩ (.int .u32 0)).cell? ⟨C, 0, none⟩ = some (.int .i64 0) := cell_of (set_of (set_of CX 0 _) 1 _) 0
            have d1 : ((w4.setCell ⟨C, 0, none⟩ (.int .i64 0)).setCell ⟨C, 1, none⟩ (.int .u32 0)).cell? ⟨C, 1, none⟩ = some (.int .u32 0) := cell_of (set_of (set_of CX 0 _) 1 _) 1
            have y1 : w4.cell? ⟨N, 1, none⟩ = some (.int .i64 id) := cell_of NX 1
            have y2 : w4.cell? ⟨N, 2, none⟩ = some (.int .i64 r1) := cell_of NX 2
            have y3 : w4.cell? ⟨N, 3, none⟩ = some (.int .u32 r2) := cell_of NX 3
            have yl := lt_of_block NX
            clear v4 NX AX CX uC uu
            go_wp2_with fail
            clear a0 a1 c0 c1 c2 c3 d0 d1
            generalize ((w4.setCell ⟨C, 0, none⟩ (.int .i64 0)).setCell ⟨C, 1, none⟩ (.int .u32 0)) = w5 at *
            clear y1 y2 y3 yl
            refine (shows_nil _ id (r1, r2)).mono ?_; rintro e x1 ⟨rfl, u⟩
            have UA := Lib.hid (UT.out.trans u); have NA := Lib.hid (u.keep NT.out (by simp))
            have y1 : x1.cell? ⟨N, 1, none⟩ = some (.int .i64 id) := cell_of NA.out 1
            have y2 : x1.cell? ⟨N, 2, none⟩ = some (.int .i64 r1) := cell_of NA.out 2
            have y3 : x1.cell? ⟨N, 3, none⟩ = some (.int .u32 r2) := cell_of NA.out 3
            have yl := lt_of_block NA.out
            clear u
            go_wp2_with fail
            clear y1 y2 y3 yl
            refine (shows_nil _ id (r1, r2)).mono ?_; rintro e x2 ⟨rfl, u⟩
            have UZ := Lib.hid (UA.out.trans u)
            clear u
            go_wp2_with fail
            go_roundw
            case rel => exact ⟨rfl, rfl, rfl, rfl, ⟨i + 1, by omega, by go_num⟩, UZ.out⟩
            case measure => simp [intOf]; omega
          · as_aux_lemma =>
            rw [hk] at e4
            have hNA : wr.heap.size < wr.heap.size + 1 := by omega
            have hAC : wr.heap.size + 1 < wr.heap.size + 2 := by omega
            have hNC : wr.heap.size < wr.heap.size + 2 := by omega
            have y1 : (((wr.alloc (.cells #[.int .u8 (d : Int), .int .i64 id, .int .i64 r1, .int .u32 r2] 60)).alloc (.cells #[.int .i64 0, .int .u32 0] 24)).alloc (.cells #[.int .i64 0, .int .u32 0] 24)).cell? ⟨wr.heap.size, 1, none⟩ = some (.int .i64 id) := cell_of N1.out 1
            have y2 : (((wr.alloc (.cells #[.int .u8 (d : Int), .int .i64 id, .int .i64 r1, .int .u32 r2] 60)).alloc (.cells #[.int .i64 0, .int .u32 0] 24)).alloc (.cells #[.int .i64 0, .int .u32 0] 24)).cell? ⟨wr.heap.size, 2, none⟩ = some (.int .i64 r1) := cell_of N1.out 2
            have y3 : (((wr.alloc (.cells #[.int .u8 (d : Int), .int .i64 id, .int .i64 r1, .int .u32 r2] 60)).alloc (.cells #[.int .i64 0, .int .u32 0] 24)).alloc (.cells #[.int .i64 0, .int .u32 0] 24)).cell? ⟨wr.heap.size, 3, none⟩ = some (.int .u32 r2) := cell_of N1.out 3
            have yl := lt_of_block N1.out
            go_wp2_with fail
            generalize (((wr.alloc (.cells #[.int .u8 (d : Int), .int .i64 id, .int .i64 r1, .int .u32 r2] 60)).alloc (.cells #[.int .i64 0, .int .u32 0] 24)).alloc (.cells #[.int .i64 0, .int .u32 0] 24)) = V at *
            generalize wr.heap.size + 2 = C at *
            generalize wr.heap.size + 1 = A at *
            generalize hMw : wr.heap.size = N at *
            have hWN := Nat.le_of_eq hMw
            clear hMw
            clear y1 y2 y3 yl
            refine (ncopy none _ (.inl rfl)).mono ?_; rintro e w2 ⟨rfl, e2⟩
            obtain rfl := e2
            go_wp2_with fail
            refine (rncopy _).mono ?_; rintro e w2 ⟨rfl, e2⟩
            obtain rfl := e2
            have NT := N1
            have UT := Lib.hid (UP.out.trans UL.out)
            have A4 := A1.out
            have C4 := C1.out
            have a0 : V.cell? ⟨A, 0, none⟩ = some (.int .i64 0) := cell_of A4 0
            have a1 : V.cell? ⟨A, 1, none⟩ = some (.int .u32 0) := cell_of A4 1
            have c0 : V.cell? ⟨C, 0, none⟩ = some (.int .i64 0) := cell_of C4 0
            have c1 : V.cell? ⟨C, 1, none⟩ = some (.int .u32 0) := cell_of C4 1
            clear A4 C4
            have y1 : V.cell? ⟨N, 1, none⟩ = some (.int .i64 id) := cell_of NT.out 1
            have y2 : V.cell? ⟨N, 2, none⟩ = some (.int .i64 r1) := cell_of NT.out 2
            have y3 : V.cell? ⟨N, 3, none⟩ = some (.int .u32 r2) := cell_of NT.out 3
            have yl := lt_of_block NT.out
            go_wp2_with fail
            clear a0 a1 c0 c1
            clear y1 y2 y3 yl
            refine (shows_nil _ id (r1, r2)).mono ?_; rintro e x1 ⟨rfl, u⟩
            have UA := Lib.hid (UT.out.trans u); have NA := Lib.hid (u.keep NT.out (by simp))
            have y1 : x1.cell? ⟨N, 1, none⟩ = some (.int .i64 id) := cell_of NA.out 1
            have y2 : x1.cell? ⟨N, 2, none⟩ = some (.int .i64 r1) := cell_of NA.out 2
            have y3 : x1.cell? ⟨N, 3, none⟩ = some (.int .u32 r2) := cell_of NA.out 3
            have yl := lt_of_block NA.out
            clear u
            go_wp2_with fail
            clear y1 y2 y3 yl
            refine (shows_nil _ id (r1, r2)).mono ?_; rintro e x2 ⟨rfl, u⟩
            have UZ := Lib.hid (UA.out.trans u)
            clear u
            go_wp2_with fail
            go_roundw
            case rel => exact ⟨rfl, rfl, rfl, rfl, ⟨i + 1, by omega, by go_num⟩, UZ.out⟩
            case measure => simp [intOf]; omega
        · clear hup
          go_wp2_with fail
          refine (works_ok _).mono ?_; rintro e w4 ⟨rfl, u4⟩
          go_wp2_with fail
          go_ret
          exact ⟨rfl, UP.out.trans u4⟩
  · have hg : (100 : Int) < (css.length : Int) := by omega
    clear h100
    go_enter Try.func8, Try.ntmps8
    go_wp2_with fail
    refine (works_ok _).mono ?_; rintro e w4 ⟨rfl, u4⟩
    go_wp2_with fail
    go_ret
    exact ⟨rfl, u4⟩

theorem plays_fr (w : World) (a : Int) (_ : (Lit.int .i64 a).wf = true) (v : Value) (css : List (List Value)) (h : Recs w v 4 css ∧ ∀ cs ∈ css, IsStep cs) :
    Calls Try.prog 8 #[.int .i64 a, v] w fun e w' => e = .returned (.bool true) ∧ Upd [] w w' :=
  plays_ok a v css w h.1 h.2

end Go.Proofs.Ytlndkmejmolnhaa
