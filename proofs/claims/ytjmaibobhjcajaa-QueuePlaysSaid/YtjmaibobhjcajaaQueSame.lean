/-
  Two lists that are equal are found so by 'same' and by the document's 'Ints'; the examples of the chapter hold. Conditions: none.
-/
import Derived.Test.YtjmaibobhjcajaaQueAny
namespace Go.Proofs.Ytjmaibobhjcajaa
open Go.RowKit

set_option maxHeartbeats 1000000 in
theorem same_ok (v v2 : Value) (l : List Int) (w : World) (h : Ints w v l) (h2 : Ints w v2 l) : Calls Try.prog 13 #[v, v2] w fun e w' => e = .returned (.bool true) ∧ Upd [] w w' := by
  obtain ⟨a, c, rfl, hac, hcm⟩ := h.form
  obtain ⟨a2, c2, rfl, hac2, hcm2⟩ := h2.form
  have H := Lib.hid h; have H2 := Lib.hid h2
  clear h h2
  go_enter Try.func13, Try.ntmps13
  go_wp2_with fail
  go_loopw [5] (fun x wr => ∃ i : Nat, i ≤ l.length ∧ x = .int .i64 i ∧ Upd [] w wr) (fun x _ => l.length - (intOf x).toNat)
  case atStart => exact ⟨0, by omega, rfl, Upd.refl _ _⟩
  case round =>
    obtain ⟨i, hi, rfl, hup⟩ := hrel
    by_cases hlt : i < l.length
    · obtain ⟨g, off, rfl, hg, _, hc⟩ := (H.out.upd0 hup).at hlt
      obtain ⟨g2, off2, rfl, hg2, _, hc2⟩ := (H2.out.upd0 hup).at hlt
      generalize l[i] = x at *
      go_wp2_with fail
      go_quiet (fail)
      go_wp2
      go_roundw
      case rel => exact ⟨i + 1, by omega, by go_num, hup.drewN _⟩
      case measure => simp [intOf]; omega
    · go_wp2
      go_ret
      exact ⟨rfl, hup⟩
set_option maxHeartbeats 1000000 in
theorem ints_ok (v v2 : Value) (l : List Int) (w : World) (h : Ints w v l) (h2 : Ints w v2 l) : Calls Try.prog 28 #[v, v2] w fun e w' => e = .returned (.bool true) ∧ Upd [] w w' := by
  obtain ⟨a, c, rfl, hac, hcm⟩ := h.form
  obtain ⟨a2, c2, rfl, hac2, hcm2⟩ := h2.form
  have H := Lib.hid h; have H2 := Lib.hid h2
  clear h h2
  go_enter Try.func28, Try.ntmps28
  go_wp2_with fail
  go_loopw [5] (fun x wr => ∃ i : Nat, i ≤ l.length ∧ x = .int .i64 i ∧ Upd [] w wr) (fun x _ => l.length - (intOf x).toNat)
  case atStart => exact ⟨0, by omega, rfl, Upd.refl _ _⟩
  case round =>
    obtain ⟨i, hi, rfl, hup⟩ := hrel
    by_cases hlt : i < l.length
    · obtain ⟨g, off, rfl, hg, _, hc⟩ := (H.out.upd0 hup).at hlt
      obtain ⟨g2, off2, rfl, hg2, _, hc2⟩ := (H2.out.upd0 hup).at hlt
      generalize l[i] = x at *
      go_wp2_with fail
      go_quiet (fail)
      go_wp2
      go_roundw
      case rel => exact ⟨i + 1, by omega, by go_num, hup.drewN _⟩
      case measure => simp [intOf]; omega
    · go_wp2
      go_ret
      exact ⟨rfl, hup⟩

set_option maxRecDepth 100000 in
set_option maxHeartbeats 2000000 in
theorem works_ok (w : World) : Calls Try.prog 11 #[] w fun e w' => e = .returned (.bool true) ∧ Upd [] w w' := by
  go_enter Try.func11, Try.ntmps11
  go_wp2_with fail
  refine (new_at 2 _ (by omega) (by omega)).mono ?_; rintro e w1 ⟨rfl, a1, u1⟩
  have hw0 : w.heap.size ≤ w.heap.size := Nat.le_refl _
  generalize hb : w.heap.size = b at a1 ⊢
  have hw := Nat.le_of_eq hb
  clear hb hw0
  go_wp2_with fail
  refine (add_any 5 a1).mono ?_; rintro e w2 ⟨rfl, a2, u2⟩
  rw [show (Qu.mk 2 []).addE 5 = 0 from by decide]
  rw [show (Qu.mk 2 []).addS 5 = ⟨2, [5]⟩ from rfl] at a2
  go_wp2_with fail
  refine (add_any 5 a2).mono ?_; rintro e w3 ⟨rfl, a3, u3⟩
  rw [show (Qu.mk 2 [5]).addE 5 = 6 from by decide]
  rw [show (Qu.mk 2 [5]).addS 5 = ⟨2, [5]⟩ from rfl] at a3
  go_wp2_with fail
  refine (add_any 7 a3).mono ?_; rintro e w4 ⟨rfl, a4, u4⟩
  rw [show (Qu.mk 2 [5]).addE 7 = 0 from by decide]
  rw [show (Qu.mk 2 [5]).addS 7 = ⟨2, [5, 7]⟩ from rfl] at a4
  go_wp2_with fail
  refine (add_any 9 a4).mono ?_; rintro e w5 ⟨rfl, a5, u5⟩
  rw [show (Qu.mk 2 [5, 7]).addE 9 = 4 from by decide]
  rw [show (Qu.mk 2 [5, 7]).addS 9 = ⟨2, [5, 7]⟩ from rfl] at a5
  have up5 : Upd [] w w5 := (((u1.fresh1 u2 hw).fresh1 u3 hw).fresh1 u4 hw).fresh1 u5 hw
  clear a1 a2 a3 a4 u1 u2 u3 u4 u5
  go_wp2_with fail
  refine (poll_any a5).mono ?_; rintro e w6 ⟨rfl, a6, u6⟩
  rw [show (Qu.mk 2 [5, 7]).pollX = 5 from rfl, show (Qu.mk 2 [5, 7]).pollB = true from rfl]
  rw [show (Qu.mk 2 [5, 7]).pollS = ⟨2, [7]⟩ from rfl] at a6
  go_wp2_with fail
  refine (add_any 9 a6).mono ?_; rintro e w7 ⟨rfl, a7, u7⟩
  rw [show (Qu.mk 2 [7]).addE 9 = 0 from by decide]
  rw [show (Qu.mk 2 [7]).addS 9 = ⟨2, [7, 9]⟩ from rfl] at a7
  have up7 : Upd [] w w7 := (up5.fresh1 u6 hw).fresh1 u7 hw
  clear a5 a6 u6 u7 up5
  go_wp2_with fail
  refine (peek_any 1 a7).mono ?_; rintro e w8 ⟨rfl, u8⟩
  rw [show (Qu.mk 2 [7, 9]).peekX 1 = 9 from rfl, show (Qu.mk 2 [7, 9]).peekE 1 = 0 from rfl]
  have a8 := a7.upd u8 (by simp)
  go_wp2_with fail
  refine (peek_any 2 a8).mono ?_; rintro e w9 ⟨rfl, u9⟩
  rw [show (Qu.mk 2 [7, 9]).peekX 2 = 0 from rfl, show (Qu.mk 2 [7, 9]).peekE 2 = 3 from rfl]
  have a9 := a8.upd u9 (by simp)
  have up9 : Upd [] w w9 := (up7.trans u8).trans u9
  clear a7 a8 u8 u9 up7
  go_wp2_with fail
  refine (rem_any 7 a9).mono ?_; rintro e w10 ⟨rfl, a10, u10⟩
  rw [show (Qu.mk 2 [7, 9]).remB 7 = true from by decide]
  rw [show (Qu.mk 2 [7, 9]).remS 7 = ⟨2, [9]⟩ from rfl] at a10
  go_wp2_with fail
  refine (rem_any 7 a10).mono ?_; rintro e w11 ⟨rfl, a11, u11⟩
  rw [show (Qu.mk 2 [9]).remB 7 = false from by decide]
  rw [show (Qu.mk 2 [9]).remS 7 = ⟨2, [9]⟩ from rfl] at a11
  have up11 : Upd [] w w11 := (up9.fresh1 u10 hw).fresh1 u11 hw
  clear a9 a10 u10 u11 up9
  go_wp2_with fail
  refine (drain_any 5 a11 (by omega)).mono ?_; rintro e w12 ⟨v, rfl, hown, a12, u12⟩
  rw [show drK [9] 5 = 1 from rfl] at hown a12
  have hi : Ints w12 v [9] := Ints.ofOwn (l := [9]) hown
  have up12 : Upd [] w w12 := up11.fresh1 u12 hw
  clear hown a11 u12 up11
  obtain ⟨a, c, rfl, hac, hcm⟩ := hi.form
  go_wp2_with fail
  have hl : Ints (w12.alloc (.cells #[.int .i64 9] 3)) (.slice (some ⟨w12.heap.size, 0, none⟩) 1 1) [9] := sl_lit1 _ _ _ _
  have u13 : Upd [] w12 (w12.alloc (.cells #[.int .i64 9] 3)) := (Upd.refl _ _).alloc _
  refine (ints_ok _ _ [9] _ (hi.upd0 u13) hl).mono ?_; rintro e w13 ⟨rfl, u14⟩
  have a13 := a12.upd (u13.trans u14) (by simp)
  have up13 := up12.trans (u13.trans u14)
  clear a12 u13 u14 up12 hl hi
  go_wp2_with fail
  refine (room_any a13).mono ?_; rintro e w14 ⟨rfl, u15⟩
  have a14 := a13.upd u15 (by simp)
  go_wp2_with fail
  refine (len_any a14).mono ?_; rintro e w15 ⟨rfl, u16⟩
  go_wp2_with fail
  go_ret
  exact ⟨rfl, (up13.trans u15).trans u16⟩

end Go.Proofs.Ytjmaibobhjcajaa
