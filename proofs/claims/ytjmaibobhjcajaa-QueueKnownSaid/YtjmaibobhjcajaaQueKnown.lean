/-
  QueueKnown: the limits, and errors in their order. Conditions: none.
-/
import Derived.Test.YtjmaibobhjcajaaQueSame
namespace Go.Proofs.Ytjmaibobhjcajaa
open Go.RowKit

/-- 255, 254, .. -/
def down (i : Nat) : List Int := (List.range i).map fun j : Nat => 255 - (j : Int)
theorem down_succ (i : Nat) : down (i + 1) = down i ++ [255 - (i : Int)] := by simp [down, List.range_succ]
theorem down_len (i : Nat) : (down i).length = i := by simp [down]
theorem down_new (i : Nat) : 255 - (i : Int) ∉ down i := by
  intro h
  obtain ⟨j, hj, e⟩ := List.mem_map.1 h
  have := List.mem_range.1 hj
  omega
def LA : List Int := down 64
def LB : List Int := down 63
def LC : List Int := down 63 ++ [0]
theorem r1 : (Qu.mk 64 LA).addE 0 = 4 := by decide +kernel
theorem r2 : (Qu.mk 64 LA).addS 0 = ⟨64, LA⟩ := by rw [Qu.addS, if_neg]; simp [LA, down_len]
theorem r3 : (Qu.mk 64 LA).addE 255 = 6 := by decide +kernel
theorem r4 : (Qu.mk 64 LA).addS 255 = ⟨64, LA⟩ := by rw [Qu.addS, if_neg]; simp [LA, down_len]
theorem r5 : (Qu.mk 64 LA).addE 256 = 3 := by decide +kernel
theorem r6 : (Qu.mk 64 LA).addS 256 = ⟨64, LA⟩ := by rw [Qu.addS, if_neg]; simp
theorem r7 : (Qu.mk 64 LA).addE (-1) = 3 := by decide +kernel
theorem r8 : (Qu.mk 64 LA).addS (-1) = ⟨64, LA⟩ := by rw [Qu.addS, if_neg]; simp
theorem r9 : (Qu.mk 64 LA).remB 256 = false := by decide +kernel
theorem r10 : (Qu.mk 64 LA).remS 256 = ⟨64, LA⟩ := by
  have : fnd LA 256 = none := by decide +kernel
  simp only [Qu.remS, this]
theorem r11 : (Qu.mk 64 LA).remB 192 = true := by decide +kernel
theorem r12 : (Qu.mk 64 LA).remS 192 = ⟨64, LB⟩ := by
  have h : fnd LA 192 = some 63 := by decide +kernel
  have h2 : LA.eraseIdx 63 = LB := by decide +kernel
  simp only [Qu.remS, h, h2]
theorem r13 : (Qu.mk 64 LB).addE 0 = 0 := by decide +kernel
theorem r14 : (Qu.mk 64 LB).addS 0 = ⟨64, LC⟩ := by
  rw [Qu.addS, if_pos (by decide +kernel)]; rfl
theorem r15 : (Qu.mk 64 LC).peekX 0 = 255 := by decide +kernel
theorem r16 : (Qu.mk 64 LC).peekE 0 = 0 := by decide +kernel
theorem r17 : (Qu.mk 64 LC).peekX 63 = 0 := by decide +kernel
theorem r18 : (Qu.mk 64 LC).peekE 63 = 0 := by decide +kernel
theorem r19 : (Qu.mk 64 LC).peekX 64 = 0 := by decide +kernel
theorem r20 : (Qu.mk 64 LC).peekE 64 = 3 := by decide +kernel
theorem r21 : (Qu.mk 64 LC).peekX (-1) = 0 := by decide +kernel
theorem r22 : (Qu.mk 64 LC).peekE (-1) = 3 := by decide +kernel
theorem lc_len : LC.length = 64 := by simp [LC, down_len]
theorem drk0 : drK LC 0 = 0 := by unfold drK; simp
theorem drk_all : drK LC 4611686018427387904 = 64 := by unfold drK; rw [lc_len]; omega
theorem lc62 : LC[62]? = some 193 := by decide +kernel

set_option maxRecDepth 100000 in
set_option maxHeartbeats 4000000 in
theorem known_ok (w : World) : Calls Try.prog 6 #[] w fun e w' => e = .returned (.bool true) ∧ Upd [] w w' := by
  go_enter Try.func6, Try.ntmps6
  go_wp2_with fail
  refine wp_loop_rounds 4 ?_
  rw [rounds_succ]
  go_wp2_with fail
  refine (new_err 0 _ (.inl (by omega))).mono ?_; rintro e wx ⟨rfl, rfl⟩
  go_wp2_with fail
  rw [rounds_succ]
  go_wp2_with fail
  refine (new_err (-1) _ (.inl (by omega))).mono ?_; rintro e wx ⟨rfl, rfl⟩
  go_wp2_with fail
  rw [rounds_succ]
  go_wp2_with fail
  refine (new_err 65 _ (.inr (by omega))).mono ?_; rintro e wx ⟨rfl, rfl⟩
  go_wp2_with fail
  rw [rounds_succ]
  go_wp2_with fail
  refine (new_at 64 _ (by omega) (by omega)).mono ?_; rintro e w1 ⟨rfl, a1, u1⟩
  have up1 : Upd [] w w1 := ((Upd.refl _ _).alloc _).trans u1
  have hw0 : w.heap.size ≤ w.heap.size + 1 := by omega
  clear u1
  rw [World.size_alloc] at a1 ⊢
  generalize hb : w.heap.size + 1 = b at a1 ⊢
  have HW := Lib.hid (show w.heap.size ≤ b by omega); clear hb hw0
  go_wp2_with fail
  go_loopw [7] (fun x wr => ∃ i : Nat, i ≤ 200 ∧ x = .int .i64 i ∧ QAt wr b ⟨64, []⟩ ∧ Upd [] w wr) (fun x _ => 200 - (intOf x).toNat)
  case atStart => exact ⟨0, by omega, rfl, a1, up1⟩
  case round =>
    clear a1 up1
    obtain ⟨i, hi, rfl, hq, hup⟩ := hrel
    have hw := HW.out
    by_cases hlt : i < 200
    · have e1 : (Qu.mk 64 []).addE i = 0 := by unfold Qu.addE; rw [if_pos (by omega)]; simp
      have e2 : (Qu.mk 64 []).addS i = ⟨64, [(i : Int)]⟩ := by unfold Qu.addS; rw [if_pos ⟨by omega, by omega, by simp, by simp⟩]; rfl
      have E1 := Lib.hid e1; have E2 := Lib.hid e2; clear e1 e2
      go_wp2_with fail
      refine (add_any (i : Int) hq).mono ?_; rw [E1.out, E2.out]; rintro e w2 ⟨rfl, a2, u2⟩
      go_wp2_with fail
      refine (poll_any a2).mono ?_; rw [show (Qu.mk 64 [(i : Int)]).pollX = i from rfl, show (Qu.mk 64 [(i : Int)]).pollB = true from rfl, show (Qu.mk 64 [(i : Int)]).pollS = ⟨64, []⟩ from rfl]; rintro e w3 ⟨rfl, a3, u3⟩
      have up3 := (hup.fresh1 u2 hw).fresh1 u3 hw
      clear a2 u2 u3
      go_wp2_with fail
      go_roundw
      case rel => exact ⟨i + 1, by omega, by go_num, a3, up3⟩
      case measure => simp [intOf]; omega
    · obtain rfl : i = 200 := by omega
      rw [show Value.int .i64 ((200 : Nat) : Int) = .int .i64 200 from rfl]
      obtain ⟨wo, rfl⟩ : ∃ wo : World, wo = wr := ⟨_, rfl⟩
      go_wp2_with fail
      go_loopw [10] (fun x wr => ∃ i : Nat, i ≤ 64 ∧ x = .int .i64 i ∧ QAt wr b ⟨64, down i⟩ ∧ Upd [] w wr) (fun x _ => 64 - (intOf x).toNat)
      case atStart => exact ⟨0, by omega, rfl, hq, hup⟩
      case round =>
        clear hq hup
        obtain ⟨i, hi, rfl, hq, hup⟩ := hrel
        have hw := HW.out
        by_cases hlt : i < 64
        · have e1 : (Qu.mk 64 (down i)).addE (255 - (i : Int)) = 0 := by
            unfold Qu.addE; rw [if_pos (by omega), if_neg (down_new i), if_neg]
            show ¬ (down i).length = 64
            rw [down_len]; omega
          have e2 : (Qu.mk 64 (down i)).addS (255 - (i : Int)) = ⟨64, down (i + 1)⟩ := by
            rw [down_succ]; unfold Qu.addS; rw [if_pos ⟨by omega, by omega, down_new i, by show (down i).length < 64; rw [down_len]; exact hlt⟩]
          have E1 := Lib.hid e1; have E2 := Lib.hid e2; clear e1 e2
          go_wp2_with fail
          refine (add_any (255 - (i : Int)) hq).mono ?_; rw [E1.out, E2.out]; rintro e w2 ⟨rfl, a2, u2⟩
          have up2 := hup.fresh1 u2 hw
          go_wp2_with fail
          go_roundw
          case rel => exact ⟨i + 1, by omega, by go_num, a2, up2⟩
          case measure => simp [intOf]; omega
        · obtain rfl : i = 64 := by omega
          have hqa : QAt wr b ⟨64, LA⟩ := hq
          clear hq
          rw [show Value.int .i64 ((64 : Nat) : Int) = .int .i64 64 from rfl]
          go_wp2_with fail
          refine (add_any 0 hqa).mono ?_; rw [r1, r2]; rintro e w2 ⟨rfl, a2, u2⟩
          go_wp2_with fail
          refine (add_any 255 a2).mono ?_; rw [r3, r4]; rintro e w3 ⟨rfl, a3, u3⟩
          go_wp2_with fail
          refine (add_any 256 a3).mono ?_; rw [r5, r6]; rintro e w4 ⟨rfl, a4, u4⟩
          go_wp2_with fail
          refine (add_any (-1) a4).mono ?_; rw [r7, r8]; rintro e w5 ⟨rfl, a5, u5⟩
          have up5 := (((hup.fresh1 u2 hw).fresh1 u3 hw).fresh1 u4 hw).fresh1 u5 hw
          clear a2 a3 a4 u2 u3 u4 u5
          go_wp2_with fail
          refine (rem_any 256 a5).mono ?_; rw [r9, r10]; rintro e w6 ⟨rfl, a6, u6⟩
          go_wp2_with fail
          refine (rem_any 192 a6).mono ?_; rw [r11, r12]; rintro e w7 ⟨rfl, a7, u7⟩
          go_wp2_with fail
          refine (add_any 0 a7).mono ?_; rw [r13, r14]; rintro e w8 ⟨rfl, a8, u8⟩
          have up8 := ((up5.fresh1 u6 hw).fresh1 u7 hw).fresh1 u8 hw
          clear a5 a6 a7 u6 u7 u8
          go_wp2_with fail
          refine (peek_any 0 a8).mono ?_; rw [r15, r16]; rintro e w9 ⟨rfl, u9⟩
          have a9 := a8.upd u9 (by simp)
          go_wp2_with fail
          refine (peek_any 63 a9).mono ?_; rw [r17, r18]; rintro e w10 ⟨rfl, u10⟩
          have a10 := a9.upd u10 (by simp)
          go_wp2_with fail
          refine (peek_any 64 a10).mono ?_; rw [r19, r20]; rintro e w11 ⟨rfl, u11⟩
          have a11 := a10.upd u11 (by simp)
          go_wp2_with fail
          refine (peek_any (-1) a11).mono ?_; rw [r21, r22]; rintro e w12 ⟨rfl, u12⟩
          have a12 := a11.upd u12 (by simp)
          have up12 := (((up8.trans u9).trans u10).trans u11).trans u12
          clear a8 a9 a10 a11 u9 u10 u11 u12
          go_wp2_with fail
          refine (drain_neg (-1) a12 (by omega)).mono ?_; rintro e w13 ⟨rfl, u13⟩
          have a13 := a12.upd u13 (by simp)
          go_wp2_with fail
          refine (drain_any 0 a13 (by omega)).mono ?_; rintro e w14 ⟨v, rfl, hown, a14, u14⟩
          rw [drk0] at hown a14
          obtain ⟨va, vc, rfl, -, -, -, -⟩ := owns_form hown
          have a14' : QAt w14 b ⟨64, LC⟩ := a14
          have up14 := (up12.trans u13).fresh1 u14 hw
          clear a12 a13 a14 u13 u14 hown
          go_wp2_with fail
          refine (drain_any 4611686018427387904 a14' (by omega)).mono ?_; rintro e w15 ⟨v, rfl, hown, a15, u15⟩
          rw [drk_all] at hown a15
          obtain ⟨va2, vc2, rfl, hc2, -, -, -⟩ := owns_form hown
          have hi2 := Ints.ofOwn (l := LC.take 64) (by rw [show (LC.take 64).length = 64 from by simp [lc_len]]; exact hown)
          obtain ⟨g, off, rfl, hg, _, hcell⟩ := hi2.at (i := 62) (by simp [lc_len])
          rw [show (LC.take 64)[62]'(by simp [lc_len]) = 193 from by
            have := lc62; rw [List.getElem_take]; exact (List.getElem?_eq_some_iff.1 this).2] at hcell
          have a15' : QAt w15 b ⟨64, []⟩ := by
            have e : LC.drop 64 = [] := List.drop_eq_nil_of_le (by rw [lc_len]; omega)
            have a := a15
            rw [e] at a; exact a
          have up15 := up14.fresh1 u15 hw
          clear a15 u15 hown hi2 a14' hqa up14 up12 up8 up5
          go_wp2_with fail
          refine (len_any a15').mono ?_; rintro e w16 ⟨rfl, u16⟩
          go_wp2_with fail
          refine (works_ok _).mono ?_; rintro e w17 ⟨rfl, u17⟩
          go_wp2_with fail
          go_ret
          exact ⟨rfl, (up15.trans u16).trans u17⟩

theorem known_fr (w : World) : Calls Try.prog 6 #[] w fun e w' => e = .returned (.bool true) ∧ Upd [] w w' := known_ok w

end Go.Proofs.Ytjmaibobhjcajaa
