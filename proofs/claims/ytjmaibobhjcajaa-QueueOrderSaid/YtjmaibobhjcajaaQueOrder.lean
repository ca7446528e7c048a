/-
  QueueOrder: a queue holds what was added and neither polled nor removed, in this order, and gives it back so. Conditions: none.
-/
import Derived.Test.YtjmaibobhjcajaaQueMade
namespace Go.Proofs.Ytjmaibobhjcajaa
open Go.RowKit

theorem peekX_nat {q : Qu} {i : Nat} (h : i < q.l.length) : q.peekX i = q.l[i] := by
  unfold Qu.peekX; rw [if_pos (by omega), Int.toNat_natCast, List.getD_eq_getElem?_getD, List.getElem?_eq_getElem h]; rfl
theorem peekE_nat {q : Qu} {i : Nat} (h : i < q.l.length) : q.peekE i = 0 := by
  unfold Qu.peekE; rw [if_pos (by omega)]
theorem addE_have {q : Qu} (hok : q.ok) {x : Int} (h : x ∈ q.l) : q.addE x = 6 := by
  unfold Qu.addE; rw [if_pos (hok.2.2.2 x h), if_pos h]

set_option maxRecDepth 100000 in
set_option maxHeartbeats 4000000 in
theorem order_ok (sz : Int) (h0 : 0 ≤ sz) (h1 : sz < 256) (v : Value) (css : List (List Value)) (w : World) (hv : Recs w v 2 css) (hF : ∀ cs ∈ css, IsTurn cs) :
    Calls Try.prog 3 #[.int .u8 sz, v] w fun e w' => e = .returned (.bool true) ∧ Upd [] w w' := by
  have HM := Lib.hid (fun w' (h : Recs w' v 2 css) => made_ok sz h0 h1 v css w' h hF)
  have HV := Lib.hid hv
  obtain ⟨a, cap, rfl, hcc, hcm, -⟩ := hv
  have hm : cap ≤ 9223372036854775807 := by unfold maxLen at hcm; omega
  by_cases hlong : 200 < css.length
  · go_enter Try.func3, Try.ntmps3
    go_wp2_with fail
    refine (works_ok _).mono ?_; rintro e w1 ⟨rfl, u1⟩
    go_wp2_with fail
    go_ret
    exact ⟨rfl, u1⟩
  · go_enter Try.func3, Try.ntmps3
    go_wp2_with fail
    refine (HM.out _ HV.out).mono ?_; rintro e w1 ⟨want, rfl, a1, hown, u1⟩
    have hnd := runQ_nodup (1 + sz % 64).toNat css
    have hint := Ints.ofOwn hown
    have hok := a1.ok
    generalize runQ (1 + sz % 64).toNat css = q at *
    generalize hb : w.heap.size = b at a1 ⊢
    have HW := Lib.hid (Nat.le_of_eq hb); clear hb
    have HND := Lib.hid hnd; clear hnd hown
    have hl64 : q.l.length ≤ 64 := by have := hok.2.1; have := hok.2.2.1; omega
    have HOK := Lib.hid hok; clear hok
    obtain ⟨wa, wc, rfl, hwc, hwm⟩ := hint.form
    go_wp2_with fail
    refine (all_any a1).mono ?_; rintro e w2 ⟨va, rfl, hfr, u2⟩
    have hint2 := hint.upd0 u2
    have a2 := a1.upd u2 (by simp)
    have up2 := u1.trans u2
    clear a1 hint u1 u2
    go_wp2_with fail
    refine (same_ok va _ q.l _ hfr.1 hint2).mono ?_; rintro e w3 ⟨rfl, u3⟩
    have hint3 := hint2.upd0 u3
    have a3 := a2.upd u3 (by simp)
    have up3 := up2.trans u3
    clear a2 hint2 up2 u3 hfr
    go_wp2_with fail
    go_loopw [7] (fun x wr => ∃ i : Nat, i ≤ q.l.length ∧ x = .int .i64 i ∧ QAt wr b q ∧ Ints wr (.slice wa q.l.length wc) q.l ∧ Upd [] w wr) (fun x _ => q.l.length - (intOf x).toNat)
    case atStart => exact ⟨0, by omega, rfl, a3, hint3, up3⟩
    case round =>
      clear a3 hint3 up3
      obtain ⟨i, hi, rfl, hq, hint, hup⟩ := hrel
      by_cases hlt : i < q.l.length
      · obtain ⟨g, off, rfl, hg, _, hc⟩ := hint.at hlt
        have HP1 := Lib.hid (peekX_nat hlt); have HP2 := Lib.hid (peekE_nat hlt)
        have HA := Lib.hid (addE_have HOK.out (List.getElem_mem hlt))
        have HAS := Lib.hid (addS_same (q := q) (id := q.l[i]) (.inl (List.getElem_mem hlt)))
        have HNE := Lib.hid (fun k (hk : k < i) => show q.l[k]'(by omega) ≠ q.l[i] from fun e => by
          have := (List.getElem_inj (h₀ := by omega) (h₁ := hlt) HND.out).1 e; omega)
        generalize hx : q.l[i] = x at *
        clear hx
        go_wp2_with fail
        refine (peek_any (i : Int) hq).mono ?_; rw [HP1.out, HP2.out]; rintro e w4 ⟨rfl, u4⟩
        have a4 := hq.upd u4 (by simp)
        have hint4 := hint.upd0 u4
        have hc4 : w4.cell? ⟨g, off + i, none⟩ = some (.int .i64 x) := (u4.cell (p := ⟨g, off + i, none⟩) hg (by simp)).trans hc
        have hg4 : g < w4.heap.size := Nat.lt_of_lt_of_le hg u4.size
        have up4 := hup.trans u4
        clear hq hint hc u4 hup hg
        go_wp2_with fail
        refine (add_any x a4).mono ?_; rw [HA.out, HAS.out]; rintro e w5 ⟨rfl, a5, u5⟩
        have hint5 := hint4.q a4 u5
        have up5 := up4.fresh1 u5 HW.out
        clear a4 hint4 up4 u5 hc4 hg4
        go_wp2_with fail
        go_loop [10] (fun y => ∃ k : Nat, k ≤ i ∧ y = .int .i64 k) (fun y => i - (intOf y).toNat)
        case atStart => exact ⟨0, by omega, rfl⟩
        case round =>
          obtain ⟨k, hk, rfl⟩ := hrel
          by_cases hltk : k < i
          · obtain ⟨g', off', he, hg', _, hc'⟩ := hint5.at (show k < q.l.length by omega)
            simp at he
            obtain ⟨rfl, rfl⟩ := he
            have hb1 : (q.l[k]'(by omega) == x) = false := by simpa using HNE.out k hltk
            generalize q.l[k]'(by omega) = y at *
            go_wp2_with fail
            go_round
            case rel => exact ⟨k + 1, by omega, by go_num⟩
            case measure => simp [intOf]; omega
          · go_wp2_with fail
            go_roundw
            case rel => exact ⟨i + 1, by omega, by go_num, a5, hint5, up5⟩
            case measure => simp [intOf]; omega
      · obtain ⟨wo, rfl⟩ : ∃ wo : World, wo = wr := ⟨_, rfl⟩
        go_wp2_with fail
        go_loopw [11] (fun x wr => ∃ i : Nat, i ≤ q.l.length ∧ x = .int .i64 i ∧ QAt wr b ⟨q.size, q.l.drop i⟩ ∧ Ints wr (.slice wa q.l.length wc) q.l ∧ Upd [] w wr) (fun x _ => q.l.length - (intOf x).toNat)
        case atStart => exact ⟨0, by omega, rfl, hq, hint, hup⟩
        case round =>
          clear hq hint hup
          obtain ⟨i, hi, rfl, hq, hint, hup⟩ := hrel
          by_cases hlt : i < q.l.length
          · have hd : q.l.drop i = q.l[i] :: q.l.drop (i + 1) := List.drop_eq_getElem_cons hlt
            have hP := poll_any' hq hd
            have hlen : ((Qu.mk q.size (q.l.drop (i + 1))).l.length : Int) = (q.l.length : Int) - (i : Int) - 1 := by
              show ((q.l.drop (i + 1)).length : Int) = _
              rw [List.length_drop]; omega
            have HLEN := Lib.hid hlen; clear hd hlen
            have hi5 := fun (w5 : World) (u5 : Upd [b] wr w5) => hint.q hq u5
            have HI5 := Lib.hid hi5; clear hi5
            generalize hx : q.l[i] = x at *
            have HX := Lib.hid hx; clear hx
            go_wp2_with fail
            refine hP.mono ?_; clear hP; rintro e w4 ⟨rfl, a4, u4⟩
            have hint4 := HI5.out _ u4
            have up4 := hup.fresh1 u4 HW.out
            obtain ⟨g, off, rfl, hg, _, hc⟩ := hint4.at hlt
            rw [HX.out] at hc
            clear hq hint hup u4 HI5
            go_wp2_with fail
            refine (len_any a4).mono ?_; rw [HLEN.out]; rintro e w5 ⟨rfl, u5⟩
            have a5 := a4.upd u5 (by simp)
            have hint5 := hint4.upd0 u5
            have up5 := up4.trans u5
            clear a4 hint4 up4 u5
            go_wp2_with fail
            go_roundw
            case rel => exact ⟨i + 1, by omega, by go_num, a5, hint5, up5⟩
            case measure => simp [intOf]; omega
          · obtain rfl : i = q.l.length := by omega
            have hnil : QAt wr b ⟨q.size, []⟩ := by have := hq; rw [List.drop_length] at this; exact this
            clear hq hint
            go_wp2_with fail
            refine (poll_any hnil).mono ?_; rw [show (Qu.mk q.size []).pollX = 0 from rfl, show (Qu.mk q.size []).pollB = false from rfl]; rintro e w4 ⟨rfl, a4, u4⟩
            have up4 := hup.fresh1 u4 HW.out
            go_wp2_with fail
            refine (works_ok _).mono ?_; rintro e w5 ⟨rfl, u5⟩
            go_wp2_with fail
            go_ret
            exact ⟨rfl, up4.trans u5⟩

theorem order_fr (w : World) (sz : Int) (h : (Lit.int .u8 sz).wf = true) (v : Value) (css : List (List Value)) (hv : Recs w v 2 css ∧ ∀ cs ∈ css, IsTurn cs) :
    Calls Try.prog 3 #[.int .u8 sz, v] w fun e w' => e = .returned (.bool true) ∧ Upd [] w w' :=
  order_ok sz (wf_u8 h).1 (wf_u8 h).2 v css w hv.1 hv.2

end Go.Proofs.Ytjmaibobhjcajaa
