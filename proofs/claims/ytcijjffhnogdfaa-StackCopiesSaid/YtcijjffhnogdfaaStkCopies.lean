/-
  The law StackCopies: what happens to a copy does not change the stack, and the other way round. Conditions: none.
-/
import Derived.Test.YtcijjffhnogdfaaStkMade
namespace Go.Proofs.Ytcijjffhnogdfaa
open Go.RowKit

/-- Three stacks in a row of blocks, one state for the two copies. -/
def ThreeAt (w : World) (B C D : Nat) (s t : St) : Prop := StAt w B s ∧ StAt w C t ∧ StAt w D t

theorem three_upd {w w' : World} {B C D : Nat} {s t t' : St} (h : ThreeAt w B C D s t) (hBC : B ≠ C) (hBD : B ≠ D) (hCD : C ≠ D) {w2 : World}
    (c : StAt w' C t') (u : Upd [C] w w') (d : StAt w2 D t') (u2 : Upd [D] w' w2) : ThreeAt w2 B C D s t' :=
  ⟨(h.1.upd u (by simpa using hBC)).upd u2 (by simpa using hBD), c.upd u2 (by simpa using hCD), d⟩

set_option maxRecDepth 100000 in
set_option maxHeartbeats 2000000 in
theorem copies_ok (sz : Int) (h0 : 0 ≤ sz) (h1 : sz < 256) (v v2 : Value) (us ms : List Int) (w : World) (hv : Bytes .u8 w v us) (hv2 : Bytes .u8 w v2 ms) :
    Calls Try.prog 10 #[.int .u8 sz, v, v2] w fun e w' => e = .returned (.bool true) ∧ Upd [] w w' := by
  have HV := Lib.hid hv
  have HV2 := Lib.hid hv2
  obtain ⟨a, cap, rfl, _, hcm, _⟩ := hv
  obtain ⟨a2, cap2, rfl, _, hcm2, _⟩ := hv2
  have hm : us.length ≤ 9223372036854775807 := by unfold maxLen at hcm; omega
  have hm2 : ms.length ≤ 9223372036854775807 := by unfold maxLen at hcm2; omega
  by_cases hlong : 100 < us.length
  · go_enter Try.func10, Try.ntmps10
    go_wp2_with (go_at_call 11; refine (works_ok _).mono ?_; rintro e w' ⟨rfl, u⟩)
    go_ret
    exact ⟨rfl, u⟩
  by_cases hlong2 : 40 < ms.length
  · go_enter Try.func10, Try.ntmps10
    go_wp2_with (go_at_call 11; refine (works_ok _).mono ?_; rintro e w' ⟨rfl, u⟩)
    go_ret
    exact ⟨rfl, u⟩
  · go_enter Try.func10, Try.ntmps10
    go_wp2_with fail
    refine (made_ok sz h0 h1 _ us _ HV.out).mono ?_
    rintro e w1 ⟨want, rfl, a1, own, u1⟩
    obtain ⟨wa, wc, rfl⟩ := ownsRow_slice own
    generalize runS (1 + sz % 64).toNat us = s at *
    have hl64 : s.l.length ≤ 64 := by have := a1.1; simp only [St.ok] at this; omega
    go_wp2_with fail
    refine (copy_at _ _ _ a1).mono ?_; rintro e w2 ⟨rfl, c2, u2⟩
    go_wp2_with fail
    refine (copy_at _ _ _ (a1.upd u2 (by simp))).mono ?_; rintro e w3 ⟨rfl, d3, u3⟩
    have hBC : w.heap.size ≠ w1.heap.size := Nat.ne_of_lt a1.lt
    have hCD : w1.heap.size ≠ w2.heap.size := Nat.ne_of_lt c2.lt
    have hBD : w.heap.size ≠ w2.heap.size := Nat.ne_of_lt (Nat.lt_of_lt_of_le a1.lt u2.size)
    have t3 : ThreeAt w3 w.heap.size w1.heap.size w2.heap.size s s := ⟨(a1.upd u2 (by simp)).upd u3 (by simp), c2.upd u3 (by simp), d3⟩
    have own3 := owns_upd (owns_upd own u2 (by simp)) u3 (by simp)
    have hBC' : w.heap.size ≤ w1.heap.size := u1.size
    have hBD' : w.heap.size ≤ w2.heap.size := Nat.le_trans u1.size u2.size
    have u13 := u1.trans (u2.trans u3)
    generalize hB : w.heap.size = B at t3 own3 hBC hBD hBC' hBD' ⊢
    generalize w1.heap.size = C at t3 hBC hCD hBC' ⊢
    generalize w2.heap.size = D at t3 hBD hCD hBD' ⊢
    have HB := Lib.hid hB; clear hB
    have HBC := Lib.hid hBC; clear hBC
    have HCD := Lib.hid hCD; clear hCD
    have HBD := Lib.hid hBD; clear hBD
    clear a1 own c2 d3 u2 u3 u1
    go_wp2_with fail
    go_loopw [12] (fun i wr => ∃ (k : Nat) (t : St), k ≤ ms.length ∧ i = .int .i64 k ∧ ThreeAt wr B C D s t ∧ wr.ownsRow B 3 1 (.slice wa s.l.length wc) s.l.length (s.l.map (Value.int .i64)) ∧ Upd [] w wr) (fun i _ => ms.length - (intOf i).toNat)
    case atStart => exact ⟨0, s, by omega, rfl, t3, own3, u13⟩
    case round =>
      obtain ⟨k, t, hk, rfl, ht, hown, hup⟩ := hrel
      have hneC := ht.2.1.ne hown
      have hneD := ht.2.2.ne hown
      by_cases hlt : k < ms.length
      · obtain ⟨ab, off, rfl, hab, hcell, hwf⟩ := (HV2.out.upd hup (by simp)).at hlt
        obtain ⟨hu0, hu1⟩ := wf_u8 hwf
        have habw : ab < w.heap.size := by
          obtain ⟨_, _, he, _, _, _, _, hh⟩ := HV2.out
          simp at he
          rcases hh with hh | ⟨b', off', hh, hb', _⟩
          · rw [hh] at hlt; simp at hlt
          · rw [← he.1] at hh; simp at hh; omega
        have hneA : ab ≠ C := by have := HB.out; omega
        have hneA2 : ab ≠ D := by have := HB.out; omega
        clear hwf
        generalize ms[k] = u at *
        have hst2 := ht.2.1
        have hst3 := ht.2.2
        have hl64' : t.l.length ≤ t.size := by have h := hst2.1; simp only [St.ok] at h; omega
        by_cases hu : u < 200
        · by_cases hf : t.l.length = t.size
          · have HF := Lib.hid hf; clear hf
            go_wp2_with fail
            refine (push_full C t u _ hst2 (by omega) (by omega) HF.out).mono ?_; rintro e w4 ⟨rfl, c4, u4⟩
            have hcell2 : w4.cell? ⟨ab, off + k, none⟩ = some (.int .u8 u) := by rw [u4.cell (by exact hab) (by simpa using hneA)]; exact hcell
            go_wp2_with fail
            refine (push_full D t u _ (hst3.upd u4 (by have := HCD.out; simp; omega)) (by omega) (by omega) HF.out).mono ?_; rintro e w5 ⟨rfl, d5, u5⟩
            go_wp2_with fail
            go_roundw
            case rel =>
              refine ⟨k + 1, _, by omega, by go_num, three_upd ht HBC.out HBD.out HCD.out c4 u4 d5 u5, ?_, ?_⟩
              · exact owns_upd (owns_upd hown u4 (fun k hk hm => by simp at hm; subst hm; exact hneC hk)) u5 (fun k hk hm => by simp at hm; subst hm; exact hneD hk)
              · exact (hup.fresh1 u4 (by have := HB.out; omega)).fresh1 u5 (by have := HB.out; omega)
            case measure => simp [intOf]; omega
          · have hr : t.l.length < t.size := by omega
            go_wp2_with fail
            refine (push_room C t u _ hst2 (by omega) (by omega) hr).mono ?_; rintro e w4 ⟨rfl, c4, u4⟩
            have hcell2 : w4.cell? ⟨ab, off + k, none⟩ = some (.int .u8 u) := by rw [u4.cell (by exact hab) (by simpa using hneA)]; exact hcell
            go_wp2_with fail
            refine (push_room D t u _ (hst3.upd u4 (by have := HCD.out; simp; omega)) (by omega) (by omega) hr).mono ?_; rintro e w5 ⟨rfl, d5, u5⟩
            go_wp2_with fail
            go_roundw
            case rel =>
              refine ⟨k + 1, _, by omega, by go_num, three_upd ht HBC.out HBD.out HCD.out c4 u4 d5 u5, ?_, ?_⟩
              · exact owns_upd (owns_upd hown u4 (fun k hk hm => by simp at hm; subst hm; exact hneC hk)) u5 (fun k hk hm => by simp at hm; subst hm; exact hneD hk)
              · exact (hup.fresh1 u4 (by have := HB.out; omega)).fresh1 u5 (by have := HB.out; omega)
            case measure => simp [intOf]; omega
        · rcases List.eq_nil_or_concat t.l with hl | ⟨l, x, hl⟩
          · have HL := Lib.hid hl; clear hl
            go_wp2_with fail
            refine (pop_empty C t _ hst2 HL.out).mono ?_; rintro e w4 ⟨rfl, rfl⟩
            go_wp2_with fail
            refine (pop_empty D t _ hst3 HL.out).mono ?_; rintro e w5 ⟨rfl, rfl⟩
            go_wp2_with fail
            go_roundw
            case rel => exact ⟨k + 1, t, by omega, by go_num, ht, hown, hup⟩
            case measure => simp [intOf]; omega
          · rw [List.concat_eq_append] at hl
            have HL := Lib.hid hl; clear hl
            go_wp2_with fail
            refine (pop_some C t l x _ hst2 HL.out).mono ?_; rintro e w4 ⟨rfl, c4, u4⟩
            go_wp2_with fail
            refine (pop_some D t l x _ (hst3.upd u4 (by have := HCD.out; simp; omega)) HL.out).mono ?_; rintro e w5 ⟨rfl, d5, u5⟩
            go_wp2_with fail
            go_roundw
            case rel =>
              refine ⟨k + 1, _, by omega, by go_num, three_upd ht HBC.out HBD.out HCD.out c4 u4 d5 u5, ?_, ?_⟩
              · exact owns_upd (owns_upd hown u4 (fun k hk hm => by simp at hm; subst hm; exact hneC hk)) u5 (fun k hk hm => by simp at hm; subst hm; exact hneD hk)
              · exact (hup.fresh1 u4 (by have := HB.out; omega)).fresh1 u5 (by have := HB.out; omega)
            case measure => simp [intOf]; omega
      · go_wp2_with fail
        refine (clear_at C _ _ ht.2.1).mono ?_; rintro e w4 ⟨rfl, _, u4⟩
        have a4 := ht.1.upd u4 (by have := HBC.out; simp; omega)
        have own4 := owns_upd hown u4 (fun k hk hm => by simp at hm; subst hm; exact hneC hk)
        have up4 := hup.fresh1 u4 (by have := HB.out; omega)
        clear u4 ht hown hup
        go_wp2_with (first | (go_at_call 13; refine (over_at B _ _ a4).mono ?_; rintro e w2 ⟨rfl, rfl⟩) | (go_at_call 14; refine (len_at B _ _ a4).mono ?_; rintro e w2 ⟨rfl, rfl⟩))
        go_loopw [21] (fun i wr => ∃ j : Nat, j ≤ s.l.length ∧ i = .int .i64 ((j : Int) - 1) ∧ StAt wr B { s with l := s.l.take j } ∧ wr.ownsRow B 3 1 (.slice wa s.l.length wc) s.l.length (s.l.map (Value.int .i64)) ∧ Upd [] w wr) (fun i _ => (intOf i + 1).toNat)
        case atStart =>
          exact ⟨s.l.length, Nat.le_refl _, rfl, by rw [List.take_length]; exact a4, own4, up4⟩
        case round =>
          obtain ⟨j, hj, rfl, hst, hown, hup⟩ := hrel
          by_cases hj0 : j = 0
          · subst hj0
            rw [List.take_zero] at hst
            go_wp2_with (first | (go_at_call 11; refine (works_ok _).mono ?_; rintro e w' ⟨rfl, u⟩))
            go_ret
            exact ⟨rfl, hup.trans u⟩
          · obtain ⟨i, rfl⟩ : ∃ i, j = i + 1 := ⟨j - 1, by omega⟩
            have hi : i < s.l.length := by omega
            have htk : s.l.take (i + 1) = s.l.take i ++ [s.l[i]] := List.take_succ_eq_append_getElem hi
            have hcell : ∃ g, wa = some ⟨g, 0, none⟩ ∧ s.l.length ≤ wc ∧ g ≠ B ∧ g < wr.heap.size ∧ wr.cell? ⟨g, i, none⟩ = some (.int .i64 s.l[i]) := by
              rcases hown.2 with ⟨_, h⟩ | ⟨g, c, _, h, hBg, hg, hc, _⟩
              · omega
              · simp at h
                obtain ⟨rfl, rfl⟩ := h
                refine ⟨g, rfl, hc, fun e => hst.ne hown (by simp [Value.ownBlock, e]), lt_of_block hg, ?_⟩
                rw [hown.cellAt i (by omega)]; simp [hi]
            obtain ⟨g, rfl, hwc, hgB, hgs, hcell⟩ := hcell
            rw [show (((i + 1 : Nat) : Int) - 1) = (i : Int) from by omega]
            generalize s.l[i] = x at *
            have HT := Lib.hid htk; clear htk
            have hne := hst.ne hown
            go_wp2_with fail
            refine (pop_some B _ (s.l.take i) x _ hst HT.out).mono ?_; rintro e w2 ⟨rfl, a2, u2⟩
            have hcell2 : w2.cell? ⟨g, i, none⟩ = some (.int .i64 x) := by
              rw [u2.cell (by exact hgs) (by simpa using hgB)]; exact hcell
            have hown2 := owns_upd hown u2 (fun k hk hm => by simp at hm; subst hm; exact hne hk)
            go_wp2_with fail
            go_roundw
            case rel => exact ⟨i, by omega, rfl, a2, hown2, hup.fresh1 u2 (Nat.le_of_eq HB.out)⟩
            case measure => simp [intOf]

theorem copies_fr (w : World) (sz : Int) (h : (Lit.int .u8 sz).wf = true) (v : Value) (us : List Int) (hv : Bytes .u8 w v us) (v2 : Value) (ms : List Int) (hv2 : Bytes .u8 w v2 ms) :
    Calls Try.prog 10 #[.int .u8 sz, v, v2] w fun e w' => e = .returned (.bool true) ∧ Upd [] w w' :=
  copies_ok sz (wf_u8 h).1 (wf_u8 h).2 v v2 us ms w hv hv2

end Go.Proofs.Ytcijjffhnogdfaa
