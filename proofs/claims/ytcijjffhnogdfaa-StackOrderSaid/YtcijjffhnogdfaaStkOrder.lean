/-
  The law StackOrder: what was added and fitted comes back in the opposite order. Conditions: none.
-/
import Derived.Test.YtcijjffhnogdfaaStkMade
namespace Go.Proofs.Ytcijjffhnogdfaa
open Go.RowKit

set_option maxHeartbeats 1000000 in
theorem order_ok (sz : Int) (h0 : 0 ≤ sz) (h1 : sz < 256) (v : Value) (us : List Int) (w : World) (hv : Bytes .u8 w v us) :
    Calls Try.prog 3 #[.int .u8 sz, v] w fun e w' => e = .returned (.bool true) ∧ Upd [] w w' := by
  have HV := Lib.hid hv
  obtain ⟨a, cap, rfl, _, hcm, _⟩ := hv
  have hm : us.length ≤ 9223372036854775807 := by unfold maxLen at hcm; omega
  by_cases hlong : 200 < us.length
  · go_enter Try.func3, Try.ntmps3
    go_wp2_with (go_at_call 11; refine (works_ok _).mono ?_; rintro e w' ⟨rfl, u⟩)
    go_ret
    exact ⟨rfl, u⟩
  · go_enter Try.func3, Try.ntmps3
    go_wp2_with fail
    refine (made_ok sz h0 h1 _ us _ HV.out).mono ?_
    rintro e w1 ⟨want, rfl, a1, own, u1⟩
    obtain ⟨wa, wc, rfl⟩ := ownsRow_slice own
    generalize hs : runS (1 + sz % 64).toNat us = s at *
    have HS := Lib.hid hs; clear hs
    generalize hB : w.heap.size = B at a1 own ⊢
    have HB := Lib.hid hB; clear hB
    have hl64 : s.l.length ≤ 64 := by have := a1.1; simp only [St.ok] at this; omega
    go_wp2_with (first | (go_at_call 13; refine (over_at B _ _ a1).mono ?_; rintro e w2 ⟨rfl, rfl⟩) | (go_at_call 14; refine (len_at B _ _ a1).mono ?_; rintro e w2 ⟨rfl, rfl⟩))
    go_loopw [8] (fun i wr => ∃ j : Nat, j ≤ s.l.length ∧ i = .int .i64 ((j : Int) - 1) ∧ StAt wr B { s with l := s.l.take j } ∧ wr.ownsRow B 3 1 (.slice wa s.l.length wc) s.l.length (s.l.map (Value.int .i64)) ∧ Upd [] w wr) (fun i _ => (intOf i + 1).toNat)
    case atStart =>
      exact ⟨s.l.length, Nat.le_refl _, rfl, by rw [List.take_length]; exact a1, own, u1⟩
    case round =>
      obtain ⟨j, hj, rfl, hst, hown, hup⟩ := hrel
      by_cases hj0 : j = 0
      · subst hj0
        rw [List.take_zero] at hst
        go_wp2_with (first | (go_at_call 15; refine (pop_empty B _ _ hst rfl).mono ?_; rintro e w2 ⟨rfl, rfl⟩) | (go_at_call 11; refine (works_ok _).mono ?_; rintro e w' ⟨rfl, u⟩))
        go_ret
        exact ⟨rfl, hup.trans u⟩
      · obtain ⟨i, rfl⟩ : ∃ i, j = i + 1 := ⟨j - 1, by omega⟩
        have hi : i < s.l.length := by omega
        have htk : s.l.take (i + 1) = s.l.take i ++ [s.l[i]] := List.take_succ_eq_append_getElem hi
        have hcell : ∃ g, wa = some ⟨g, 0, none⟩ ∧ s.l.length ≤ wc ∧ B ≤ g ∧ g ≠ B ∧ g < wr.heap.size ∧ wr.cell? ⟨g, i, none⟩ = some (.int .i64 s.l[i]) := by
          rcases hown.2 with ⟨_, h⟩ | ⟨g, c, _, h, hBg, hg, hc, _⟩
          · omega
          · simp at h
            obtain ⟨rfl, rfl⟩ := h
            refine ⟨g, rfl, hc, hBg, fun e => hst.ne hown (by simp [Value.ownBlock, e]), lt_of_block hg, ?_⟩
            rw [hown.cellAt i (by omega)]; simp [hi]
        obtain ⟨g, rfl, hwc, hBg, hgB, hgs, hcell⟩ := hcell
        rw [show (((i + 1 : Nat) : Int) - 1) = (i : Int) from by omega]
        generalize s.l[i] = x at *
        have HT := Lib.hid htk; clear htk
        have hne := hst.ne hown
        have hlen2 : (s.l.take i).length = i := by simp; omega
        have HL2 := Lib.hid hlen2; clear hlen2
        go_wp2_with fail
        refine (pop_some B _ (s.l.take i) x _ hst HT.out).mono ?_; rintro e w2 ⟨rfl, a2, u2⟩
        have hcell2 : w2.cell? ⟨g, i, none⟩ = some (.int .i64 x) := by
          rw [u2.cell (by exact hgs) (by simpa using hgB)]; exact hcell
        have hown2 := owns_upd hown u2 (fun k hk hm => by simp at hm; subst hm; exact hne hk)
        go_wp2_with (first | (go_at_call 13; refine (over_at B _ _ a2).mono ?_; rintro e w2 ⟨rfl, rfl⟩) | (go_at_call 14; refine (len_at B _ _ a2).mono ?_; rintro e w2 ⟨rfl, rfl⟩))
        go_roundw
        case rel => exact ⟨i, by omega, rfl, a2, hown2, hup.fresh1 u2 (Nat.le_of_eq HB.out)⟩
        case measure => simp [intOf]

theorem order_fr (w : World) (sz : Int) (h : (Lit.int .u8 sz).wf = true) (v : Value) (us : List Int) (hv : Bytes .u8 w v us) :
    Calls Try.prog 3 #[.int .u8 sz, v] w fun e w' => e = .returned (.bool true) ∧ Upd [] w w' :=
  order_ok sz (wf_u8 h).1 (wf_u8 h).2 v us w hv

end Go.Proofs.Ytcijjffhnogdfaa
