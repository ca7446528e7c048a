/-
  The law StackRefuses: a slot beyond is refused, and changes nothing. Conditions: none.
-/
import Derived.Test.YtcijjffhnogdfaaStkMade
namespace Go.Proofs.Ytcijjffhnogdfaa
open Go.RowKit

set_option maxHeartbeats 1000000 in
theorem refuses_ok (sz : Int) (h0 : 0 ≤ sz) (h1 : sz < 256) (v : Value) (us : List Int) (slot : Int) (w : World) (hv : Bytes .u8 w v us) :
    Calls Try.prog 6 #[.int .u8 sz, v, .int .i64 slot] w fun e w' => e = .returned (.bool true) ∧ Upd [] w w' := by
  have HV := Lib.hid hv
  obtain ⟨a, cap, rfl, _, hcm, _⟩ := hv
  have hm : us.length ≤ 9223372036854775807 := by unfold maxLen at hcm; omega
  by_cases hlong : 150 < us.length
  · go_enter Try.func6, Try.ntmps6
    go_wp2_with (go_at_call 11; refine (works_ok _).mono ?_; rintro e w' ⟨rfl, u⟩)
    go_ret
    exact ⟨rfl, u⟩
  · go_enter Try.func6, Try.ntmps6
    go_wp2_with fail
    refine (made_ok sz h0 h1 _ us _ HV.out).mono ?_
    rintro e w1 ⟨want, rfl, a1, own, u1⟩
    obtain ⟨wa, wc, rfl⟩ := ownsRow_slice own
    have hsz := runS_size (1 + sz % 64).toNat us
    generalize runS (1 + sz % 64).toNat us = s at *
    have HSZ := Lib.hid hsz; clear hsz
    generalize hB : w.heap.size = B at a1 own ⊢
    have HB := Lib.hid hB; clear hB
    have hl64 : s.l.length ≤ 64 := by have := a1.1; simp only [St.ok] at this; omega
    go_wp2_with fail
    refine (most_at B _ _ a1).mono ?_; rintro e w2 ⟨rfl, rfl⟩
    by_cases hb : slot < 0 ∨ 256 ≤ slot
    · go_wp2_with fail
      refine (push_beyond B _ slot _ a1 hb).mono ?_; rintro e w2 ⟨rfl, rfl⟩
      rcases hb with hb | hb
      · have hd : decide (slot < 0) = true := by simpa using hb
        go_wp2_with (first | (go_at_call 13; refine (over_at B _ _ a1).mono ?_; rintro e w2 ⟨rfl, rfl⟩) | (go_at_call 14; refine (len_at B _ _ a1).mono ?_; rintro e w2 ⟨rfl, rfl⟩) | (go_at_call 16; refine (most_at B _ _ a1).mono ?_; rintro e w2 ⟨rfl, rfl⟩) | (go_at_call 11; refine (works_ok _).mono ?_; rintro e w' ⟨rfl, u⟩))
        go_ret
        exact ⟨rfl, u1.trans u⟩
      · have hd : ¬ slot < 0 := by omega
        go_wp2_with (first | (go_at_call 13; refine (over_at B _ _ a1).mono ?_; rintro e w2 ⟨rfl, rfl⟩) | (go_at_call 14; refine (len_at B _ _ a1).mono ?_; rintro e w2 ⟨rfl, rfl⟩) | (go_at_call 16; refine (most_at B _ _ a1).mono ?_; rintro e w2 ⟨rfl, rfl⟩) | (go_at_call 11; refine (works_ok _).mono ?_; rintro e w' ⟨rfl, u⟩))
        go_ret
        exact ⟨rfl, u1.trans u⟩
    · have hb0 : 0 ≤ slot := by omega
      have hb1 : slot < 256 := by omega
      clear hb
      by_cases hf : s.l.length = s.size
      · have hd : decide ((s.l.length : Int) < 1 + sz % 64) = false := by have := HSZ.out; simp; omega
        have HF := Lib.hid hf; clear hf
        go_wp2_with fail
        refine (push_full B _ slot _ a1 hb0 hb1 HF.out).mono ?_; rintro e w2 ⟨rfl, a2, u2⟩
        go_wp2_with (first | (go_at_call 11; refine (works_ok _).mono ?_; rintro e w' ⟨rfl, u⟩))
        go_ret
        exact ⟨rfl, (u1.fresh1 u2 (Nat.le_of_eq HB.out)).trans u⟩
      · have hr : s.l.length < s.size := by have := a1.1; simp only [St.ok] at this; omega
        have hd : decide ((s.l.length : Int) < 1 + sz % 64) = true := by have := HSZ.out; simp; omega
        clear hf
        go_wp2_with fail
        refine (push_room B _ slot _ a1 hb0 hb1 hr).mono ?_; rintro e w2 ⟨rfl, a2, u2⟩
        go_wp2_with (first | (go_at_call 11; refine (works_ok _).mono ?_; rintro e w' ⟨rfl, u⟩))
        go_ret
        exact ⟨rfl, (u1.fresh1 u2 (Nat.le_of_eq HB.out)).trans u⟩

theorem refuses_fr (w : World) (sz : Int) (h : (Lit.int .u8 sz).wf = true) (v : Value) (us : List Int) (hv : Bytes .u8 w v us) (slot : Int) (_ : (Lit.int .i64 slot).wf = true) :
    Calls Try.prog 6 #[.int .u8 sz, v, .int .i64 slot] w fun e w' => e = .returned (.bool true) ∧ Upd [] w w' :=
  refuses_ok sz (wf_u8 h).1 (wf_u8 h).2 v us slot w hv

end Go.Proofs.Ytcijjffhnogdfaa
