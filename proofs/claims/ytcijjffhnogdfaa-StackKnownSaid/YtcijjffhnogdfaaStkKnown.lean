/-
  The law StackKnown: the limits, and errors in their order. Conditions: none.
-/
import Derived.Test.YtcijjffhnogdfaaStkWorks
namespace Go.Proofs.Ytcijjffhnogdfaa
open Go.RowKit

/-- 255, 254, .. : k of them. -/
def dn (k : Nat) : List Int := (List.range k).map (fun i : Nat => (255 : Int) - (i : Int))
theorem dn_len (k : Nat) : (dn k).length = k := by simp [dn]
theorem dn_succ (k : Nat) : dn (k + 1) = dn k ++ [(255 : Int) - k] := by simp [dn, List.range_succ]

set_option maxHeartbeats 1000000 in
theorem known_fr (w : World) : Calls Try.prog 7 #[] w fun e w' => e = .returned (.bool true) ∧ Upd [] w w' := by
  go_enter Try.func7, Try.ntmps7
  go_wp2_with fail
  refine wp_loop_rounds 4 ?_
  rw [rounds_succ]
  go_wp2_with (go_at_call 18; refine (new_err _ _ (by omega)).mono ?_; rintro e w2 ⟨rfl, rfl⟩)
  rw [rounds_succ]
  go_wp2_with (go_at_call 18; refine (new_err _ _ (by omega)).mono ?_; rintro e w2 ⟨rfl, rfl⟩)
  rw [rounds_succ]
  go_wp2_with (go_at_call 18; refine (new_err _ _ (by omega)).mono ?_; rintro e w2 ⟨rfl, rfl⟩)
  rw [rounds_succ]
  go_wp2_with fail
  have ub : Upd [] w (w.alloc (Obj.cells #[Value.int .i64 0, Value.int .i64 (-1), Value.int .i64 65] 3)) := (Upd.refl _ _).alloc _
  generalize hW : w.alloc (Obj.cells #[Value.int .i64 0, Value.int .i64 (-1), Value.int .i64 65] 3) = W at *
  clear hW
  refine (new_lit 64 _ (by omega) (by omega)).mono ?_; rintro e w1 ⟨rfl, a1, u1⟩
  replace a1 : StAt w1 W.heap.size { size := 64, l := dn 0, over := false, most := 0 } := a1
  generalize hB : W.heap.size = B at a1 ⊢
  have HB := Lib.hid hB; clear hB
  go_wp2_with fail
  go_loopw [7] (fun i wr => ∃ k : Nat, k ≤ 64 ∧ i = .int .i64 k ∧ StAt wr B { size := 64, l := dn k, over := false, most := k } ∧ Upd [] W wr) (fun i _ => 64 - (intOf i).toNat)
  case atStart => exact ⟨0, by omega, rfl, a1, u1⟩
  case round =>
    obtain ⟨k, hk, rfl, hst, hup⟩ := hrel
    by_cases hlt : k < 64
    · go_wp2_with (go_at_call 17; refine (push_room B _ (255 - (k : Int)) _ hst (by omega) (by omega) (by rw [dn_len]; exact hlt)).mono ?_; rintro e w2 ⟨rfl, a2, u2⟩)
      go_roundw
      case rel =>
        refine ⟨k + 1, by omega, by go_num, ?_, hup.fresh1 u2 (Nat.le_of_eq HB.out)⟩
        simp only [← dn_succ, dn_len] at a2
        rw [show max k (k + 1) = k + 1 from by omega] at a2
        exact a2
      case measure => simp [intOf]; omega
    · obtain rfl : k = 64 := by omega
      have hl : (dn 64).length = 64 := dn_len 64
      go_wp2_with fail
      refine (push_beyond B _ 256 _ hst (by omega)).mono ?_; rintro e w2 ⟨rfl, rfl⟩
      go_wp2_with (go_at_call 13; refine (over_at B _ _ hst).mono ?_; rintro e w2 ⟨rfl, rfl⟩)
      refine (push_full B _ 0 _ hst (by omega) (by omega) (dn_len 64)).mono ?_; rintro e w2 ⟨rfl, a2, u2⟩
      go_wp2_with fail
      refine (over_at B _ _ a2).mono ?_; rintro e w3 ⟨rfl, rfl⟩
      go_wp2_with fail
      refine (most_at B _ _ a2).mono ?_; rintro e w3 ⟨rfl, rfl⟩
      go_wp2_with fail
      refine (settle_at B _ _ a2).mono ?_; rintro e w3 ⟨rfl, a3, u3⟩
      go_wp2_with fail
      refine (pop_some B _ (dn 63) 192 _ a3 (dn_succ 63)).mono ?_; rintro e w4 ⟨rfl, a4, u4⟩
      go_wp2_with fail
      refine (over_at B _ _ a4).mono ?_; rintro e w5 ⟨rfl, rfl⟩
      go_wp2_with fail
      refine (most_at B _ _ a4).mono ?_; rintro e w5 ⟨rfl, rfl⟩
      go_wp2_with fail
      refine (clear_at B _ _ a4).mono ?_; rintro e w5 ⟨rfl, a5, u5⟩
      go_wp2_with fail
      refine (pop_empty B _ _ a5 rfl).mono ?_; rintro e w6 ⟨rfl, rfl⟩
      go_wp2_with fail
      refine (most_at B _ _ a5).mono ?_; rintro e w6 ⟨rfl, rfl⟩
      go_wp2_with fail
      refine (len_at B _ _ a5).mono ?_; rintro e w6 ⟨rfl, rfl⟩
      go_wp2_with fail
      refine (works_ok _).mono ?_; rintro e w7 ⟨rfl, u7⟩
      go_wp2_with fail
      go_ret
      exact ⟨rfl, ub.trans ((hup.fresh1 (u2.trans (u3.trans (u4.trans u5))) (Nat.le_of_eq HB.out)).trans u7)⟩

end Go.Proofs.Ytcijjffhnogdfaa
