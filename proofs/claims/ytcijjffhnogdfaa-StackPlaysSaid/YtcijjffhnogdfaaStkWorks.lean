/-
  The examples of the chapter hold: 'works' returns true and writes nothing that was there. Conditions: none.
-/
import Derived.Test.YtcijjffhnogdfaaStk
namespace Go.Proofs.Ytcijjffhnogdfaa
open Go.RowKit

theorem new_lit (n : Int) (w : World) (h0 : 1 ≤ n) (h1 : n ≤ 64) :
    Calls Try.prog 18 #[.int .i64 n] w fun e w' => e = .returned (.tuple #[.pointer (some ⟨w.heap.size, 0, none⟩), .int .i64 0]) ∧ StAt w' w.heap.size { size := n.toNat, l := [], over := false, most := 0 } ∧ Upd [] w w' := by
  obtain ⟨m, rfl⟩ := Int.eq_ofNat_of_zero_le (show 0 ≤ n by omega)
  exact new_ok m w (by omega) (by omega)

theorem works_ok (w : World) : Calls Try.prog 11 #[] w fun e w' => e = .returned (.bool true) ∧ Upd [] w w' := by
  go_enter Try.func11, Try.ntmps11
  go_wp2_with fail
  refine (new_lit 2 _ (by omega) (by omega)).mono ?_; rintro e w1 ⟨rfl, a1, u1⟩
  generalize hb : w.heap.size = b at *
  have HB := Lib.hid hb; clear hb
  go_wp2_with fail
  refine (push_room b _ 5 _ a1 (by omega) (by omega) (by decide)).mono ?_; rintro e w2 ⟨rfl, a2, u2⟩
  replace a2 : StAt w2 b ⟨2, [5], false, 1⟩ := a2
  go_wp2_with fail
  refine (push_room b _ 7 _ a2 (by omega) (by omega) (by decide)).mono ?_; rintro e w3 ⟨rfl, a3, u3⟩
  replace a3 : StAt w3 b ⟨2, [5, 7], false, 2⟩ := a3
  go_wp2_with fail
  refine (push_full b _ 9 _ a3 (by omega) (by omega) (by decide)).mono ?_; rintro e w4 ⟨rfl, a4, u4⟩
  go_wp2_with fail
  refine (over_at b _ _ a4).mono ?_; rintro e w4' ⟨rfl, rfl⟩
  go_wp2_with fail
  refine (pop_some b _ [5] 7 _ a4 rfl).mono ?_; rintro e w5 ⟨rfl, a5, u5⟩
  go_wp2_with fail
  refine (settle_at b _ _ a5).mono ?_; rintro e w6 ⟨rfl, a6, u6⟩
  go_wp2_with fail
  refine (push_room b _ 9 _ a6 (by omega) (by omega) (by decide)).mono ?_; rintro e w7 ⟨rfl, a7, u7⟩
  replace a7 : StAt w7 b ⟨2, [5, 9], false, 2⟩ := a7
  go_wp2_with fail
  refine (pop_some b _ [5] 9 _ a7 rfl).mono ?_; rintro e w8 ⟨rfl, a8, u8⟩
  go_wp2_with fail
  refine (over_at b _ _ a8).mono ?_; rintro e w8' ⟨rfl, rfl⟩
  go_wp2_with fail
  refine (most_at b _ _ a8).mono ?_; rintro e w8' ⟨rfl, rfl⟩
  go_wp2_with fail
  refine (len_at b _ _ a8).mono ?_; rintro e w8' ⟨rfl, rfl⟩
  go_wp2_with fail
  go_ret
  exact ⟨rfl, u1.fresh1 (u2.trans (u3.trans (u4.trans (u5.trans (u6.trans (u7.trans u8)))))) (Nat.le_of_eq HB.out)⟩

end Go.Proofs.Ytcijjffhnogdfaa
