/-
  The law StackNil: stacks that are nil, or were not made by New. Conditions: none.
-/
import Derived.Test.YtcijjffhnogdfaaStkWorks
namespace Go.Proofs.Ytcijjffhnogdfaa
open Go.RowKit

/-- A pointer that is no stack: nil, or to one whose size is 0. -/
def NoSt (w : World) (v : Value) : Prop := v = .pointer none ∨ ∃ b, v = .pointer (some ⟨b, 0, none⟩) ∧ w.cell? ⟨b, 2, none⟩ = some (.int .i64 0)

theorem valid_no (v : Value) (w : World) (h : NoSt w v) : Calls Try.prog 31 #[v] w fun e w' => e = .returned (.bool false) ∧ w = w' := by
  rcases h with rfl | ⟨b, rfl, hc⟩
  · exact valid_nil w
  · go_enter Try.func31, Try.ntmps31
    go_wp2
    go_ret
    exact ⟨rfl, rfl⟩

theorem push_no (v : Value) (slot : Int) (w : World) (h : NoSt w v) : Calls Try.prog 17 #[v, .int .i64 slot] w fun e w' => e = .returned (.tuple #[.bool false, .int .i64 1]) ∧ w = w' := by
  have H := Lib.hid h; clear h
  go_enter Try.func17, Try.ntmps17
  go_wp2_with (go_at_call 31; refine (valid_no v _ H.out).mono ?_; rintro e w' ⟨rfl, rfl⟩)
  go_ret2
  exact ⟨rfl, rfl⟩
theorem pop_no (v : Value) (w : World) (h : NoSt w v) : Calls Try.prog 15 #[v] w fun e w' => e = .returned (.tuple #[.int .i64 0, .bool false]) ∧ w = w' := by
  have H := Lib.hid h; clear h
  go_enter Try.func15, Try.ntmps15
  go_wp2_with (go_at_call 31; refine (valid_no v _ H.out).mono ?_; rintro e w' ⟨rfl, rfl⟩)
  go_ret2
  exact ⟨rfl, rfl⟩
theorem over_no (v : Value) (w : World) (h : NoSt w v) : Calls Try.prog 13 #[v] w fun e w' => e = .returned (.bool false) ∧ w = w' := by
  have H := Lib.hid h; clear h
  go_enter Try.func13, Try.ntmps13
  go_wp2_with (go_at_call 31; refine (valid_no v _ H.out).mono ?_; rintro e w' ⟨rfl, rfl⟩)
  go_ret
  exact ⟨rfl, rfl⟩
theorem len_no (v : Value) (w : World) (h : NoSt w v) : Calls Try.prog 14 #[v] w fun e w' => e = .returned (.int .i64 0) ∧ w = w' := by
  have H := Lib.hid h; clear h
  go_enter Try.func14, Try.ntmps14
  go_wp2_with (go_at_call 31; refine (valid_no v _ H.out).mono ?_; rintro e w' ⟨rfl, rfl⟩)
  go_ret
  exact ⟨rfl, rfl⟩
theorem most_no (v : Value) (w : World) (h : NoSt w v) : Calls Try.prog 16 #[v] w fun e w' => e = .returned (.int .i64 0) ∧ w = w' := by
  have H := Lib.hid h; clear h
  go_enter Try.func16, Try.ntmps16
  go_wp2_with (go_at_call 31; refine (valid_no v _ H.out).mono ?_; rintro e w' ⟨rfl, rfl⟩)
  go_ret
  exact ⟨rfl, rfl⟩
theorem settle_no (v : Value) (w : World) (h : NoSt w v) : Calls Try.prog 19 #[v] w fun e w' => e = .returned (.tuple #[]) ∧ w = w' := by
  have H := Lib.hid h; clear h
  go_enter Try.func19, Try.ntmps19
  go_wp2_with (go_at_call 31; refine (valid_no v _ H.out).mono ?_; rintro e w' ⟨rfl, rfl⟩)
  go_end0
  exact ⟨rfl, rfl⟩
theorem clear_no (v : Value) (w : World) (h : NoSt w v) : Calls Try.prog 20 #[v] w fun e w' => e = .returned (.tuple #[]) ∧ w = w' := by
  have H := Lib.hid h; clear h
  go_enter Try.func20, Try.ntmps20
  go_wp2_with (go_at_call 31; refine (valid_no v _ H.out).mono ?_; rintro e w' ⟨rfl, rfl⟩)
  go_end0
  exact ⟨rfl, rfl⟩
theorem copy_no (v : Value) (w : World) (h : NoSt w v) : Calls Try.prog 26 #[v] w fun e w' => e = .returned (.pointer none) ∧ w = w' := by
  have H := Lib.hid h; clear h
  go_enter Try.func26, Try.ntmps26
  go_wp2_with (go_at_call 31; refine (valid_no v _ H.out).mono ?_; rintro e w' ⟨rfl, rfl⟩)
  go_ret
  exact ⟨rfl, rfl⟩

set_option maxHeartbeats 1000000 in
theorem nil_ok (w : World) (slot : Int) : Calls Try.prog 9 #[.int .i64 slot] w fun e w' => e = .returned (.bool true) ∧ Upd [] w w' := by
  have hz := zero52
  go_enter Try.func9, Try.ntmps9
  go_wp2_with fail
  have hc0 : ((w.alloc (Obj.cells (stFresh 0) 52)).alloc (Obj.cells #[Value.pointer none, Value.pointer (some ⟨w.heap.size, 0, none⟩)] 24)).cell? ⟨w.heap.size + 1, 0, none⟩ = some (.pointer none) := by
    rw [show w.heap.size + 1 = (w.alloc (Obj.cells (stFresh 0) 52)).heap.size from by simp]; rw [World.cell?_alloc_new]; rfl
  have hc1 : ((w.alloc (Obj.cells (stFresh 0) 52)).alloc (Obj.cells #[Value.pointer none, Value.pointer (some ⟨w.heap.size, 0, none⟩)] 24)).cell? ⟨w.heap.size + 1, 1, none⟩ = some (.pointer (some ⟨w.heap.size, 0, none⟩)) := by
    rw [show w.heap.size + 1 = (w.alloc (Obj.cells (stFresh 0) 52)).heap.size from by simp]; rw [World.cell?_alloc_new]; rfl
  have hn : NoSt ((w.alloc (Obj.cells (stFresh 0) 52)).alloc (Obj.cells #[Value.pointer none, Value.pointer (some ⟨w.heap.size, 0, none⟩)] 24)) (.pointer (some ⟨w.heap.size, 0, none⟩)) :=
    .inr ⟨_, rfl, by rw [cell_of (alloc_of (new_of w (Obj.cells (stFresh 0) 52)))]; rfl⟩
  have ub : Upd [] w ((w.alloc (Obj.cells (stFresh 0) 52)).alloc (Obj.cells #[Value.pointer none, Value.pointer (some ⟨w.heap.size, 0, none⟩)] 24)) := ((Upd.refl _ _).alloc _).alloc _
  generalize (w.alloc (Obj.cells (stFresh 0) 52)).alloc (Obj.cells #[Value.pointer none, Value.pointer (some ⟨w.heap.size, 0, none⟩)] 24) = W at *
  have hm : NoSt W (.pointer none) := .inl rfl
  generalize w.heap.size = b at *
  have HM := Lib.hid hm; clear hm
  have HN := Lib.hid hn; clear hn
  clear hz
  refine wp_loop_rounds 3 ?_
  rw [rounds_succ]
  go_wp2_with (first | (go_at_call 17; refine (push_no _ _ _ HM.out).mono ?_; rintro e w2 ⟨rfl, rfl⟩) | (go_at_call 15; refine (pop_no _ _ HM.out).mono ?_; rintro e w2 ⟨rfl, rfl⟩) | (go_at_call 19; refine (settle_no _ _ HM.out).mono ?_; rintro e w2 ⟨rfl, rfl⟩) | (go_at_call 20; refine (clear_no _ _ HM.out).mono ?_; rintro e w2 ⟨rfl, rfl⟩) | (go_at_call 13; refine (over_no _ _ HM.out).mono ?_; rintro e w2 ⟨rfl, rfl⟩) | (go_at_call 14; refine (len_no _ _ HM.out).mono ?_; rintro e w2 ⟨rfl, rfl⟩) | (go_at_call 16; refine (most_no _ _ HM.out).mono ?_; rintro e w2 ⟨rfl, rfl⟩) | (go_at_call 26; refine (copy_no _ _ HM.out).mono ?_; rintro e w2 ⟨rfl, rfl⟩))
  rw [rounds_succ]
  go_wp2_with (first | (go_at_call 17; refine (push_no _ _ _ HN.out).mono ?_; rintro e w2 ⟨rfl, rfl⟩) | (go_at_call 15; refine (pop_no _ _ HN.out).mono ?_; rintro e w2 ⟨rfl, rfl⟩) | (go_at_call 19; refine (settle_no _ _ HN.out).mono ?_; rintro e w2 ⟨rfl, rfl⟩) | (go_at_call 20; refine (clear_no _ _ HN.out).mono ?_; rintro e w2 ⟨rfl, rfl⟩) | (go_at_call 13; refine (over_no _ _ HN.out).mono ?_; rintro e w2 ⟨rfl, rfl⟩) | (go_at_call 14; refine (len_no _ _ HN.out).mono ?_; rintro e w2 ⟨rfl, rfl⟩) | (go_at_call 16; refine (most_no _ _ HN.out).mono ?_; rintro e w2 ⟨rfl, rfl⟩) | (go_at_call 26; refine (copy_no _ _ HN.out).mono ?_; rintro e w2 ⟨rfl, rfl⟩))
  rw [rounds_succ]
  go_wp2_with (go_at_call 11; refine (works_ok _).mono ?_; rintro e w' ⟨rfl, u⟩)
  go_ret
  exact ⟨rfl, ub.trans u⟩

theorem nil_fr (w : World) (slot : Int) (_ : (Lit.int .i64 slot).wf = true) : Calls Try.prog 9 #[.int .i64 slot] w fun e w' => e = .returned (.bool true) ∧ Upd [] w w' := nil_ok w slot

end Go.Proofs.Ytcijjffhnogdfaa
