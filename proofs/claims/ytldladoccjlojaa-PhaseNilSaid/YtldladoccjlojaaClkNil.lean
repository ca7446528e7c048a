/-
  PhaseNil. Conditions: none.
-/
import Derived.Test.YtldladoccjlojaaClkNilC
namespace Go.Proofs.Ytldladoccjlojaa
open Go.RowKit

set_option maxRecDepth 100000 in
set_option maxHeartbeats 4000000 in
theorem nil_fr (w : World) (m : Int) (_ : (Lit.int .i64 m).wf = true) :
    Calls Try.prog 8 #[.int .i64 m] w fun e w' => e = .returned (.bool true) ∧ Upd [] w w' := by
  go_enter Try.func8, Try.ntmps8
  go_wp2_with fail
  refine wp_loop_rounds 3 ?_
  rw [rounds_succ]
  go_wp2_with fail
  have hZ : ((w.alloc (Obj.cells ckZero 55)).alloc (Obj.cells #[Value.pointer none, Value.pointer (some { block := w.heap.size, off := 0 })] 24)).heap[w.heap.size]? = some (.cells ckZero 55 (0, 0)) := alloc_of (new_of w (Obj.cells ckZero 55))
  have hA : ((w.alloc (Obj.cells ckZero 55)).alloc (Obj.cells #[Value.pointer none, Value.pointer (some { block := w.heap.size, off := 0 })] 24)).heap[w.heap.size + 1]? = some (.cells #[Value.pointer none, Value.pointer (some { block := w.heap.size, off := 0 })] 24 (0, 0)) := by
    have := new_of (w.alloc (Obj.cells ckZero 55)) (Obj.cells #[Value.pointer none, Value.pointer (some { block := w.heap.size, off := 0 })] 24)
    simpa using this
  have up : Upd [] w ((w.alloc (Obj.cells ckZero 55)).alloc (Obj.cells #[Value.pointer none, Value.pointer (some { block := w.heap.size, off := 0 })] 24)) := ((Upd.refl _ _).alloc _).alloc _
  unfold ckZero at hZ hA up
  generalize ((w.alloc (Obj.cells #[.int .i64 0, .int .i64 0, .int .i64 0, .bool false, .bool false, .bool false, .bool false, .bool false, .bool false, .bool false, .bool false] 55)).alloc (Obj.cells #[Value.pointer none, Value.pointer (some { block := w.heap.size, off := 0 })] 24)) = v0 at hZ hA up ⊢
  generalize hZe : w.heap.size = Z at hZ hA ⊢
  clear hZe
  have n0 : NoC v0 none := .inl rfl
  refine (nack _ m _ n0).mono ?_; rintro e wx ⟨rfl, rfl⟩
  go_wp2_with fail
  refine (nseen _ m _ n0).mono ?_; rintro e wx ⟨rfl, rfl⟩
  go_wp2_with fail
  refine (nbegin _ _ n0).mono ?_; rintro e wx ⟨rfl, rfl⟩
  go_wp2_with fail
  refine (ngo _ _ n0).mono ?_; rintro e wx ⟨rfl, rfl⟩
  go_wp2_with fail
  refine (nready _ _ n0).mono ?_; rintro e y0 ⟨rfl, uz0⟩
  have m0 := n0.upd uz0
  go_wp2_with fail
  refine (nbarrier _ m _ m0).mono ?_; rintro e wx ⟨rfl, rfl⟩
  go_wp2_with fail
  refine (nphase _ _ m0).mono ?_; rintro e wx ⟨rfl, rfl⟩
  go_wp2_with fail
  refine (ncycles _ _ m0).mono ?_; rintro e wx ⟨rfl, rfl⟩
  go_wp2_with fail
  refine (ncopy _ _ m0).mono ?_; rintro e wx ⟨rfl, rfl⟩
  generalize y0 = v1 at *
  have hA1 := cell_of (uz0.keep hA (by simp)) 1
  have hZ1 := uz0.keep hZ (by simp)
  clear hA hZ
  go_wp2_with fail
  rw [rounds_succ]
  go_wp2_with fail
  have n1 : NoC v1 (some ⟨Z, 0, none⟩) := .inr ⟨Z, rfl, hZ1⟩
  refine (nack _ m _ n1).mono ?_; rintro e wx ⟨rfl, rfl⟩
  go_wp2_with fail
  refine (nseen _ m _ n1).mono ?_; rintro e wx ⟨rfl, rfl⟩
  go_wp2_with fail
  refine (nbegin _ _ n1).mono ?_; rintro e wx ⟨rfl, rfl⟩
  go_wp2_with fail
  refine (ngo _ _ n1).mono ?_; rintro e wx ⟨rfl, rfl⟩
  go_wp2_with fail
  refine (nready _ _ n1).mono ?_; rintro e y1 ⟨rfl, uz1⟩
  have m1 := n1.upd uz1
  go_wp2_with fail
  refine (nbarrier _ m _ m1).mono ?_; rintro e wx ⟨rfl, rfl⟩
  go_wp2_with fail
  refine (nphase _ _ m1).mono ?_; rintro e wx ⟨rfl, rfl⟩
  go_wp2_with fail
  refine (ncycles _ _ m1).mono ?_; rintro e wx ⟨rfl, rfl⟩
  go_wp2_with fail
  refine (ncopy _ _ m1).mono ?_; rintro e wx ⟨rfl, rfl⟩
  go_wp2_with fail
  rw [rounds_succ]
  go_wp2_with fail
  refine (works_ok _).mono ?_; rintro e w9 ⟨rfl, u9⟩
  go_wp2_with fail
  go_ret
  exact ⟨rfl, ((up.trans uz0).trans uz1).trans u9⟩

end Go.Proofs.Ytldladoccjlojaa
