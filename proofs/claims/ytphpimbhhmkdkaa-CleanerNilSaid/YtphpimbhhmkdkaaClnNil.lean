/-
  CleanerNil. Conditions: none.
-/
import Derived.Test.YtphpimbhhmkdkaaClnNilC
namespace Go.Proofs.Ytphpimbhhmkdkaa
open Go.RowKit Go.Maps

set_option maxRecDepth 100000 in
set_option maxHeartbeats 4000000 in
theorem nil_fr (w : World) (id : Int) (_ : (Lit.int .i64 id).wf = true) :
    Calls Try.prog 9 #[.int .i64 id] w fun e w' => e = .returned (.bool true) ∧ Upd [] w w' := by
  go_enter Try.func9, Try.ntmps9
  go_wp2_with fail
  refine wp_loop_rounds 3 ?_
  rw [rounds_succ]
  go_wp2_with fail
  have hZ : ((w.alloc (Obj.cells #[Value.map none] 60)).alloc (Obj.cells #[Value.pointer none, Value.pointer (some { block := w.heap.size, off := 0 })] 23)).heap[w.heap.size]? = some (.cells #[Value.map none] 60 (0, 0)) := alloc_of (new_of w (Obj.cells #[Value.map none] 60))
  have hA : ((w.alloc (Obj.cells #[Value.map none] 60)).alloc (Obj.cells #[Value.pointer none, Value.pointer (some { block := w.heap.size, off := 0 })] 23)).heap[w.heap.size + 1]? = some (.cells #[Value.pointer none, Value.pointer (some { block := w.heap.size, off := 0 })] 23 (0, 0)) := by
    have := new_of (w.alloc (Obj.cells #[Value.map none] 60)) (Obj.cells #[Value.pointer none, Value.pointer (some { block := w.heap.size, off := 0 })] 23)
    simpa using this
  have up : Upd [] w ((w.alloc (Obj.cells #[Value.map none] 60)).alloc (Obj.cells #[Value.pointer none, Value.pointer (some { block := w.heap.size, off := 0 })] 23)) := ((Upd.refl _ _).alloc _).alloc _
  generalize (w.alloc (Obj.cells #[Value.map none] 60)).alloc (Obj.cells #[Value.pointer none, Value.pointer (some { block := w.heap.size, off := 0 })] 23) = v0 at hZ hA up ⊢
  generalize hZe : w.heap.size = Z at hZ hA ⊢
  clear hZe
  have n0 : NoT v0 none := .inl rfl
  refine (nfire _ id _ n0).mono ?_; rintro e wx ⟨rfl, rfl⟩
  go_wp2_with fail
  refine (ncancel _ id _ n0).mono ?_; rintro e wx ⟨rfl, rfl⟩
  go_wp2_with fail
  refine (nget _ id _ n0).mono ?_; rintro e w0 ⟨rfl, u0⟩
  go_wp2_with fail
  have hX0 : (w0.alloc (Obj.cells #[.int .i64 0, .int .i64 0] 31)).heap[w0.heap.size]? = some (.cells #[.int .i64 0, .int .i64 0] 31 (0, 0)) := new_of _ _
  have uu0 : Upd [] v0 (w0.alloc (Obj.cells #[.int .i64 0, .int .i64 0] 31)) := u0.alloc _
  generalize w0.alloc (Obj.cells #[.int .i64 0, .int .i64 0] 31) = x0 at hX0 uu0 ⊢
  generalize w0.heap.size = X0 at hX0 ⊢
  refine (ncounts _ _ (n0.upd uu0)).mono ?_; rintro e y0 ⟨rfl, uy0⟩
  have c0 := cell_of (uy0.keep hX0 (by simp)) 0
  have d0 := cell_of (uy0.keep hX0 (by simp)) 1
  have m0 := n0.upd (uu0.trans uy0)
  clear hX0
  go_wp2_with fail
  refine (narm _ id _ m0).mono ?_; rintro e wx ⟨rfl, rfl⟩
  go_wp2_with fail
  refine (nforget _ id _ m0).mono ?_; rintro e wx ⟨rfl, rfl⟩
  go_wp2_with fail
  refine (nlen _ _ m0).mono ?_; rintro e wx ⟨rfl, rfl⟩
  go_wp2_with fail
  refine (ncopy _ _ m0).mono ?_; rintro e wx ⟨rfl, rfl⟩
  have uz0 := uu0.trans uy0
  generalize y0 = v1 at *
  have hA1 := cell_of (uz0.keep hA (by simp)) 1
  have hZ1 := uz0.keep hZ (by simp)
  clear c0 d0 hA hZ
  go_wp2_with fail
  rw [rounds_succ]
  go_wp2_with fail
  have n1 : NoT v1 (some ⟨Z, 0, none⟩) := .inr ⟨Z, rfl, hZ1⟩
  refine (nfire _ id _ n1).mono ?_; rintro e wx ⟨rfl, rfl⟩
  go_wp2_with fail
  refine (ncancel _ id _ n1).mono ?_; rintro e wx ⟨rfl, rfl⟩
  go_wp2_with fail
  refine (nget _ id _ n1).mono ?_; rintro e w1 ⟨rfl, u1⟩
  go_wp2_with fail
  have hX1 : (w1.alloc (Obj.cells #[.int .i64 0, .int .i64 0] 31)).heap[w1.heap.size]? = some (.cells #[.int .i64 0, .int .i64 0] 31 (0, 0)) := new_of _ _
  have uu1 : Upd [] v1 (w1.alloc (Obj.cells #[.int .i64 0, .int .i64 0] 31)) := u1.alloc _
  generalize w1.alloc (Obj.cells #[.int .i64 0, .int .i64 0] 31) = x1 at hX1 uu1 ⊢
  generalize w1.heap.size = X1 at hX1 ⊢
  refine (ncounts _ _ (n1.upd uu1)).mono ?_; rintro e y1 ⟨rfl, uy1⟩
  have c1 := cell_of (uy1.keep hX1 (by simp)) 0
  have d1 := cell_of (uy1.keep hX1 (by simp)) 1
  have m1 := n1.upd (uu1.trans uy1)
  clear hX1
  go_wp2_with fail
  refine (narm _ id _ m1).mono ?_; rintro e wx ⟨rfl, rfl⟩
  go_wp2_with fail
  refine (nforget _ id _ m1).mono ?_; rintro e wx ⟨rfl, rfl⟩
  go_wp2_with fail
  refine (nlen _ _ m1).mono ?_; rintro e wx ⟨rfl, rfl⟩
  go_wp2_with fail
  refine (ncopy _ _ m1).mono ?_; rintro e wx ⟨rfl, rfl⟩
  have uz1 := uu1.trans uy1
  go_wp2_with fail
  rw [rounds_succ]
  go_wp2_with fail
  refine (works_ok _).mono ?_; rintro e w9 ⟨rfl, u9⟩
  go_wp2_with fail
  go_ret
  exact ⟨rfl, ((up.trans uz0).trans uz1).trans u9⟩

end Go.Proofs.Ytphpimbhhmkdkaa
