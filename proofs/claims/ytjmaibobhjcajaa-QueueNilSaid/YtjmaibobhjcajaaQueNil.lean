/-
  QueueNil: queues that are nil, or were not made by New. Conditions: none.
-/
import Derived.Test.YtjmaibobhjcajaaQueNilC
namespace Go.Proofs.Ytjmaibobhjcajaa
open Go.RowKit

theorem zq_0 : zq[0]? = some (.int .i64 0) := by kernel_rfl

set_option maxRecDepth 100000 in
set_option maxHeartbeats 4000000 in
theorem nil_fr (w : World) (m : Int) (_ : (Lit.int .i64 m).wf = true) :
    Calls Try.prog 8 #[.int .i64 m] w fun e w' => e = .returned (.bool true) ∧ Upd [] w w' := by
  have hz := zero_q
  have hne := zq_ne
  go_enter Try.func8, Try.ntmps8
  go_wp2_with fail
  clear hz hne
  refine wp_loop_rounds 3 ?_
  rw [rounds_succ]
  have h0 := zq_0
  generalize zq = zs at *
  have hZ : ((w.alloc (.cells zs 55)).alloc (.cells #[.pointer none, .pointer (some ⟨w.heap.size, 0, none⟩)] 24)).heap[w.heap.size]? = some (.cells zs 55 (0, 0)) := alloc_of (new_of w (.cells zs 55))
  have hA : ((w.alloc (.cells zs 55)).alloc (.cells #[.pointer none, .pointer (some ⟨w.heap.size, 0, none⟩)] 24)).heap[w.heap.size + 1]? = some (.cells #[.pointer none, .pointer (some ⟨w.heap.size, 0, none⟩)] 24 (0, 0)) := by
    have := new_of (w.alloc (.cells zs 55)) (.cells #[.pointer none, .pointer (some ⟨w.heap.size, 0, none⟩)] 24)
    simpa using this
  have up : Upd [] w ((w.alloc (.cells zs 55)).alloc (.cells #[.pointer none, .pointer (some ⟨w.heap.size, 0, none⟩)] 24)) := ((Upd.refl _ _).alloc _).alloc _
  generalize ((w.alloc (.cells zs 55)).alloc (.cells #[.pointer none, .pointer (some ⟨w.heap.size, 0, none⟩)] 24)) = v0 at hZ hA up ⊢
  generalize hZe : w.heap.size = Z at hZ hA ⊢
  clear hZe
  have HA := Lib.hid hA; have HZ := Lib.hid hZ; have H0 := Lib.hid h0
  have hA0 := cell_of hA 0
  clear hA hZ h0
  go_wp2_with fail
  have n0 : NoQ v0 none := .inl rfl
  refine (npoll _ _ n0).mono ?_; rintro e wx ⟨rfl, rfl⟩
  go_wp2_with fail
  refine (npeek _ m _ n0).mono ?_; rintro e wx ⟨rfl, rfl⟩
  go_wp2_with fail
  refine (ndrain _ m _ n0).mono ?_; rintro e wx ⟨rfl, rfl⟩
  go_wp2_with fail
  refine (nadd _ m _ n0).mono ?_; rintro e wx ⟨rfl, rfl⟩
  go_wp2_with fail
  refine (nrem _ m _ n0).mono ?_; rintro e x0 ⟨rfl, ux0⟩
  have nx0 := n0.upd ux0
  go_wp2_with fail
  refine (nroom _ _ nx0).mono ?_; rintro e wx ⟨rfl, rfl⟩
  go_wp2_with fail
  refine (nlen _ _ nx0).mono ?_; rintro e y0 ⟨rfl, uy0⟩
  have ny0 := nx0.upd uy0
  go_wp2_with fail
  refine (nall _ _ ny0).mono ?_; rintro e z0 ⟨va0, rfl, hf0, uz0⟩
  obtain ⟨aa0, ac0, rfl, hac0⟩ := hf0.1.form
  have nz0 := ny0.upd uz0
  have ua0 := (ux0.trans uy0).trans uz0
  clear hf0 ux0 uy0 uz0
  go_wp2_with fail
  refine (ncopy _ _ nz0).mono ?_; rintro e wx ⟨rfl, rfl⟩
  have hA1 := cell_of (ua0.keep HA.out (by simp)) 1
  clear hA0 n0 nx0 ny0 nz0
  go_wp2_with fail
  rw [rounds_succ]
  go_wp2_with fail
  have n1 : NoQ z0 (some ⟨Z, 0, none⟩) := .inr ⟨Z, zs, rfl, ua0.keep HZ.out (by simp), H0.out⟩
  refine (npoll _ _ n1).mono ?_; rintro e wx ⟨rfl, rfl⟩
  go_wp2_with fail
  refine (npeek _ m _ n1).mono ?_; rintro e wx ⟨rfl, rfl⟩
  go_wp2_with fail
  refine (ndrain _ m _ n1).mono ?_; rintro e wx ⟨rfl, rfl⟩
  go_wp2_with fail
  refine (nadd _ m _ n1).mono ?_; rintro e wx ⟨rfl, rfl⟩
  go_wp2_with fail
  refine (nrem _ m _ n1).mono ?_; rintro e x1 ⟨rfl, ux1⟩
  have nx1 := n1.upd ux1
  go_wp2_with fail
  refine (nroom _ _ nx1).mono ?_; rintro e wx ⟨rfl, rfl⟩
  go_wp2_with fail
  refine (nlen _ _ nx1).mono ?_; rintro e y1 ⟨rfl, uy1⟩
  have ny1 := nx1.upd uy1
  go_wp2_with fail
  refine (nall _ _ ny1).mono ?_; rintro e z1 ⟨va1, rfl, hf1, uz1⟩
  obtain ⟨aa1, ac1, rfl, hac1⟩ := hf1.1.form
  have nz1 := ny1.upd uz1
  have ua1 := (ux1.trans uy1).trans uz1
  clear hf1 ux1 uy1 uz1
  go_wp2_with fail
  refine (ncopy _ _ nz1).mono ?_; rintro e wx ⟨rfl, rfl⟩
  clear n1 nx1 ny1 nz1
  go_wp2_with fail
  rw [rounds_succ]
  go_wp2_with fail
  refine (works_ok _).mono ?_; rintro e w9 ⟨rfl, u9⟩
  go_wp2_with fail
  go_ret
  exact ⟨rfl, ((up.trans ua0).trans ua1).trans u9⟩

end Go.Proofs.Ytjmaibobhjcajaa
