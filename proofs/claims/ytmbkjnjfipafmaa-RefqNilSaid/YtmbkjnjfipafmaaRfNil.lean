/-
  RefqNil: reference queues that are nil, or were not made by New. Conditions: none.
-/
import Derived.Test.YtmbkjnjfipafmaaRfStep
import Derived.Test.YtmbkjnjfipafmaaRfNilC
namespace Go.Proofs.Ytmbkjnjfipafmaa
open Go.RowKit Go.Maps

theorem zeroT (w : World) : (zeroValue 71).run Try.prog w = .ok (.agg #[.pointer none, .pointer none, .pointer none, .int .i64 0]) w := by kernel_rfl
set_option maxRecDepth 100000 in
set_option maxHeartbeats 4000000 in
theorem nil_ok (w : World) (d id r1 r2 : Int) :
    Calls Try.prog 8 #[.agg #[.int .i64 d, .int .i64 id, .int .i64 r1, .int .u32 r2]] w fun e w' => e = .returned (.bool true) ∧ Upd [] w w' := by
  have zT := zeroT
  go_enter Try.func8, Try.ntmps8
  go_wp2_with fail
  refine wp_loop_rounds 3 ?_
  rw [rounds_succ]
  obtain ⟨v0, hv0⟩ : ∃ v0 : World, v0 = ((w.alloc (.cells #[.int .i64 d, .int .i64 id, .int .i64 r1, .int .u32 r2] 60)).alloc (.cells #[.pointer none, .pointer none, .pointer none, .int .i64 0] 71)).alloc (.cells #[.pointer none, .pointer (some ⟨w.heap.size + 1, 0, none⟩)] 30) := ⟨_, rfl⟩
  rw [← hv0]
  have hR : v0.heap[w.heap.size]? = some (.cells #[.int .i64 d, .int .i64 id, .int .i64 r1, .int .u32 r2] 60 (0, 0)) := by rw [hv0]; exact alloc_of (alloc_of (new_of _ _))
  have hZ : v0.heap[w.heap.size + 1]? = some (.cells #[.pointer none, .pointer none, .pointer none, .int .i64 0] 71 (0, 0)) := by
    rw [hv0]; refine alloc_of ?_
    have := new_of (w.alloc (.cells #[.int .i64 d, .int .i64 id, .int .i64 r1, .int .u32 r2] 60)) (.cells #[.pointer none, .pointer none, .pointer none, .int .i64 0] 71)
    rwa [World.size_alloc] at this
  have hA : v0.heap[w.heap.size + 2]? = some (.cells #[.pointer none, .pointer (some ⟨w.heap.size + 1, 0, none⟩)] 30 (0, 0)) := by
    rw [hv0]
    have := new_of ((w.alloc (.cells #[.int .i64 d, .int .i64 id, .int .i64 r1, .int .u32 r2] 60)).alloc (.cells #[.pointer none, .pointer none, .pointer none, .int .i64 0] 71)) (.cells #[.pointer none, .pointer (some ⟨w.heap.size + 1, 0, none⟩)] 30)
    simpa using this
  have up : Upd [] w v0 := by rw [hv0]; exact (((Upd.refl _ _).alloc _).alloc _).alloc _
  clear hv0 zT
  generalize w.heap.size + 2 = A at *
  generalize w.heap.size + 1 = Z at *
  generalize w.heap.size = R at *
  have HA := Lib.hid hA; have HZ := Lib.hid hZ; have HR := Lib.hid hR; have UP := Lib.hid up
  clear hA hZ hR up
  have U0 := Lib.hid (Upd.refl [] v0)
  have n0 : NoRf v0 (.pointer none) := .inl rfl
  have N0 := Lib.hid n0; clear n0
  have c0 := cell_of (U0.out.keep HA.out (by simp)) 0
  have l0 := lt_of_block (U0.out.keep HA.out (by simp))
  have s20 := cell_of (U0.out.keep HR.out (by simp)) 2
  have s30 := cell_of (U0.out.keep HR.out (by simp)) 3
  have sl0 := lt_of_block (U0.out.keep HR.out (by simp))
  go_wp2_with fail
  clear c0 l0 s20 s30 sl0
  refine (nfound N0.out r1 r2).mono ?_; rintro e x0 ⟨rfl, u⟩
  have X0 := Lib.hid (U0.out.trans u); have NX0 := Lib.hid (N0.out.upd0 u); clear u
  go_wp2_with fail
  refine (npoll NX0.out).mono ?_; rintro e y ⟨rfl, rfl⟩
  have s1 := cell_of (X0.out.keep HR.out (by simp)) 1
  have sl := lt_of_block (X0.out.keep HR.out (by simp))
  go_wp2_with fail
  clear s1 sl
  refine (ncancel NX0.out id).mono ?_; rintro e y0 ⟨rfl, u⟩
  have Y0 := Lib.hid (X0.out.trans u); have NY0 := Lib.hid (NX0.out.upd0 u); clear u
  have s2 := cell_of (Y0.out.keep HR.out (by simp)) 2
  have s3 := cell_of (Y0.out.keep HR.out (by simp)) 3
  have sl := lt_of_block (Y0.out.keep HR.out (by simp))
  go_wp2_with fail
  clear s2 s3 sl
  refine (nwatches NY0.out r1 r2).mono ?_; rintro e z0 ⟨rfl, u⟩
  have Z0 := Lib.hid (Y0.out.trans u); have NZ0 := Lib.hid (NY0.out.upd0 u); clear u
  have s1 := cell_of (Z0.out.keep HR.out (by simp)) 1
  have s2 := cell_of (Z0.out.keep HR.out (by simp)) 2
  have s3 := cell_of (Z0.out.keep HR.out (by simp)) 3
  have sl := lt_of_block (Z0.out.keep HR.out (by simp))
  go_wp2_with fail
  clear s1 s2 s3 sl
  refine (nreg NZ0.out id r1 r2).mono ?_; rintro e p0 ⟨rfl, u⟩
  have P0 := Lib.hid (Z0.out.trans u); have NP0 := Lib.hid (NZ0.out.upd0 u); clear u
  go_wp2_with fail
  refine (nroom NP0.out).mono ?_; rintro e y ⟨rfl, rfl⟩
  go_wp2_with fail
  refine (nwaiting NP0.out).mono ?_; rintro e y ⟨rfl, rfl⟩
  go_wp2_with fail
  refine (nlen NP0.out).mono ?_; rintro e y ⟨rfl, rfl⟩
  go_wp2_with fail
  refine (ncopy NP0.out).mono ?_; rintro e y ⟨rfl, rfl⟩
  have c1a := cell_of (P0.out.keep HA.out (by simp)) 1
  have l1a := lt_of_block (P0.out.keep HA.out (by simp))
  go_wp2_with fail
  rw [rounds_succ]
  clear c1a l1a
  have n1 : NoRf p0 (.pointer (some ⟨Z, 0, none⟩)) := .inr ⟨Z, rfl, cell_of (P0.out.keep HZ.out (by simp)) 3⟩
  have N1 := Lib.hid n1; clear n1
  have c1 := cell_of (P0.out.keep HA.out (by simp)) 1
  have l1 := lt_of_block (P0.out.keep HA.out (by simp))
  have s21 := cell_of (P0.out.keep HR.out (by simp)) 2
  have s31 := cell_of (P0.out.keep HR.out (by simp)) 3
  have sl1 := lt_of_block (P0.out.keep HR.out (by simp))
  go_wp2_with fail
  clear c1 l1 s21 s31 sl1
  refine (nfound N1.out r1 r2).mono ?_; rintro e x1 ⟨rfl, u⟩
  have X1 := Lib.hid (P0.out.trans u); have NX1 := Lib.hid (N1.out.upd0 u); clear u
  go_wp2_with fail
  refine (npoll NX1.out).mono ?_; rintro e y ⟨rfl, rfl⟩
  have s1 := cell_of (X1.out.keep HR.out (by simp)) 1
  have sl := lt_of_block (X1.out.keep HR.out (by simp))
  go_wp2_with fail
  clear s1 sl
  refine (ncancel NX1.out id).mono ?_; rintro e y1 ⟨rfl, u⟩
  have Y1 := Lib.hid (X1.out.trans u); have NY1 := Lib.hid (NX1.out.upd0 u); clear u
  have s2 := cell_of (Y1.out.keep HR.out (by simp)) 2
  have s3 := cell_of (Y1.out.keep HR.out (by simp)) 3
  have sl := lt_of_block (Y1.out.keep HR.out (by simp))
  go_wp2_with fail
  clear s2 s3 sl
  refine (nwatches NY1.out r1 r2).mono ?_; rintro e z1 ⟨rfl, u⟩
  have Z1 := Lib.hid (Y1.out.trans u); have NZ1 := Lib.hid (NY1.out.upd0 u); clear u
  have s1 := cell_of (Z1.out.keep HR.out (by simp)) 1
  have s2 := cell_of (Z1.out.keep HR.out (by simp)) 2
  have s3 := cell_of (Z1.out.keep HR.out (by simp)) 3
  have sl := lt_of_block (Z1.out.keep HR.out (by simp))
  go_wp2_with fail
  clear s1 s2 s3 sl
  refine (nreg NZ1.out id r1 r2).mono ?_; rintro e p1 ⟨rfl, u⟩
  have P1 := Lib.hid (Z1.out.trans u); have NP1 := Lib.hid (NZ1.out.upd0 u); clear u
  go_wp2_with fail
  refine (nroom NP1.out).mono ?_; rintro e y ⟨rfl, rfl⟩
  go_wp2_with fail
  refine (nwaiting NP1.out).mono ?_; rintro e y ⟨rfl, rfl⟩
  go_wp2_with fail
  refine (nlen NP1.out).mono ?_; rintro e y ⟨rfl, rfl⟩
  go_wp2_with fail
  refine (ncopy NP1.out).mono ?_; rintro e y ⟨rfl, rfl⟩
  go_wp2_with fail
  rw [rounds_succ]
  go_wp2_with fail
  refine (works_ok _).mono ?_; rintro e w9 ⟨rfl, u9⟩
  go_wp2_with fail
  go_ret
  exact ⟨rfl, (UP.out.trans P1.out).trans u9⟩

theorem nil_fr (w : World) (v : Value) (cs : List Value) (h : v = .agg cs.toArray ∧ IsStep cs) :
    Calls Try.prog 8 #[v] w fun e w' => e = .returned (.bool true) ∧ Upd [] w w' := by
  obtain ⟨rfl, d, i, r, rfl, -, -, -⟩ := h
  exact nil_ok w d i r.1 r.2

end Go.Proofs.Ytmbkjnjfipafmaa
