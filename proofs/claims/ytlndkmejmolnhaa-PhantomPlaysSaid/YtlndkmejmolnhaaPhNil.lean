/-
  PhantomNil: tables that are nil, or were not made by New. Conditions: none.
-/
import Derived.Test.YtlndkmejmolnhaaPhWorks
import Derived.Test.YtlndkmejmolnhaaArgs
import Derived.Lib.SmallJoins
namespace Go.Proofs.Ytlndkmejmolnhaa
open Go.RowKit Go.Maps

/-- A table that is nil, or zero. -/
def NoP (w : World) (p : Option Addr) : Prop := p = none ∨ ∃ b, p = some ⟨b, 0, none⟩ ∧ w.heap[b]? = some (.cells #[.int .i64 0, .map none, .map none] 29 (0, 0))
theorem NoP.upd {w w' : World} {p : Option Addr} (h : NoP w p) (u : Upd [] w w') : NoP w' p := by
  rcases h with h | ⟨b, h, hb⟩
  · exact .inl h
  · exact .inr ⟨b, h, u.keep hb (by simp)⟩
theorem nmade (p : Option Addr) (w : World) (h : NoP w p) : Calls Try.prog 26 #[.pointer p] w fun e w' => e = .returned (.bool false) ∧ w = w' := by
  rcases h with rfl | ⟨b, rfl, hb⟩
  · go_enter Try.func26, Try.ntmps26
    go_wp2
    go_ret
    exact ⟨rfl, rfl⟩
  · have c0 := cell_of hb 0
    clear hb
    go_enter Try.func26, Try.ntmps26
    go_wp2
    go_ret
    exact ⟨rfl, rfl⟩
theorem ncheck (p : Option Addr) (id : Int) (w : World) (h : NoP w p) : Calls Try.prog 25 #[.pointer p, .int .i64 id] w fun e w' => e = .returned (.int .i64 1) ∧ w = w' := by
  have H := Lib.hid h; clear h
  go_enter Try.func25, Try.ntmps25
  go_wp2_with (go_at_call 26; refine (nmade p _ H.out).mono ?_; rintro e w' ⟨rfl, rfl⟩)
  go_ret
  exact ⟨rfl, rfl⟩
theorem nclr (p : Option Addr) (id : Int) (w : World) (h : NoP w p) : Calls Try.prog 9 #[.pointer p, .int .i64 id] w fun e w' => e = .returned (.tuple #[.agg #[.int .i64 0, .int .u32 0], .int .i64 1]) ∧ Upd [] w w' := by
  have H := Lib.hid (h.upd ((Upd.refl _ _).alloc (.cells #[.int .i64 0, .int .u32 0] 24))); clear h
  have zR := zeroR
  go_enter Try.func9, Try.ntmps9
  go_wp2_with (go_at_call 25; refine (ncheck p id _ H.out).mono ?_; rintro e w' ⟨rfl, rfl⟩)
  go_returns
  exact ⟨rfl, (Upd.refl _ _).alloc _⟩
theorem nof (p : Option Addr) (id : Int) (w : World) (h : NoP w p) : Calls Try.prog 10 #[.pointer p, .int .i64 id] w fun e w' => e = .returned (.tuple #[.agg #[.int .i64 0, .int .u32 0], .bool false]) ∧ Upd [] w w' := by
  have H := Lib.hid (h.upd ((Upd.refl _ _).alloc (.cells #[.int .i64 0, .int .u32 0] 24))); clear h
  have zR := zeroR
  go_enter Try.func10, Try.ntmps10
  go_wp2_with (go_at_call 26; refine (nmade p _ H.out).mono ?_; rintro e w' ⟨rfl, rfl⟩)
  go_returns
  exact ⟨rfl, (Upd.refl _ _).alloc _⟩
theorem nby (p : Option Addr) (a b : Int) (w : World) (h : NoP w p) : Calls Try.prog 11 #[.pointer p, .agg #[.int .i64 a, .int .u32 b]] w fun e w' => e = .returned (.tuple #[.int .i64 0, .bool false]) ∧ Upd [] w w' := by
  have H := Lib.hid (h.upd ((Upd.refl _ _).alloc (.cells #[.int .i64 a, .int .u32 b] 24))); clear h
  go_enter Try.func11, Try.ntmps11
  go_wp2_with (go_at_call 26; refine (nmade p _ H.out).mono ?_; rintro e w' ⟨rfl, rfl⟩)
  go_ret2
  exact ⟨rfl, (Upd.refl _ _).alloc _⟩
theorem nadd (p : Option Addr) (id a b : Int) (w : World) (h : NoP w p) : Calls Try.prog 12 #[.pointer p, .int .i64 id, .agg #[.int .i64 a, .int .u32 b]] w fun e w' => e = .returned (.int .i64 1) ∧ Upd [] w w' := by
  have H := Lib.hid (h.upd ((Upd.refl _ _).alloc (.cells #[.int .i64 a, .int .u32 b] 24))); clear h
  go_enter Try.func12, Try.ntmps12
  go_wp2_with (go_at_call 25; refine (ncheck p id _ H.out).mono ?_; rintro e w' ⟨rfl, rfl⟩)
  go_ret
  exact ⟨rfl, (Upd.refl _ _).alloc _⟩
theorem nids (p : Option Addr) (w : World) (h : NoP w p) : Calls Try.prog 13 #[.pointer p] w fun e w' => e = .returned (.slice none 0 0) ∧ w = w' := by
  have H := Lib.hid h; clear h
  go_enter Try.func13, Try.ntmps13
  go_wp2_with (go_at_call 26; refine (nmade p _ H.out).mono ?_; rintro e w' ⟨rfl, rfl⟩)
  go_ret
  exact ⟨rfl, rfl⟩
theorem nlen (p : Option Addr) (w : World) (h : NoP w p) : Calls Try.prog 14 #[.pointer p] w fun e w' => e = .returned (.int .i64 0) ∧ w = w' := by
  have H := Lib.hid h; clear h
  go_enter Try.func14, Try.ntmps14
  go_wp2_with (go_at_call 26; refine (nmade p _ H.out).mono ?_; rintro e w' ⟨rfl, rfl⟩)
  go_ret
  exact ⟨rfl, rfl⟩
theorem ncopy (p : Option Addr) (w : World) (h : NoP w p) : Calls Try.prog 15 #[.pointer p] w fun e w' => e = .returned (.pointer none) ∧ w = w' := by
  have H := Lib.hid h; clear h
  go_enter Try.func15, Try.ntmps15
  go_wp2_with (go_at_call 26; refine (nmade p _ H.out).mono ?_; rintro e w' ⟨rfl, rfl⟩)
  go_ret
  exact ⟨rfl, rfl⟩

/-- An object as an argument. -/
theorem ref_of {H : Type} {enc : TypeId × Value → H} {w : World} {v : Value} {d : DataW H} {p : List MemPlace}
    (hval : Value.okWide Try.prog w .any 0 24 v) (h : DataW.Trod enc Try.prog w 0 (fun _ => true) true 24 v d p) : ∃ z : Rf, v = .agg #[.int .i64 z.1, .int .u32 z.2] ∧ refWf z := by
  obtain ⟨c0, c1, y0, y1, m, rfl, _, _, hy0, hy1⟩ := Go.Joins.open_agg2 Try.underlying24 (by kernel_rfl) (by kernel_rfl) hval h
  obtain ⟨x, rfl, wx⟩ := int_cell Try.underlying3 hy0
  obtain ⟨z, rfl, wz⟩ := int_cell Try.underlying22 hy1
  exact ⟨(x, z), rfl, wx, wz⟩
theorem zeroT (w : World) : (zeroValue 29).run Try.prog w = .ok (.agg #[.int .i64 0, .map none, .map none]) w := by kernel_rfl

set_option maxRecDepth 100000 in
set_option maxHeartbeats 4000000 in
theorem nil_ok (w : World) (id r1 r2 : Int) :
    Calls Try.prog 3 #[.int .i64 id, .agg #[.int .i64 r1, .int .u32 r2]] w fun e w' => e = .returned (.bool true) ∧ Upd [] w w' := by
  have zR := zeroR
  have zT := zeroT
  have nR := neR
  have gR := gdR
  go_enter Try.func3, Try.ntmps3
  go_wp2_with fail
  refine wp_loop_rounds 3 ?_
  rw [rounds_succ]
  obtain ⟨v0, hv0⟩ : ∃ v0 : World, v0 = ((w.alloc (.cells #[.int .i64 r1, .int .u32 r2] 24)).alloc (.cells #[.int .i64 0, .map none, .map none] 29)).alloc (.cells #[.pointer none, .pointer (some ⟨w.heap.size + 1, 0, none⟩)] 25) := ⟨_, rfl⟩
  rw [← hv0]
  have hR : v0.heap[w.heap.size]? = some (.cells #[.int .i64 r1, .int .u32 r2] 24 (0, 0)) := by rw [hv0]; exact alloc_of (alloc_of (new_of _ _))
  have hZ : v0.heap[w.heap.size + 1]? = some (.cells #[.int .i64 0, .map none, .map none] 29 (0, 0)) := by
    rw [hv0]; refine alloc_of ?_
    have := new_of (w.alloc (.cells #[.int .i64 r1, .int .u32 r2] 24)) (.cells #[.int .i64 0, .map none, .map none] 29)
    rwa [World.size_alloc] at this
  have hA : v0.heap[w.heap.size + 2]? = some (.cells #[.pointer none, .pointer (some ⟨w.heap.size + 1, 0, none⟩)] 25 (0, 0)) := by
    rw [hv0]
    have := new_of ((w.alloc (.cells #[.int .i64 r1, .int .u32 r2] 24)).alloc (.cells #[.int .i64 0, .map none, .map none] 29)) (.cells #[.pointer none, .pointer (some ⟨w.heap.size + 1, 0, none⟩)] 25)
    simpa using this
  have up : Upd [] w v0 := by rw [hv0]; exact (((Upd.refl _ _).alloc _).alloc _).alloc _
  clear hv0 zT
  generalize w.heap.size + 2 = A at *
  generalize w.heap.size + 1 = Z at *
  generalize w.heap.size = R at *
  have HA := Lib.hid hA; have HZ := Lib.hid hZ; have HR := Lib.hid hR; have UP := Lib.hid up
  clear hA hZ hR up
  have UP0 : Upd [] v0 v0 := Upd.refl _ _
  have n0 : NoP v0 none := .inl rfl
  have c0 := cell_of (UP0.keep HA.out (by simp)) 0
  have l0 := lt_of_block (UP0.keep HA.out (by simp))
  go_wp2_with fail
  clear c0 l0
  refine (nclr _ id _ n0).mono ?_; rintro e x0 ⟨rfl, u⟩
  replace n0 := n0.upd u; have uu0 := UP0.trans u; clear u
  go_wp2_with fail
  have hC0 := new_of x0 (.cells #[.int .i64 0, .int .u32 0] 24)
  replace n0 := n0.upd ((Upd.refl _ _).alloc (.cells #[.int .i64 0, .int .u32 0] 24)); replace uu0 := uu0.alloc (.cells #[.int .i64 0, .int .u32 0] 24)
  generalize x0.alloc (.cells #[.int .i64 0, .int .u32 0] 24) = y0 at *
  generalize x0.heap.size = C0 at *
  refine (nof _ id _ n0).mono ?_; rintro e z0 ⟨rfl, u⟩
  replace n0 := n0.upd u; replace uu0 := uu0.trans u; replace hC0 := u.keep hC0 (by simp); clear u
  have hD0 := new_of z0 (.cells #[.int .i64 0, .int .u32 0] 24)
  have ul : Upd [] z0 (z0.alloc (.cells #[.int .i64 0, .int .u32 0] 24)) := (Upd.refl _ _).alloc _
  have hR0 := (uu0.trans ul).keep HR.out (by simp)
  have r0 := cell_of (uu0.keep HR.out (by simp)) 0
  have r1' := cell_of (uu0.keep HR.out (by simp)) 1
  have rl := lt_of_block (uu0.keep HR.out (by simp))
  go_wp2_with fail
  replace n0 := n0.upd ul; replace uu0 := uu0.trans ul; replace hC0 := ul.keep hC0 (by simp); clear ul r0 r1' rl
  generalize z0.alloc (.cells #[.int .i64 0, .int .u32 0] 24) = p0 at *
  generalize z0.heap.size = D0 at *
  refine (nby _ r1 r2 _ n0).mono ?_; rintro e q0 ⟨rfl, u⟩
  replace n0 := n0.upd u; replace uu0 := uu0.trans u; replace hC0 := u.keep hC0 (by simp); replace hD0 := u.keep hD0 (by simp); replace hR0 := u.keep hR0 (by simp); clear u
  have r0 := cell_of hR0 0
  have r1' := cell_of hR0 1
  have rl := lt_of_block hR0
  go_wp2_with fail
  clear r0 r1' rl
  refine (nadd _ id r1 r2 _ n0).mono ?_; rintro e s0 ⟨rfl, u⟩
  replace n0 := n0.upd u; replace uu0 := uu0.trans u; replace hC0 := u.keep hC0 (by simp); replace hD0 := u.keep hD0 (by simp); clear u hR0
  have k0 := cell_of hC0 0
  have k1 := cell_of hC0 1
  have k2 := cell_of hD0 0
  have k3 := cell_of hD0 1
  have kl := lt_of_block hC0
  have km := lt_of_block hD0
  go_wp2_with fail
  clear k0 k1 k2 k3 kl km
  refine (nids _ _ n0).mono ?_; rintro e wx ⟨rfl, rfl⟩
  go_wp2_with fail
  refine (nlen _ _ n0).mono ?_; rintro e wx ⟨rfl, rfl⟩
  go_wp2_with fail
  refine (ncopy _ _ n0).mono ?_; rintro e wx ⟨rfl, rfl⟩
  clear n0 hC0 hD0
  have c1a := cell_of (uu0.keep HA.out (by simp)) 1
  have l1a := lt_of_block (uu0.keep HA.out (by simp))
  go_wp2_with fail
  rw [rounds_succ]
  clear c1a l1a
  have UP1 := uu0
  have n1 : NoP s0 (some ⟨Z, 0, none⟩) := .inr ⟨Z, rfl, UP1.keep HZ.out (by simp)⟩
  have c1 := cell_of (UP1.keep HA.out (by simp)) 1
  have l1 := lt_of_block (UP1.keep HA.out (by simp))
  go_wp2_with fail
  clear c1 l1
  refine (nclr _ id _ n1).mono ?_; rintro e x1 ⟨rfl, u⟩
  replace n1 := n1.upd u; have uu1 := UP1.trans u; clear u
  go_wp2_with fail
  have hC1 := new_of x1 (.cells #[.int .i64 0, .int .u32 0] 24)
  replace n1 := n1.upd ((Upd.refl _ _).alloc (.cells #[.int .i64 0, .int .u32 0] 24)); replace uu1 := uu1.alloc (.cells #[.int .i64 0, .int .u32 0] 24)
  generalize x1.alloc (.cells #[.int .i64 0, .int .u32 0] 24) = y1 at *
  generalize x1.heap.size = C1 at *
  refine (nof _ id _ n1).mono ?_; rintro e z1 ⟨rfl, u⟩
  replace n1 := n1.upd u; replace uu1 := uu1.trans u; replace hC1 := u.keep hC1 (by simp); clear u
  have hD1 := new_of z1 (.cells #[.int .i64 0, .int .u32 0] 24)
  have ul : Upd [] z1 (z1.alloc (.cells #[.int .i64 0, .int .u32 0] 24)) := (Upd.refl _ _).alloc _
  have hR1 := (uu1.trans ul).keep HR.out (by simp)
  have r0 := cell_of (uu1.keep HR.out (by simp)) 0
  have r1' := cell_of (uu1.keep HR.out (by simp)) 1
  have rl := lt_of_block (uu1.keep HR.out (by simp))
  go_wp2_with fail
  replace n1 := n1.upd ul; replace uu1 := uu1.trans ul; replace hC1 := ul.keep hC1 (by simp); clear ul r0 r1' rl
  generalize z1.alloc (.cells #[.int .i64 0, .int .u32 0] 24) = p1 at *
  generalize z1.heap.size = D1 at *
  refine (nby _ r1 r2 _ n1).mono ?_; rintro e q1 ⟨rfl, u⟩
  replace n1 := n1.upd u; replace uu1 := uu1.trans u; replace hC1 := u.keep hC1 (by simp); replace hD1 := u.keep hD1 (by simp); replace hR1 := u.keep hR1 (by simp); clear u
  have r0 := cell_of hR1 0
  have r1' := cell_of hR1 1
  have rl := lt_of_block hR1
  go_wp2_with fail
  clear r0 r1' rl
  refine (nadd _ id r1 r2 _ n1).mono ?_; rintro e s1 ⟨rfl, u⟩
  replace n1 := n1.upd u; replace uu1 := uu1.trans u; replace hC1 := u.keep hC1 (by simp); replace hD1 := u.keep hD1 (by simp); clear u hR1
  have k0 := cell_of hC1 0
  have k1 := cell_of hC1 1
  have k2 := cell_of hD1 0
  have k3 := cell_of hD1 1
  have kl := lt_of_block hC1
  have km := lt_of_block hD1
  go_wp2_with fail
  clear k0 k1 k2 k3 kl km
  refine (nids _ _ n1).mono ?_; rintro e wx ⟨rfl, rfl⟩
  go_wp2_with fail
  refine (nlen _ _ n1).mono ?_; rintro e wx ⟨rfl, rfl⟩
  go_wp2_with fail
  refine (ncopy _ _ n1).mono ?_; rintro e wx ⟨rfl, rfl⟩
  clear n1 hC1 hD1
  go_wp2_with fail
  rw [rounds_succ]
  go_wp2_with fail
  refine (works_ok _).mono ?_; rintro e w9 ⟨rfl, u9⟩
  go_wp2_with fail
  go_ret
  exact ⟨rfl, (UP.out.trans uu1).trans u9⟩

theorem nil_fr (w : World) (id : Int) (_ : (Lit.int .i64 id).wf = true) (v : Value) (r : Rf) (h : v = .agg #[.int .i64 r.1, .int .u32 r.2] ∧ refWf r) :
    Calls Try.prog 3 #[.int .i64 id, v] w fun e w' => e = .returned (.bool true) ∧ Upd [] w w' := by
  obtain ⟨rfl, -⟩ := h
  exact nil_ok w id r.1 r.2

end Go.Proofs.Ytlndkmejmolnhaa
