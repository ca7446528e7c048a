/-
  Contracts of the package phase: Go, New, Copy. Conditions: the clock is as New and its own calls leave it.
-/
import Derived.Test.YtldladoccjlojaaClk
import Derived.Laws.Rows
namespace Go.Proofs.Ytldladoccjlojaa
open Go.RowKit

theorem go_idle (b : Nat) (k : Ck) (w : World) (h : CkAt w b k) (hp : k.p = 0) : Calls Try.prog 14 #[.pointer (some ⟨b, 0, none⟩)] w fun e w' => e = .returned (.int .i64 8) ∧ w = w' := by
  have c0 := h.c0
  rw [hp] at c0
  clear hp
  have H := Lib.hid h; clear h
  go_enter Try.func14, Try.ntmps14
  go_wp2_with (go_at_call 29; refine (valid_at b k _ H.out).mono ?_; rintro e w' ⟨rfl, rfl⟩)
  go_ret
  exact ⟨rfl, rfl⟩
theorem go_busy (b : Nat) (k : Ck) (w : World) (h : CkAt w b k) (hs : k.shakes = true) (hr : k.rd = false) : Calls Try.prog 14 #[.pointer (some ⟨b, 0, none⟩)] w fun e w' => e = .returned (.int .i64 13) ∧ Upd [] w w' := by
  have c0 := h.c0
  have hp : ((k.p : Int) == 0) = false := by
    have : k.p = 1 ∨ k.p = 2 := by simpa [Ck.shakes] using hs
    simp; omega
  have H := Lib.hid h; clear h
  have HS := Lib.hid hs; clear hs
  have HR := Lib.hid hr; clear hr
  go_enter Try.func14, Try.ntmps14
  go_wp2_with (first | (go_at_call 29; refine (valid_at b k _ H.out).mono ?_; rintro e w' ⟨rfl, rfl⟩) | (go_at_call 30; refine (shakes_at b k _ H.out).mono ?_; rw [HS.out]; rintro e w' ⟨rfl, rfl⟩) | (go_at_call 12; refine (ready_shakes b k false _ H.out HS.out HR.out).mono ?_; rintro e w' ⟨rfl, u⟩))
  go_ret
  exact ⟨rfl, u⟩
/-- What Go makes of a clock. -/
def Ck.next (k : Ck) : Ck := { p := (k.p + 1) % 6, n := k.n, c := if k.p = 5 then k.c + 1 else k.c, s := fun _ => false }
theorem inc_at {w : World} {b p n c : Nat} {s : Nat → Bool} (h : CkAt w b ⟨p, n, c, s⟩) (hc : c < 1000000) : CkAt (w.setCell ⟨b, 2, none⟩ (.int .i64 ((c : Int) + 1))) b ⟨p, n, c + 1, s⟩ :=
  ⟨⟨h.1.1, h.1.2.1, h.1.2.2.1, hc, h.1.2.2.2.2⟩, by rw [set_of h.2 2]; rfl⟩
theorem go_next (b : Nat) (k : Ck) (w : World) (h : CkAt w b k) (hp : k.p ≠ 0) (hs : k.shakes = false ∨ k.rd = true) (hc : k.c < 1000000) : Calls Try.prog 14 #[.pointer (some ⟨b, 0, none⟩)] w fun e w' => e = .returned (.int .i64 0) ∧ CkAt w' b k.next ∧ Upd [b] w w' := by
  have hp5 : k.p = 1 ∨ k.p = 2 ∨ k.p = 3 ∨ k.p = 4 ∨ k.p = 5 := by have := h.1.2.2.1; omega
  have hlb := h.lt
  obtain ⟨p, n, c, s⟩ := k
  rcases hp5 with rfl | rfl | rfl | rfl | rfl
  · have hR : (Ck.mk 1 n c s).rd = true := by
      rcases hs with h | h
      · exact absurd h (by simp [Ck.shakes])
      · exact h
    have hS : (Ck.mk 1 n c s).shakes = true := by simp [Ck.shakes]
    have c0 : w.cell? ⟨b, 0, none⟩ = some (.int .i64 1) := h.c0
    have H := Lib.hid h; have HS := Lib.hid hS; have HR := Lib.hid hR
    clear h hS hR hp hs
    go_enter Try.func14, Try.ntmps14
    go_wp2_with (first | (go_at_call 29; refine (valid_at b _ _ H.out).mono ?_; rintro e w' ⟨rfl, rfl⟩) | (go_at_call 30; refine (shakes_at b _ _ H.out).mono ?_; rw [HS.out]; rintro e w' ⟨rfl, rfl⟩) | (go_at_call 12; refine (ready_shakes b _ true _ H.out HS.out HR.out).mono ?_; rintro e w' ⟨rfl, u⟩; have H2 := Lib.hid (H.out.upd u (by simp)); have c0' : w'.cell? ⟨b, 0, none⟩ = some (.int .i64 1) := H2.out.c0) | (go_at_call 31; refine (to_at b _ 2 _ H2.out (by omega)).mono ?_; rintro e w'' ⟨rfl, a, u'⟩))
    go_ret
    exact ⟨rfl, a, u.nil.trans u'⟩
  · have hR : (Ck.mk 2 n c s).rd = true := by
      rcases hs with h | h
      · exact absurd h (by simp [Ck.shakes])
      · exact h
    have hS : (Ck.mk 2 n c s).shakes = true := by simp [Ck.shakes]
    have c0 : w.cell? ⟨b, 0, none⟩ = some (.int .i64 2) := h.c0
    have H := Lib.hid h; have HS := Lib.hid hS; have HR := Lib.hid hR
    clear h hS hR hp hs
    go_enter Try.func14, Try.ntmps14
    go_wp2_with (first | (go_at_call 29; refine (valid_at b _ _ H.out).mono ?_; rintro e w' ⟨rfl, rfl⟩) | (go_at_call 30; refine (shakes_at b _ _ H.out).mono ?_; rw [HS.out]; rintro e w' ⟨rfl, rfl⟩) | (go_at_call 12; refine (ready_shakes b _ true _ H.out HS.out HR.out).mono ?_; rintro e w' ⟨rfl, u⟩; have H2 := Lib.hid (H.out.upd u (by simp)); have c0' : w'.cell? ⟨b, 0, none⟩ = some (.int .i64 2) := H2.out.c0) | (go_at_call 31; refine (to_at b _ 3 _ H2.out (by omega)).mono ?_; rintro e w'' ⟨rfl, a, u'⟩))
    go_ret
    exact ⟨rfl, a, u.nil.trans u'⟩
  · have hS : (Ck.mk 3 n c s).shakes = false := by simp [Ck.shakes]
    have c0 : w.cell? ⟨b, 0, none⟩ = some (.int .i64 3) := h.c0
    have H := Lib.hid h; have HS := Lib.hid hS
    clear h hS hp hs
    go_enter Try.func14, Try.ntmps14
    go_wp2_with (first | (go_at_call 29; refine (valid_at b _ _ H.out).mono ?_; rintro e w' ⟨rfl, rfl⟩) | (go_at_call 30; refine (shakes_at b _ _ H.out).mono ?_; rw [HS.out]; rintro e w' ⟨rfl, rfl⟩) | (go_at_call 31; refine (to_at b _ 4 _ H.out (by omega)).mono ?_; rintro e w' ⟨rfl, a, u⟩))
    go_ret
    exact ⟨rfl, a, u⟩
  · have hS : (Ck.mk 4 n c s).shakes = false := by simp [Ck.shakes]
    have c0 : w.cell? ⟨b, 0, none⟩ = some (.int .i64 4) := h.c0
    have H := Lib.hid h; have HS := Lib.hid hS
    clear h hS hp hs
    go_enter Try.func14, Try.ntmps14
    go_wp2_with (first | (go_at_call 29; refine (valid_at b _ _ H.out).mono ?_; rintro e w' ⟨rfl, rfl⟩) | (go_at_call 30; refine (shakes_at b _ _ H.out).mono ?_; rw [HS.out]; rintro e w' ⟨rfl, rfl⟩) | (go_at_call 31; refine (to_at b _ 5 _ H.out (by omega)).mono ?_; rintro e w' ⟨rfl, a, u⟩))
    go_ret
    exact ⟨rfl, a, u⟩
  · have hS : (Ck.mk 5 n c s).shakes = false := by simp [Ck.shakes]
    have c0 : w.cell? ⟨b, 0, none⟩ = some (.int .i64 5) := h.c0
    have c2 : w.cell? ⟨b, 2, none⟩ = some (.int .i64 c) := h.c2
    have f2 : w.frozen? ⟨b, 2, none⟩ = false := free_of h.2 2
    have hc' : c < 1000000 := hc
    have H := Lib.hid h; have HS := Lib.hid hS
    clear h hS hp hs hc
    go_enter Try.func14, Try.ntmps14
    go_wp2_with (first | (go_at_call 29; refine (valid_at b _ _ H.out).mono ?_; rintro e w' ⟨rfl, rfl⟩) | (go_at_call 30; refine (shakes_at b _ _ H.out).mono ?_; rw [HS.out]; rintro e w' ⟨rfl, rfl⟩) | (go_at_call 31; refine (to_at b _ 0 _ (inc_at H.out hc') (by omega)).mono ?_; rintro e w' ⟨rfl, a, u⟩))
    go_ret
    refine ⟨rfl, ?_, ((Upd.refl [b] w).setCell (by simp) _).trans u⟩
    rw [show (Ck.mk 5 n c s).next = (Ck.mk 5 n (c + 1) s).to 0 from by simp [Ck.next, Ck.to]]
    exact a

theorem copy_at (b : Nat) (k : Ck) (w : World) (h : CkAt w b k) : Calls Try.prog 26 #[.pointer (some ⟨b, 0, none⟩)] w fun e w' => e = .returned (.pointer (some ⟨w.heap.size, 0, none⟩)) ∧ CkAt w' w.heap.size k ∧ Upd [] w w' := by
  have hlb := h.lt
  have c0 : w.cell? ⟨b, 0, none⟩ = some (.int .i64 k.p) := cell_of h.2 0
  have c1 : w.cell? ⟨b, 1, none⟩ = some (.int .i64 k.n) := cell_of h.2 1
  have c2 : w.cell? ⟨b, 2, none⟩ = some (.int .i64 k.c) := cell_of h.2 2
  have c3 : w.cell? ⟨b, 3, none⟩ = some (.bool (k.s 0)) := cell_of h.2 3
  have c4 : w.cell? ⟨b, 4, none⟩ = some (.bool (k.s 1)) := cell_of h.2 4
  have c5 : w.cell? ⟨b, 5, none⟩ = some (.bool (k.s 2)) := cell_of h.2 5
  have c6 : w.cell? ⟨b, 6, none⟩ = some (.bool (k.s 3)) := cell_of h.2 6
  have c7 : w.cell? ⟨b, 7, none⟩ = some (.bool (decide (0 < k.n))) := cell_of h.2 7
  have c8 : w.cell? ⟨b, 8, none⟩ = some (.bool (decide (1 < k.n))) := cell_of h.2 8
  have c9 : w.cell? ⟨b, 9, none⟩ = some (.bool (decide (2 < k.n))) := cell_of h.2 9
  have c10 : w.cell? ⟨b, 10, none⟩ = some (.bool (decide (3 < k.n))) := cell_of h.2 10
  have H := Lib.hid h; clear h
  generalize hd0 : decide (0 < k.n) = d0 at c7
  generalize hd1 : decide (1 < k.n) = d1 at c8
  generalize hd2 : decide (2 < k.n) = d2 at c9
  generalize hd3 : decide (3 < k.n) = d3 at c10
  have D0 := Lib.hid hd0; have D1 := Lib.hid hd1; have D2 := Lib.hid hd2; have D3 := Lib.hid hd3
  clear hd0 hd1 hd2 hd3
  go_enter Try.func26, Try.ntmps26
  go_wp2_with (go_at_call 29; refine (valid_at b _ _ H.out).mono ?_; rintro e w' ⟨rfl, rfl⟩)
  go_ret
  refine ⟨rfl, ⟨H.out.1, ?_⟩, (Upd.refl _ _).alloc _⟩
  unfold ckc
  rw [D0.out, D1.out, D2.out, D3.out]
  exact new_of _ _

theorem new_err (n : Int) (w : World) (h : n < 1 ∨ 4 < n) : Calls Try.prog 21 #[.int .i64 n] w fun e w' => e = .returned (.tuple #[.pointer none, .int .i64 2]) ∧ w = w' := by
  rcases h with h | h
  · go_enter Try.func21, Try.ntmps21
    go_wp2
    go_ret2
    exact ⟨rfl, rfl⟩
  · have h0 : ¬ n < 1 := by omega
    go_enter Try.func21, Try.ntmps21
    go_wp2
    go_ret2
    exact ⟨rfl, rfl⟩
/-- A new clock. -/
def ckNew (n : Nat) : Ck := ⟨0, n, 0, fun _ => false⟩
theorem new_at (n : Nat) (w : World) (h1 : 1 ≤ n) (h4 : n ≤ 4) : Calls Try.prog 21 #[.int .i64 n] w fun e w' => e = .returned (.tuple #[.pointer (some ⟨w.heap.size, 0, none⟩), .int .i64 0]) ∧ CkAt w' w.heap.size (ckNew n) ∧ Upd [] w w' := by
  have hn : n = 1 ∨ n = 2 ∨ n = 3 ∨ n = 4 := by omega
  clear h1 h4
  rcases hn with rfl | rfl | rfl | rfl
  · go_enter Try.func21, Try.ntmps21
    go_wp2
    refine wp_loop_rounds 2 ?_
    rw [rounds_succ]
    go_wp2
    rw [rounds_succ]
    go_wp2
    go_ret2
    exact ⟨rfl, ⟨⟨by simp [ckNew], by simp [ckNew], by simp [ckNew], by simp [ckNew], fun _ _ => rfl⟩, new_of _ _⟩, (Upd.refl _ _).alloc _⟩
  · go_enter Try.func21, Try.ntmps21
    go_wp2
    refine wp_loop_rounds 3 ?_
    rw [rounds_succ]
    go_wp2
    rw [rounds_succ]
    go_wp2
    rw [rounds_succ]
    go_wp2
    go_ret2
    exact ⟨rfl, ⟨⟨by simp [ckNew], by simp [ckNew], by simp [ckNew], by simp [ckNew], fun _ _ => rfl⟩, new_of _ _⟩, (Upd.refl _ _).alloc _⟩
  · go_enter Try.func21, Try.ntmps21
    go_wp2
    refine wp_loop_rounds 4 ?_
    rw [rounds_succ]
    go_wp2
    rw [rounds_succ]
    go_wp2
    rw [rounds_succ]
    go_wp2
    rw [rounds_succ]
    go_wp2
    go_ret2
    exact ⟨rfl, ⟨⟨by simp [ckNew], by simp [ckNew], by simp [ckNew], by simp [ckNew], fun _ _ => rfl⟩, new_of _ _⟩, (Upd.refl _ _).alloc _⟩
  · go_enter Try.func21, Try.ntmps21
    go_wp2
    refine wp_loop_rounds 5 ?_
    rw [rounds_succ]
    go_wp2
    rw [rounds_succ]
    go_wp2
    rw [rounds_succ]
    go_wp2
    rw [rounds_succ]
    go_wp2
    rw [rounds_succ]
    go_wp2
    go_ret2
    exact ⟨rfl, ⟨⟨by simp [ckNew], by simp [ckNew], by simp [ckNew], by simp [ckNew], fun _ _ => rfl⟩, new_of _ _⟩, (Upd.refl _ _).alloc _⟩

end Go.Proofs.Ytldladoccjlojaa
