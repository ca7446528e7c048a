/-
  Contracts of the package phase: a clock in memory. Conditions: the clock is as New and its own calls leave it.
-/
import Derived.Test.YtldladoccjlojaaRows
import Derived.Test.YtldladoccjlojaaBase
import Derived.Handy
import Derived.Deep.QuietTactic
import Derived.BigQuiet
namespace Go.Proofs.Ytldladoccjlojaa
open Go.RowKit

/-- A clock: its phase, how many mutators, how many cycles, who has answered. -/
structure Ck where
  p : Nat
  n : Nat
  c : Nat
  s : Nat → Bool
def Ck.ok (k : Ck) : Prop := 1 ≤ k.n ∧ k.n ≤ 4 ∧ k.p ≤ 5 ∧ k.c ≤ 1000000 ∧ ∀ i, k.n ≤ i → k.s i = false
def ckc (k : Ck) : Array Value := #[.int .i64 k.p, .int .i64 k.n, .int .i64 k.c, .bool (k.s 0), .bool (k.s 1), .bool (k.s 2), .bool (k.s 3), .bool (decide (0 < k.n)), .bool (decide (1 < k.n)), .bool (decide (2 < k.n)), .bool (decide (3 < k.n))]
def CkAt (w : World) (b : Nat) (k : Ck) : Prop := k.ok ∧ w.heap[b]? = some (.cells (ckc k) 55 (0, 0))
theorem CkAt.upd {w w' : World} {b : Nat} {k : Ck} (h : CkAt w b k) {S : List Nat} (u : Upd S w w') (hb : b ∉ S) : CkAt w' b k := ⟨h.1, u.keep h.2 hb⟩
theorem CkAt.lt {w : World} {b : Nat} {k : Ck} (h : CkAt w b k) : b < w.heap.size := lt_of_block h.2
theorem CkAt.drewN {w : World} {b : Nat} {k : Ck} (h : CkAt w b k) (n : Nat) : CkAt (w.drewN n) b k := h
theorem CkAt.c0 {w : World} {b : Nat} {k : Ck} (h : CkAt w b k) : w.cell? ⟨b, 0, none⟩ = some (.int .i64 k.p) := cell_of h.2 0
theorem CkAt.c1 {w : World} {b : Nat} {k : Ck} (h : CkAt w b k) : w.cell? ⟨b, 1, none⟩ = some (.int .i64 k.n) := cell_of h.2 1
theorem CkAt.c2 {w : World} {b : Nat} {k : Ck} (h : CkAt w b k) : w.cell? ⟨b, 2, none⟩ = some (.int .i64 k.c) := cell_of h.2 2

theorem valid_at (b : Nat) (k : Ck) (w : World) (h : CkAt w b k) : Calls Try.prog 29 #[.pointer (some ⟨b, 0, none⟩)] w fun e w' => e = .returned (.bool true) ∧ w = w' := by
  have c1 := h.c1
  have hn : decide (0 < k.n) = true := by have := h.1.1; simp; omega
  clear h
  go_enter Try.func29, Try.ntmps29
  go_wp2
  go_ret
  exact ⟨rfl, rfl⟩
/-- A phase that is a handshake. -/
def Ck.shakes (k : Ck) : Bool := decide (k.p = 1 ∨ k.p = 2)
theorem shakes_at (b : Nat) (k : Ck) (w : World) (h : CkAt w b k) : Calls Try.prog 30 #[.pointer (some ⟨b, 0, none⟩)] w fun e w' => e = .returned (.bool k.shakes) ∧ w = w' := by
  have c0 := h.c0
  clear h
  by_cases h1 : k.p = 1
  · rw [show k.shakes = true from by simp [Ck.shakes, h1]]
    rw [h1] at c0
    clear h1
    go_enter Try.func30, Try.ntmps30
    go_wp2
    go_ret
    exact ⟨rfl, rfl⟩
  · have hb : ((k.p : Int) == 1) = false := by simpa using (by omega : (k.p : Int) ≠ 1)
    by_cases h2 : k.p = 2
    · rw [show k.shakes = true from by simp [Ck.shakes, h2]]
      rw [h2] at c0
      clear h1 h2 hb
      go_enter Try.func30, Try.ntmps30
      go_wp2
      go_ret
      exact ⟨rfl, rfl⟩
    · rw [show k.shakes = false from by simp [Ck.shakes, h1, h2]]
      have hb2 : ((k.p : Int) == 2) = false := by simpa using (by omega : (k.p : Int) ≠ 2)
      clear h1 h2
      go_enter Try.func30, Try.ntmps30
      go_wp2
      go_ret
      exact ⟨rfl, rfl⟩
def Ck.to (k : Ck) (p : Nat) : Ck := { p := p, n := k.n, c := k.c, s := fun _ => false }
theorem to_at (b : Nat) (k : Ck) (p : Nat) (w : World) (h : CkAt w b k) (hp : p ≤ 5) : Calls Try.prog 31 #[.pointer (some ⟨b, 0, none⟩), .int .i64 p] w fun e w' => e = .returned (.tuple #[]) ∧ CkAt w' b (k.to p) ∧ Upd [b] w w' := by
  have hb := h.2
  have H := Lib.hid h
  clear h
  have c0 : w.cell? ⟨b, 0, none⟩ = some (.int .i64 k.p) := cell_of hb 0
  have c3 : w.cell? ⟨b, 3, none⟩ = some (.bool (k.s 0)) := cell_of hb 3
  have c4 : w.cell? ⟨b, 4, none⟩ = some (.bool (k.s 1)) := cell_of hb 4
  have c5 : w.cell? ⟨b, 5, none⟩ = some (.bool (k.s 2)) := cell_of hb 5
  have c6 : w.cell? ⟨b, 6, none⟩ = some (.bool (k.s 3)) := cell_of hb 6
  have f0 := free_of hb 0
  have f3 := free_of hb 3
  have f4 := free_of hb 4
  have f5 := free_of hb 5
  have f6 := free_of hb 6
  have HB := Lib.hid hb; clear hb
  have hz : ∀ w : World, (zeroValue 53).run Try.prog w = .ok (.agg #[.bool false, .bool false, .bool false, .bool false]) w := fun w => by kernel_rfl
  go_enter Try.func31, Try.ntmps31
  go_wp2
  go_end0
  refine ⟨rfl, ⟨⟨H.out.1.1, H.out.1.2.1, hp, H.out.1.2.2.2.1, fun _ _ => rfl⟩, ?_⟩, (((((Upd.refl [b] w).setCell (by simp) _).setCell (by simp) _).setCell (by simp) _).setCell (by simp) _).setCell (by simp) _⟩
  rw [set_of (set_of (set_of (set_of (set_of HB.out 0 _) 3 _) 4 _) 5 _) 6 _]
  rfl

theorem find_in (b : Nat) (k : Ck) (id : Int) (w : World) (h : CkAt w b k) (h0 : 0 ≤ id) (h1 : id < k.n) : Calls Try.prog 32 #[.pointer (some ⟨b, 0, none⟩), .int .i64 id] w fun e w' => e = .returned (.int .i64 0) ∧ w = w' := by
  have c1 := h.c1
  have H := Lib.hid h; clear h
  go_enter Try.func32, Try.ntmps32
  go_wp2_with (go_at_call 29; refine (valid_at b k _ H.out).mono ?_; rintro e w' ⟨rfl, rfl⟩)
  go_ret
  exact ⟨rfl, rfl⟩
theorem find_beyond (b : Nat) (k : Ck) (id : Int) (w : World) (h : CkAt w b k) (hi : id < 0 ∨ (k.n : Int) ≤ id) : Calls Try.prog 32 #[.pointer (some ⟨b, 0, none⟩), .int .i64 id] w fun e w' => e = .returned (.int .i64 3) ∧ w = w' := by
  have c1 := h.c1
  have H := Lib.hid h; clear h
  rcases hi with hi | hi
  · go_enter Try.func32, Try.ntmps32
    go_wp2_with (go_at_call 29; refine (valid_at b k _ H.out).mono ?_; rintro e w' ⟨rfl, rfl⟩)
    go_ret
    exact ⟨rfl, rfl⟩
  · have h0 : ¬ id < 0 := by omega
    go_enter Try.func32, Try.ntmps32
    go_wp2_with (go_at_call 29; refine (valid_at b k _ H.out).mono ?_; rintro e w' ⟨rfl, rfl⟩)
    go_ret
    exact ⟨rfl, rfl⟩
theorem phase_at (b : Nat) (k : Ck) (w : World) (h : CkAt w b k) : Calls Try.prog 16 #[.pointer (some ⟨b, 0, none⟩)] w fun e w' => e = .returned (.int .i64 k.p) ∧ w = w' := by
  have c0 := h.c0
  have H := Lib.hid h; clear h
  go_enter Try.func16, Try.ntmps16
  go_wp2_with (go_at_call 29; refine (valid_at b k _ H.out).mono ?_; rintro e w' ⟨rfl, rfl⟩)
  go_ret
  exact ⟨rfl, rfl⟩
theorem cycles_at (b : Nat) (k : Ck) (w : World) (h : CkAt w b k) : Calls Try.prog 17 #[.pointer (some ⟨b, 0, none⟩)] w fun e w' => e = .returned (.int .i64 k.c) ∧ w = w' := by
  have c2 := h.c2
  have H := Lib.hid h; clear h
  go_enter Try.func17, Try.ntmps17
  go_wp2_with (go_at_call 29; refine (valid_at b k _ H.out).mono ?_; rintro e w' ⟨rfl, rfl⟩)
  go_ret
  exact ⟨rfl, rfl⟩
theorem CkAt.cs {w : World} {b : Nat} {k : Ck} (h : CkAt w b k) {j : Nat} (hj : j < 4) : w.cell? ⟨b, 3 + j, none⟩ = some (.bool (k.s j)) := by
  have : j = 0 ∨ j = 1 ∨ j = 2 ∨ j = 3 := by omega
  rcases this with rfl | rfl | rfl | rfl
  · exact cell_of h.2 3
  · exact cell_of h.2 4
  · exact cell_of h.2 5
  · exact cell_of h.2 6
theorem seen_in (b : Nat) (k : Ck) (j : Nat) (w : World) (h : CkAt w b k) (hj : j < k.n) : Calls Try.prog 18 #[.pointer (some ⟨b, 0, none⟩), .int .i64 j] w fun e w' => e = .returned (.tuple #[.bool (k.s j), .int .i64 0]) ∧ w = w' := by
  have hj4 : j < 4 := by have := h.1.2.1; omega
  have cj := h.cs hj4
  have H := Lib.hid h; clear h
  go_enter Try.func18, Try.ntmps18
  go_wp2_with (go_at_call 32; refine (find_in b k _ _ H.out (by omega) (by omega)).mono ?_; rintro e w' ⟨rfl, rfl⟩)
  go_ret2
  exact ⟨rfl, rfl⟩
theorem seen_beyond (b : Nat) (k : Ck) (id : Int) (w : World) (h : CkAt w b k) (hi : id < 0 ∨ (k.n : Int) ≤ id) : Calls Try.prog 18 #[.pointer (some ⟨b, 0, none⟩), .int .i64 id] w fun e w' => e = .returned (.tuple #[.bool false, .int .i64 3]) ∧ w = w' := by
  have H := Lib.hid h; clear h
  have HI := Lib.hid hi; clear hi
  go_enter Try.func18, Try.ntmps18
  go_wp2_with (go_at_call 32; refine (find_beyond b k _ _ H.out HI.out).mono ?_; rintro e w' ⟨rfl, rfl⟩)
  go_ret2
  exact ⟨rfl, rfl⟩

def Ck.ack (k : Ck) (j : Nat) : Ck := { p := k.p, n := k.n, c := k.c, s := fun i => if i = j then true else k.s i }
theorem ack_cells (k : Ck) {j : Nat} (hj : j < 4) : (ckc k).setIfInBounds (3 + j) (.bool true) = ckc (k.ack j) := by
  have : j = 0 ∨ j = 1 ∨ j = 2 ∨ j = 3 := by omega
  rcases this with rfl | rfl | rfl | rfl <;> simp [ckc, Ck.ack]
theorem ack_in (b : Nat) (k : Ck) (j : Nat) (w : World) (h : CkAt w b k) (hj : j < k.n) (hs : k.shakes = true) : Calls Try.prog 15 #[.pointer (some ⟨b, 0, none⟩), .int .i64 j] w fun e w' => e = .returned (.tuple #[.bool (!k.s j), .int .i64 0]) ∧ CkAt w' b (k.ack j) ∧ Upd [b] w w' := by
  have hj4 : j < 4 := by have := h.1.2.1; omega
  have cj := h.cs hj4
  have fj : w.frozen? ⟨b, 3 + j, none⟩ = false := free_of h.2 (3 + j)
  have H := Lib.hid h; clear h
  have HS := Lib.hid hs; clear hs
  go_enter Try.func15, Try.ntmps15
  go_wp2_with (first | (go_at_call 32; refine (find_in b k _ _ H.out (by omega) (by omega)).mono ?_; rintro e w' ⟨rfl, rfl⟩) | (go_at_call 30; refine (shakes_at b k _ H.out).mono ?_; rw [HS.out]; rintro e w' ⟨rfl, rfl⟩))
  go_ret2
  refine ⟨rfl, ⟨⟨H.out.1.1, H.out.1.2.1, H.out.1.2.2.1, H.out.1.2.2.2.1, fun i hi => ?_⟩, ?_⟩, (Upd.refl [b] w).setCell (by simp) _⟩
  · show (if i = j then true else k.s i) = false
    rw [if_neg (by simp [Ck.ack] at hi; omega)]
    exact H.out.1.2.2.2.2 i hi
  · rw [set_of H.out.2 (3 + j), ack_cells k hj4]
theorem ack_not (b : Nat) (k : Ck) (j : Nat) (w : World) (h : CkAt w b k) (hj : j < k.n) (hs : k.shakes = false) : Calls Try.prog 15 #[.pointer (some ⟨b, 0, none⟩), .int .i64 j] w fun e w' => e = .returned (.tuple #[.bool false, .int .i64 8]) ∧ w = w' := by
  have H := Lib.hid h; clear h
  have HS := Lib.hid hs; clear hs
  go_enter Try.func15, Try.ntmps15
  go_wp2_with (first | (go_at_call 32; refine (find_in b k _ _ H.out (by omega) (by omega)).mono ?_; rintro e w' ⟨rfl, rfl⟩) | (go_at_call 30; refine (shakes_at b k _ H.out).mono ?_; rw [HS.out]; rintro e w' ⟨rfl, rfl⟩))
  go_ret2
  exact ⟨rfl, rfl⟩
theorem ack_beyond (b : Nat) (k : Ck) (id : Int) (w : World) (h : CkAt w b k) (hi : id < 0 ∨ (k.n : Int) ≤ id) : Calls Try.prog 15 #[.pointer (some ⟨b, 0, none⟩), .int .i64 id] w fun e w' => e = .returned (.tuple #[.bool false, .int .i64 3]) ∧ w = w' := by
  have H := Lib.hid h; clear h
  have HI := Lib.hid hi; clear hi
  go_enter Try.func15, Try.ntmps15
  go_wp2_with (go_at_call 32; refine (find_beyond b k _ _ H.out HI.out).mono ?_; rintro e w' ⟨rfl, rfl⟩)
  go_ret2
  exact ⟨rfl, rfl⟩
theorem begin_idle (b : Nat) (k : Ck) (w : World) (h : CkAt w b k) (hp : k.p = 0) : Calls Try.prog 13 #[.pointer (some ⟨b, 0, none⟩)] w fun e w' => e = .returned (.int .i64 0) ∧ CkAt w' b (k.to 1) ∧ Upd [b] w w' := by
  have c0 := h.c0
  rw [hp] at c0
  clear hp
  have H := Lib.hid h; clear h
  go_enter Try.func13, Try.ntmps13
  go_wp2_with (first | (go_at_call 29; refine (valid_at b k _ H.out).mono ?_; rintro e w' ⟨rfl, rfl⟩) | (go_at_call 31; refine (to_at b k 1 _ H.out (by omega)).mono ?_; rintro e w' ⟨rfl, a, u⟩))
  go_ret
  exact ⟨rfl, a, u⟩
theorem begin_not (b : Nat) (k : Ck) (w : World) (h : CkAt w b k) (hp : k.p ≠ 0) : Calls Try.prog 13 #[.pointer (some ⟨b, 0, none⟩)] w fun e w' => e = .returned (.int .i64 8) ∧ w = w' := by
  have c0 := h.c0
  have hb : ((k.p : Int) != 0) = true := by simpa using hp
  clear hp
  have H := Lib.hid h; clear h
  go_enter Try.func13, Try.ntmps13
  go_wp2_with (go_at_call 29; refine (valid_at b k _ H.out).mono ?_; rintro e w' ⟨rfl, rfl⟩)
  go_ret
  exact ⟨rfl, rfl⟩
/-- Whether a mutator's barrier is on. -/
def Ck.bar (k : Ck) (j : Nat) : Bool := if k.p = 1 then k.s j else decide (k.p = 2 ∨ k.p = 3)
theorem barrier_beyond (b : Nat) (k : Ck) (id : Int) (w : World) (h : CkAt w b k) (hi : id < 0 ∨ (k.n : Int) ≤ id) : Calls Try.prog 20 #[.pointer (some ⟨b, 0, none⟩), .int .i64 id] w fun e w' => e = .returned (.bool false) ∧ w = w' := by
  have H := Lib.hid h; clear h
  have HI := Lib.hid hi; clear hi
  go_enter Try.func20, Try.ntmps20
  go_wp2_with (go_at_call 32; refine (find_beyond b k _ _ H.out HI.out).mono ?_; rintro e w' ⟨rfl, rfl⟩)
  go_ret
  exact ⟨rfl, rfl⟩
theorem barrier_in (b : Nat) (k : Ck) (j : Nat) (w : World) (h : CkAt w b k) (hj : j < k.n) : Calls Try.prog 20 #[.pointer (some ⟨b, 0, none⟩), .int .i64 j] w fun e w' => e = .returned (.bool (k.bar j)) ∧ w = w' := by
  have hj4 : j < 4 := by have := h.1.2.1; omega
  have cj := h.cs hj4
  have c0 := h.c0
  have hp : k.p = 0 ∨ k.p = 1 ∨ k.p = 2 ∨ k.p = 3 ∨ k.p = 4 ∨ k.p = 5 := by have := h.1.2.2.1; omega
  have H := Lib.hid h; clear h
  rcases hp with hp | hp | hp | hp | hp | hp
  · have e : k.bar j = false := by simp [Ck.bar, hp]
    rw [hp] at c0
    rw [e]
    clear hp e
    go_enter Try.func20, Try.ntmps20
    go_wp2_with (go_at_call 32; refine (find_in b k _ _ H.out (by omega) (by omega)).mono ?_; rintro e w' ⟨rfl, rfl⟩)
    go_ret
    exact ⟨rfl, rfl⟩
  · have e : k.bar j = k.s j := by simp [Ck.bar, hp]
    rw [hp] at c0
    rw [e]
    clear hp e
    go_enter Try.func20, Try.ntmps20
    go_wp2_with (go_at_call 32; refine (find_in b k _ _ H.out (by omega) (by omega)).mono ?_; rintro e w' ⟨rfl, rfl⟩)
    go_ret
    exact ⟨rfl, rfl⟩
  · have e : k.bar j = true := by simp [Ck.bar, hp]
    rw [hp] at c0
    rw [e]
    clear hp e
    go_enter Try.func20, Try.ntmps20
    go_wp2_with (go_at_call 32; refine (find_in b k _ _ H.out (by omega) (by omega)).mono ?_; rintro e w' ⟨rfl, rfl⟩)
    go_ret
    exact ⟨rfl, rfl⟩
  · have e : k.bar j = true := by simp [Ck.bar, hp]
    rw [hp] at c0
    rw [e]
    clear hp e
    go_enter Try.func20, Try.ntmps20
    go_wp2_with (go_at_call 32; refine (find_in b k _ _ H.out (by omega) (by omega)).mono ?_; rintro e w' ⟨rfl, rfl⟩)
    go_ret
    exact ⟨rfl, rfl⟩
  · have e : k.bar j = false := by simp [Ck.bar, hp]
    rw [hp] at c0
    rw [e]
    clear hp e
    go_enter Try.func20, Try.ntmps20
    go_wp2_with (go_at_call 32; refine (find_in b k _ _ H.out (by omega) (by omega)).mono ?_; rintro e w' ⟨rfl, rfl⟩)
    go_ret
    exact ⟨rfl, rfl⟩
  · have e : k.bar j = false := by simp [Ck.bar, hp]
    rw [hp] at c0
    rw [e]
    clear hp e
    go_enter Try.func20, Try.ntmps20
    go_wp2_with (go_at_call 32; refine (find_in b k _ _ H.out (by omega) (by omega)).mono ?_; rintro e w' ⟨rfl, rfl⟩)
    go_ret
    exact ⟨rfl, rfl⟩

theorem valid_q {b : Nat} {k : Ck} {w : World} {n : Nat} (h : CkAt w b k) : Calls Try.prog 29 #[.pointer (some ⟨b, 0, none⟩)] (w.drewN n) fun x w'' => x = .returned (.bool true) ∧ ∃ i, w'' = w.drewN i :=
  (valid_at b k _ (h.drewN n)).mono fun _ _ ⟨h1, h2⟩ => ⟨h1, n, h2.symm⟩
theorem shakes_q {b : Nat} {k : Ck} {w : World} {n : Nat} {v : Bool} (h : CkAt w b k) (hv : k.shakes = v) : Calls Try.prog 30 #[.pointer (some ⟨b, 0, none⟩)] (w.drewN n) fun x w'' => x = .returned (.bool v) ∧ ∃ i, w'' = w.drewN i := by
  subst hv
  exact (shakes_at b k _ (h.drewN n)).mono fun _ _ ⟨h1, h2⟩ => ⟨h1, n, h2.symm⟩
theorem ready_not (b : Nat) (k : Ck) (w : World) (h : CkAt w b k) (hs : k.shakes = false) : Calls Try.prog 12 #[.pointer (some ⟨b, 0, none⟩)] w fun e w' => e = .returned (.bool false) ∧ Upd [] w w' := by
  have H := Lib.hid h; clear h
  have HS := Lib.hid hs; clear hs
  go_enter Try.func12, Try.ntmps12
  go_wp2_with fail
  go_quiet (first | (go_at_call 29; exact valid_q H.out) | (go_at_call 30; exact shakes_q H.out HS.out))
  go_wp2
  go_ret
  exact ⟨rfl, (Upd.refl _ _).drewN _⟩
theorem eql53 (a0 a1 a2 a3 b0 b1 b2 b3 : Bool) (w : World) : (binOp .eql 53 (.agg #[.bool a0, .bool a1, .bool a2, .bool a3]) (.agg #[.bool b0, .bool b1, .bool b2, .bool b3])).run Try.prog w = .ok (.bool ((a0 == b0) && (a1 == b1) && (a2 == b2) && (a3 == b3))) w := by
  cases a0 <;> cases b0 <;> cases a1 <;> cases b1 <;> cases a2 <;> cases b2 <;> cases a3 <;> cases b3 <;> kernel_rfl
/-- All mutators have answered. -/
def Ck.rd (k : Ck) : Bool := (k.s 0 == decide (0 < k.n)) && (k.s 1 == decide (1 < k.n)) && (k.s 2 == decide (2 < k.n)) && (k.s 3 == decide (3 < k.n))
theorem ready_shakes (b : Nat) (k : Ck) (v : Bool) (w : World) (h : CkAt w b k) (hs : k.shakes = true) (hv : k.rd = v) : Calls Try.prog 12 #[.pointer (some ⟨b, 0, none⟩)] w fun e w' => e = .returned (.bool v) ∧ Upd [] w w' := by
  have hq : ∀ w : World, (binOp .eql 53 (.agg #[.bool (k.s 0), .bool (k.s 1), .bool (k.s 2), .bool (k.s 3)]) (.agg #[.bool (decide (0 < k.n)), .bool (decide (1 < k.n)), .bool (decide (2 < k.n)), .bool (decide (3 < k.n))])).run Try.prog w = .ok (.bool v) w := fun w => by
    rw [eql53, ← hv]; rfl
  clear hv
  have c3 : w.cell? ⟨b, 3, none⟩ = some (.bool (k.s 0)) := h.cs (j := 0) (by omega)
  have c4 : w.cell? ⟨b, 4, none⟩ = some (.bool (k.s 1)) := h.cs (j := 1) (by omega)
  have c5 : w.cell? ⟨b, 5, none⟩ = some (.bool (k.s 2)) := h.cs (j := 2) (by omega)
  have c6 : w.cell? ⟨b, 6, none⟩ = some (.bool (k.s 3)) := h.cs (j := 3) (by omega)
  have c7 : w.cell? ⟨b, 7, none⟩ = some (.bool (decide (0 < k.n))) := cell_of h.2 7
  have c8 : w.cell? ⟨b, 8, none⟩ = some (.bool (decide (1 < k.n))) := cell_of h.2 8
  have c9 : w.cell? ⟨b, 9, none⟩ = some (.bool (decide (2 < k.n))) := cell_of h.2 9
  have c10 : w.cell? ⟨b, 10, none⟩ = some (.bool (decide (3 < k.n))) := cell_of h.2 10
  have H := Lib.hid h; clear h
  have HS := Lib.hid hs; clear hs
  generalize k.s 0 = a0 at *
  generalize k.s 1 = a1 at *
  generalize k.s 2 = a2 at *
  generalize k.s 3 = a3 at *
  generalize decide (0 < k.n) = d0 at *
  generalize decide (1 < k.n) = d1 at *
  generalize decide (2 < k.n) = d2 at *
  generalize decide (3 < k.n) = d3 at *
  go_enter Try.func12, Try.ntmps12
  go_wp2_with fail
  go_quiet (first | (go_at_call 29; exact valid_q H.out) | (go_at_call 30; exact shakes_q H.out HS.out))
  go_wp2
  go_ret
  exact ⟨rfl, (Upd.refl _ _).drewN _⟩

end Go.Proofs.Ytldladoccjlojaa
