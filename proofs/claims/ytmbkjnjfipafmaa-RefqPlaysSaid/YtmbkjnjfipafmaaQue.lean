/-
  Contracts of the package queue: a queue in memory, what reads it. Conditions: the queue is as New and its own calls leave it.
-/
import Derived.Test.YtmbkjnjfipafmaaRows
import Derived.Test.YtmbkjnjfipafmaaRow
import Derived.Handy
import Derived.IntWalk
namespace Go.Proofs.Ytmbkjnjfipafmaa
open Go.RowKit

/-- A queue: its size, its ids in order. -/
structure Qu where
  size : Nat
  l : List Int
def Qu.ok (q : Qu) : Prop := 1 ≤ q.size ∧ q.size ≤ 64 ∧ q.l.length ≤ q.size ∧ ∀ x ∈ q.l, 0 ≤ x ∧ x < 256
/-- The cells of a queue. -/
def qf (size first n : Nat) (ring : Nat → Int) (i : Nat) : Value :=
  if i = 0 then .int .i64 size else if i = 1 then .int .i64 first else if i = 2 then .int .i64 n else .int .i64 (ring (i - 3))
theorem qf_ring (size first n : Nat) (ring : Nat → Int) (i : Nat) : qf size first n ring (3 + i) = .int .i64 (ring i) := by
  unfold qf
  rw [if_neg (by omega), if_neg (by omega), if_neg (by omega), Nat.add_sub_cancel_left]
structure QIn (w : World) (b : Nat) (q : Qu) (first : Nat) (ring : Nat → Int) : Prop where
  ok : q.ok
  hf : first < q.size
  row : VRow w b 108 67 (qf q.size first q.l.length ring)
  rd : ∀ i x, q.l[i]? = some x → ring ((first + i) % q.size) = x
/-- Block b is the queue q. -/
def QAt (w : World) (b : Nat) (q : Qu) : Prop := ∃ first ring, QIn w b q first ring
theorem QIn.upd {w w' : World} {b first : Nat} {q : Qu} {ring : Nat → Int} (h : QIn w b q first ring) {S : List Nat} (u : Upd S w w') (hn : b ∉ S) : QIn w' b q first ring :=
  ⟨h.ok, h.hf, h.row.upd u hn, h.rd⟩
theorem QAt.upd {w w' : World} {b : Nat} {q : Qu} (h : QAt w b q) {S : List Nat} (u : Upd S w w') (hn : b ∉ S) : QAt w' b q := by
  obtain ⟨f, r, h⟩ := h; exact ⟨f, r, h.upd u hn⟩
theorem QIn.lt {w : World} {b first : Nat} {q : Qu} {ring : Nat → Int} (h : QIn w b q first ring) : b < w.heap.size := h.row.lt
theorem QAt.lt {w : World} {b : Nat} {q : Qu} (h : QAt w b q) : b < w.heap.size := by
  obtain ⟨f, r, h⟩ := h; exact h.lt
theorem QAt.ok {w : World} {b : Nat} {q : Qu} (h : QAt w b q) : q.ok := by
  obtain ⟨f, r, h⟩ := h; exact h.ok
theorem QIn.c0 {w : World} {b first : Nat} {q : Qu} {ring : Nat → Int} (h : QIn w b q first ring) : w.cell? ⟨b, 0, none⟩ = some (.int .i64 q.size) := h.row.cell (i := 0) (by omega)
theorem QIn.c1 {w : World} {b first : Nat} {q : Qu} {ring : Nat → Int} (h : QIn w b q first ring) : w.cell? ⟨b, 1, none⟩ = some (.int .i64 first) := h.row.cell (i := 1) (by omega)
theorem QIn.c2 {w : World} {b first : Nat} {q : Qu} {ring : Nat → Int} (h : QIn w b q first ring) : w.cell? ⟨b, 2, none⟩ = some (.int .i64 q.l.length) := h.row.cell (i := 2) (by omega)
theorem QIn.cr {w : World} {b first : Nat} {q : Qu} {ring : Nat → Int} (h : QIn w b q first ring) {i : Nat} (hi : i < 64) : w.cell? ⟨b, 3 + i, none⟩ = some (.int .i64 (ring i)) := by
  rw [← qf_ring q.size first q.l.length ring i]; exact h.row.cell (by omega)
theorem QIn.cl {w : World} {b first : Nat} {q : Qu} {ring : Nat → Int} (h : QIn w b q first ring) {i : Nat} (hi : i < q.l.length) : w.cell? ⟨b, 3 + (first + i) % q.size, none⟩ = some (.int .i64 q.l[i]) := by
  have h1 := h.ok
  have h2 : (first + i) % q.size < q.size := Nat.mod_lt _ h1.1
  have h3 := h1.2.1
  rw [h.cr (by omega), h.rd i _ (List.getElem?_eq_getElem hi)]
theorem QIn.drewN {w : World} {b first : Nat} {q : Qu} {ring : Nat → Int} (h : QIn w b q first ring) (n : Nat) : QIn (w.drewN n) b q first ring := ⟨h.ok, h.hf, h.row, h.rd⟩
theorem QIn.drew {w : World} {b first : Nat} {q : Qu} {ring : Nat → Int} (h : QIn w b q first ring) : QIn w.drew b q first ring := ⟨h.ok, h.hf, h.row, h.rd⟩

theorem qvalid_at (b : Nat) (n : Int) (w : World) (h : w.cell? ⟨b, 0, none⟩ = some (.int .i64 n)) (hn : 0 < n) : Calls Try.prog 68 #[.pointer (some ⟨b, 0, none⟩)] w fun e w' => e = .returned (.bool true) ∧ w = w' := by
  go_enter Try.func68, Try.ntmps68
  go_wp2
  go_ret
  exact ⟨rfl, rfl⟩
theorem QIn.valid {w : World} {b first : Nat} {q : Qu} {ring : Nat → Int} (h : QIn w b q first ring) : Calls Try.prog 68 #[.pointer (some ⟨b, 0, none⟩)] w fun e w' => e = .returned (.bool true) ∧ w = w' :=
  qvalid_at b _ w h.c0 (by have := h.ok.1; omega)
theorem qat_at (b first i size : Nat) (w : World) (c0 : w.cell? ⟨b, 0, none⟩ = some (.int .i64 size)) (c1 : w.cell? ⟨b, 1, none⟩ = some (.int .i64 first)) (h0 : 1 ≤ size) (h1 : size ≤ 64) (h2 : first ≤ 64) (h3 : i ≤ 64) :
    Calls Try.prog 70 #[.pointer (some ⟨b, 0, none⟩), .int .i64 i] w fun e w' => e = .returned (.int .i64 ((first + i) % size : Nat)) ∧ ∃ n, w' = w.drewN n := by
  have hs : ((size : Int) == 0) = false := by simp; omega
  have hz : (size : Int) ≠ 0 := by omega
  have hsum : IntKind.i64.wrap ((first : Int) + (i : Int)) = (first : Int) + i := IntWalk.i64_in _ (by omega)
  have hmod : Int.tmod ((first : Int) + i) size = ((first + i) % size : Nat) := by
    rw [Int.tmod_eq_emod_of_nonneg (by omega)]; rfl
  go_enter Try.func70, Try.ntmps70
  go_wp2
  go_quiet (fail)
  go_wp2
  go_ret
  exact ⟨rfl, _, rfl⟩
theorem QIn.qat {w : World} {b first : Nat} {q : Qu} {ring : Nat → Int} (h : QIn w b q first ring) (i : Nat) (hi : i ≤ 64) :
    Calls Try.prog 70 #[.pointer (some ⟨b, 0, none⟩), .int .i64 i] w fun e w' => e = .returned (.int .i64 ((first + i) % q.size : Nat)) ∧ ∃ n, w' = w.drewN n :=
  qat_at b first i q.size w h.c0 h.c1 h.ok.1 h.ok.2.1 (by have := h.hf; have := h.ok.2.1; omega) hi

end Go.Proofs.Ytmbkjnjfipafmaa
