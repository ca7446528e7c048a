/-
  Contracts of the package queue: Drain, New, Copy. Conditions: the queue is as New and its own calls leave it.
-/
import Derived.Test.YtmbkjnjfipafmaaQue3M
namespace Go.Proofs.Ytmbkjnjfipafmaa
open Go.RowKit

/-- How many are drained. -/
def drK (l : List Int) (m : Int) : Nat := min l.length m.toNat
def DrPost (b : Nat) (q : Qu) (m : Int) (w : World) (e : Ending) (w' : World) : Prop :=
  ∃ v, e = .returned (.tuple #[v, .int .i64 0]) ∧ w'.ownsRow w.heap.size 3 1 v (drK q.l m) ((q.l.take (drK q.l m)).map (Value.int .i64)) ∧ QAt w' b ⟨q.size, q.l.drop (drK q.l m)⟩ ∧ Upd [b] w w'
theorem poll_any' {b : Nat} {q : Qu} {w : World} (h : QAt w b q) {x : Int} {l : List Int} (hl : q.l = x :: l) :
    Calls Try.prog 43 #[.pointer (some ⟨b, 0, none⟩)] w fun e w' => e = .returned (.tuple #[.int .i64 x, .bool true]) ∧ QAt w' b ⟨q.size, l⟩ ∧ Upd [b] w w' := by
  obtain ⟨f, r, h⟩ := h
  exact poll_some b f q r x l w h hl
theorem QAt.ne_own {w : World} {b : Nat} {q : Qu} (h : QAt w b q) {base n : Nat} {v : Value} {xs : List Value} (ho : w.ownsRow base 3 1 v n xs) : v.ownBlock ≠ some b := by
  obtain ⟨f, r, h⟩ := h
  exact owns_ne ho h.row (by decide)
theorem QAt.grown {w w' : World} {b : Nat} {q : Qu} {row : Option Nat} (h : QAt w b q) (g : w.grownBy w' row) (hn : row ≠ some b) : QAt w' b q := by
  obtain ⟨f, r, h⟩ := h
  exact ⟨f, r, h.ok, h.hf, grown_keep g h.row hn, h.rd⟩
theorem new_err (n : Int) (w : World) (h : n < 1 ∨ 64 < n) : Calls Try.prog 53 #[.int .i64 n] w fun e w' => e = .returned (.tuple #[.pointer none, .int .i64 2]) ∧ w = w' := by
  rcases h with h | h
  · go_enter Try.func53, Try.ntmps53
    go_wp2
    go_ret2
    exact ⟨rfl, rfl⟩
  · have h0 : ¬ n < 1 := by omega
    go_enter Try.func53, Try.ntmps53
    go_wp2
    go_ret2
    exact ⟨rfl, rfl⟩
def zq : Array Value := vcells (qf 0 0 0 (fun _ => 0)) 67
theorem zero_q (w : World) : (zeroValue 108).run Try.prog w = .ok (.agg zq) w := by kernel_rfl
theorem zq_ne : (zq = #[]) = False := by
  have : zq.size = 67 := vcells_size _ _
  simp; intro h; rw [h] at this; simp at this
theorem qf_set0 (size size' first n : Nat) (ring : Nat → Int) (j : Nat) : (if j = 0 then Value.int .i64 (size' : Int) else qf size first n ring j) = qf size' first n ring j := by
  unfold qf
  by_cases e : j = 0
  · subst e; simp
  · rw [if_neg e, if_neg e, if_neg e]
set_option maxRecDepth 100000 in
theorem new_at (n : Nat) (w : World) (h1 : 1 ≤ n) (h4 : n ≤ 64) : Calls Try.prog 53 #[.int .i64 n] w fun e w' => e = .returned (.tuple #[.pointer (some ⟨w.heap.size, 0, none⟩), .int .i64 0]) ∧ QAt w' w.heap.size ⟨n, []⟩ ∧ Upd [] w w' := by
  have hz := zero_q
  have hne := zq_ne
  go_enter Try.func53, Try.ntmps53
  go_wp2
  go_ret2
  refine ⟨rfl, ⟨0, fun _ => 0, ⟨h1, h4, by simp, by simp⟩, h1, ?_, by simp⟩, (Upd.refl _ _).alloc _⟩
  have := new_of w (.cells (zq.setIfInBounds 0 (.int .i64 n)) 108)
  rw [show zq.setIfInBounds 0 (.int .i64 n) = vcells (qf n 0 0 (fun _ => 0)) 67 from by
    unfold zq; rw [vcells_set]; exact vcells_congr (fun i _ => qf_set0 0 n 0 0 _ i)] at this ⊢
  exact this
set_option maxRecDepth 100000 in
theorem copy_at (b first : Nat) (q : Qu) (ring : Nat → Int) (w : World) (h : QIn w b q first ring) :
    Calls Try.prog 75 #[.pointer (some ⟨b, 0, none⟩)] w fun e w' => e = .returned (.pointer (some ⟨w.heap.size, 0, none⟩)) ∧ QIn w' w.heap.size q first ring ∧ Upd [] w w' := by
  have hi : (Try.prog.info? 108).map (·.size) = some (vcells (qf q.size first q.l.length ring) 67).size := by rw [vcells_size]; kernel_rfl
  have H := Lib.hid h; clear h
  have HI := Lib.hid hi; clear hi
  have HR := Lib.hid H.out.row
  have hsz : zq.size = (vcells (qf q.size first q.l.length ring) 67).size := by rw [vcells_size]; exact vcells_size _ _
  have HS := Lib.hid hsz; clear hsz
  have hone : (vcells (qf q.size first q.l.length ring) 67).all (·.oneCell') = true := Array.all_eq_true_iff_forall_mem.2 fun x hx => by
    obtain ⟨i, _, rfl⟩ := Array.mem_map.1 hx
    unfold qf
    repeat' split
    all_goals rfl
  have HA := Lib.hid hone; clear hone
  have hz := zero_q
  go_enter Try.func75, Try.ntmps75
  go_wp2_with fail
  refine H.out.valid.mono ?_; rintro e w' ⟨rfl, rfl⟩
  go_wp2_with (first | (refine wpList_load_row rfl 108 _ rfl b rfl 108 _ (0, 0) _ HR.out Try.underlying108 rfl HI.out ?_) | (refine wpList_store_row rfl 108 _ _ rfl w.heap.size _ rfl rfl 108 _ (new_of _ _) HI.out HS.out HA.out ?_))
  go_ret
  refine ⟨rfl, ⟨H.out.ok, H.out.hf, setRow_heap _ _ _ _ _ _ (new_of _ _), H.out.rd⟩, ?_⟩
  exact ((Upd.refl _ _).alloc _).setRow (by simp) _

end Go.Proofs.Ytmbkjnjfipafmaa
