/-
  Contracts of the document's queue (estrayref28): it does what the plain functions say. Conditions: the queue is as New and its own calls leave it.
-/
import Derived.Test.YtjmaibobhjcajaaQueSame
namespace Go.Proofs.Ytjmaibobhjcajaa
open Go.RowKit

/-- Block b is the document's queue q. -/
def RqAt (w : World) (b : Nat) (q : Qu) : Prop :=
  q.ok ∧ ∃ a c, w.heap[b]? = some (.cells #[.int .i64 q.size, .slice a q.l.length c] 66 (0, 0)) ∧ Ints w (.slice a q.l.length c) q.l
theorem ne_elem {w : World} {b : Nat} {c : Array Value} {t e : Nat} {f : Nat × Nat} (hb : w.heap[b]? = some (.cells c t f)) (ht : t ≠ e) : ∀ c', w.heap[b]? ≠ some (.cells c' e (0, 0)) := by
  intro c' hc
  rw [hb] at hc
  simp at hc
  exact ht hc.2.1
theorem RqAt.upd {S : List Nat} {w w' : World} {b : Nat} {q : Qu} (h : RqAt w b q) (u : Upd S w w') (hn : b ∉ S) (hS : ∀ x ∈ S, ∀ c, w.heap[x]? ≠ some (.cells c 3 (0, 0))) : RqAt w' b q := by
  obtain ⟨h1, a, c, h2, h3⟩ := h
  exact ⟨h1, a, c, u.keep h2 hn, SlAt.upd h3 u hS⟩
theorem RqAt.upd0 {w w' : World} {b : Nat} {q : Qu} (h : RqAt w b q) (u : Upd [] w w') : RqAt w' b q := h.upd u (by simp) (by simp)
theorem RqAt.lt {w : World} {b : Nat} {q : Qu} (h : RqAt w b q) : b < w.heap.size := by
  obtain ⟨_, _, _, h2, _⟩ := h
  exact lt_of_block h2
theorem rvalid_at (b : Nat) (n : Int) (w : World) (h : w.cell? ⟨b, 0, none⟩ = some (.int .i64 n)) (hn : 0 < n) : Calls Try.prog 40 #[.pointer (some ⟨b, 0, none⟩)] w fun e w' => e = .returned (.bool true) ∧ w = w' := by
  go_enter Try.func40, Try.ntmps40
  go_wp2
  go_ret
  exact ⟨rfl, rfl⟩
theorem rnew_ok (n : Nat) (w : World) (h0 : 1 ≤ n) (h1 : n ≤ 64) :
    Calls Try.prog 23 #[.int .i64 n] w fun e w' => e = .returned (.tuple #[.pointer (some ⟨w.heap.size, 0, none⟩), .int .i64 0]) ∧ RqAt w' w.heap.size ⟨n, []⟩ ∧ Upd [] w w' := by
  go_enter Try.func23, Try.ntmps23
  go_wp2
  go_ret2
  refine ⟨rfl, ⟨⟨h0, h1, by simp, by simp⟩, none, 0, new_of _ _, ?_⟩, (Upd.refl _ _).alloc _⟩
  exact SlAt.ofOwn (World.ownsRow_nil _ 0 3 1) (by simp)
theorem rnew_err (n : Int) (w : World) (h : n < 1 ∨ 64 < n) :
    Calls Try.prog 23 #[.int .i64 n] w fun e w' => e = .returned (.tuple #[.pointer none, .int .i64 2]) ∧ w = w' := by
  rcases h with h | h
  · go_enter Try.func23, Try.ntmps23
    go_wp2
    go_ret2
    exact ⟨rfl, rfl⟩
  · have h' : ¬ n < 1 := by omega
    go_enter Try.func23, Try.ntmps23
    go_wp2
    go_ret2
    exact ⟨rfl, rfl⟩
theorem rlen_any {b : Nat} {q : Qu} {w : World} (h : RqAt w b q) : Calls Try.prog 32 #[.pointer (some ⟨b, 0, none⟩)] w fun e w' => e = .returned (.int .i64 q.l.length) ∧ w = w' := by
  obtain ⟨hok, a, c, hb, hl⟩ := h
  have hsz : (0 : Int) < q.size := by have := hok.1; omega
  have c0 := cell_of hb 0
  have c1 := cell_of hb 1
  clear hb hl hok
  go_enter Try.func32, Try.ntmps32
  go_wp2_with (go_at_call 40; refine (rvalid_at b _ _ c0 hsz).mono ?_; rintro e w' ⟨rfl, rfl⟩)
  go_ret
  exact ⟨rfl, rfl⟩
theorem rroom_any {b : Nat} {q : Qu} {w : World} (h : RqAt w b q) : Calls Try.prog 33 #[.pointer (some ⟨b, 0, none⟩)] w fun e w' => e = .returned (.int .i64 (q.size - q.l.length : Nat)) ∧ Upd [] w w' := by
  obtain ⟨hok, a, c, hb, hl⟩ := h
  have hsz : (0 : Int) < q.size := by have := hok.1; omega
  have hs64 : (q.size : Int) ≤ 64 := by have := hok.2.1; omega
  have hll : (q.l.length : Int) ≤ q.size := by have := hok.2.2.1; omega
  have hw : IntKind.i64.wrap ((q.size : Int) - (q.l.length : Int)) = ((q.size - q.l.length : Nat) : Int) := by rw [IntWalk.i64_in _ (by omega)]; omega
  have c0 := cell_of hb 0
  have c1 := cell_of hb 1
  clear hb hl hok
  go_enter Try.func33, Try.ntmps33
  go_wp2_with (go_at_call 40; refine (rvalid_at b _ _ c0 hsz).mono ?_; rintro e w' ⟨rfl, rfl⟩)
  go_quiet (fail)
  go_wp2
  go_ret
  exact ⟨rfl, (Upd.refl _ _).drewN _⟩
theorem rall_any {b : Nat} {q : Qu} {w : World} (h : RqAt w b q) : Calls Try.prog 34 #[.pointer (some ⟨b, 0, none⟩)] w fun e w' => ∃ v, e = .returned v ∧ Ints w' v q.l ∧ Upd [] w w' := by
  obtain ⟨hok, a, c, hb, hl⟩ := h
  have hsz : (0 : Int) < q.size := by have := hok.1; omega
  have hl64 : q.l.length ≤ 64 := Nat.le_trans hok.2.2.1 hok.2.1
  obtain ⟨i0, hi, hz0, hz1, hz2⟩ := info_parts info3
  have c0 := cell_of hb 0
  have c1 := cell_of hb 1
  have hbs := lt_of_block hb
  have hx := hl.upd0 ((Upd.refl [] w).alloc (.cells #[] 3)); unfold Ints at hx
  have HX := Lib.hid hx
  clear hb hl hok hx
  go_enter Try.func34, Try.ntmps34
  go_wp2_with (first | (go_at_call 40; refine (rvalid_at b _ _ c0 hsz).mono ?_; rintro e w' ⟨rfl, rfl⟩) | (at_builtin; refine wpList_append_any _ rfl (.tmp 6) (.tmp 10) 25 rfl w.heap.size 3 i0 (.int .i64 0) 1 8 Try.underlying25 hi hz0 hz1 hz2 rfl (by decide) _ 0 [] rfl (owns_lit0 _ 3 1) _ q.l.length _ rfl HX.out (by unfold maxLen; omega) (by omega) (by simp) ?_))
  intro g1 c1' w1 hown1 hgrow1
  have u1 : Upd [] w w1 := ((Upd.refl _ _).alloc _).grown hgrow1 (fun k hk => by simp [Value.ownBlock] at hk; omega)
  have hs := Ints.ofOwn (w := w1) (base := w.heap.size) (v := .slice g1 q.l.length c1') (l := q.l) (by simpa using hown1)
  clear hown1 hgrow1
  go_wp2
  go_ret
  exact ⟨_, rfl, hs, u1⟩

end Go.Proofs.Ytjmaibobhjcajaa
