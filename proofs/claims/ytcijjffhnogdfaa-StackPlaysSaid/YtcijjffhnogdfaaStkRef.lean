/-
  Contracts of the document's stack (estrayref20): it does what the plain functions say. Conditions: the stack is as New and its own calls leave it.
-/
import Derived.Test.YtcijjffhnogdfaaStkMade
import Derived.Test.YtcijjffhnogdfaaApp
namespace Go.Proofs.Ytcijjffhnogdfaa
open Go.RowKit

/-- Block b is the document's stack s. -/
def RtAt (w : World) (b : Nat) (s : St) : Prop :=
  s.ok ∧ ∃ a c, w.heap[b]? = some (.cells #[.int .i64 s.size, .slice a s.l.length c, .bool s.over, .int .i64 s.most] 57 (0, 0)) ∧
    SlAt w 3 1 (.slice a s.l.length c) s.l.length (s.l.map (Value.int .i64))

theorem RtAt.upd {S : List Nat} {w w' : World} {b : Nat} {s : St} (h : RtAt w b s) (u : Upd S w w') (hn : b ∉ S) (hS : ∀ x ∈ S, ∀ c, w.heap[x]? ≠ some (.cells c 3 (0, 0))) : RtAt w' b s := by
  obtain ⟨h1, a, c, h2, h3⟩ := h
  exact ⟨h1, a, c, u.keep h2 hn, h3.upd u hS⟩
theorem RtAt.lt {w : World} {b : Nat} {s : St} (h : RtAt w b s) : b < w.heap.size := by
  obtain ⟨_, _, _, h2, _⟩ := h
  exact lt_of_block h2
theorem ne_elem {w : World} {b : Nat} {c : Array Value} {t e : Nat} {f : Nat × Nat} (hb : w.heap[b]? = some (.cells c t f)) (ht : t ≠ e) : ∀ c', w.heap[b]? ≠ some (.cells c' e (0, 0)) := by
  intro c' hc
  rw [hb] at hc
  simp at hc
  exact ht hc.2.1

theorem rvalid_at (b : Nat) (n : Int) (w : World) (h : w.cell? ⟨b, 0, none⟩ = some (.int .i64 n)) (hn : 0 < n) : Calls Try.prog 32 #[.pointer (some ⟨b, 0, none⟩)] w fun e w' => e = .returned (.bool true) ∧ w = w' := by
  go_enter Try.func32, Try.ntmps32
  go_wp2
  go_ret
  exact ⟨rfl, rfl⟩

theorem rnew_ok (n : Nat) (w : World) (h0 : 1 ≤ n) (h1 : n ≤ 64) :
    Calls Try.prog 21 #[.int .i64 n] w fun e w' => e = .returned (.tuple #[.pointer (some ⟨w.heap.size, 0, none⟩), .int .i64 0]) ∧ RtAt w' w.heap.size { size := n, l := [], over := false, most := 0 } ∧ Upd [] w w' := by
  go_enter Try.func21, Try.ntmps21
  go_wp2
  go_ret2
  refine ⟨rfl, ⟨by simp only [St.ok]; simp; omega, none, 0, new_of _ _, ?_⟩, (Upd.refl _ _).alloc _⟩
  exact SlAt.ofOwn (World.ownsRow_nil _ 0 3 1) (by simp)
theorem rnew_err (n : Int) (w : World) (h : n < 1 ∨ 64 < n) :
    Calls Try.prog 21 #[.int .i64 n] w fun e w' => e = .returned (.tuple #[.pointer none, .int .i64 2]) ∧ w = w' := by
  rcases h with h | h
  · go_enter Try.func21, Try.ntmps21
    go_wp2
    go_ret2
    exact ⟨rfl, rfl⟩
  · have h' : ¬ n < 1 := by omega
    go_enter Try.func21, Try.ntmps21
    go_wp2
    go_ret2
    exact ⟨rfl, rfl⟩

theorem rover_at (b : Nat) (s : St) (w : World) (h : RtAt w b s) : Calls Try.prog 28 #[.pointer (some ⟨b, 0, none⟩)] w fun e w' => e = .returned (.bool s.over) ∧ w = w' := by
  obtain ⟨hok, a, c, hb, hl⟩ := h
  have hsz : (0 : Int) < s.size := by have := hok.1; omega
  have c0 := cell_of hb 0
  have c2 := cell_of hb 2
  clear hb hl
  go_enter Try.func28, Try.ntmps28
  go_wp2_with (go_at_call 32; refine (rvalid_at b _ _ c0 hsz).mono ?_; rintro e w' ⟨rfl, rfl⟩)
  go_ret
  exact ⟨rfl, rfl⟩
theorem rlen_at (b : Nat) (s : St) (w : World) (h : RtAt w b s) : Calls Try.prog 29 #[.pointer (some ⟨b, 0, none⟩)] w fun e w' => e = .returned (.int .i64 s.l.length) ∧ w = w' := by
  obtain ⟨hok, a, c, hb, hl⟩ := h
  have hsz : (0 : Int) < s.size := by have := hok.1; omega
  have c0 := cell_of hb 0
  have c1 := cell_of hb 1
  clear hb hl
  go_enter Try.func29, Try.ntmps29
  go_wp2_with (go_at_call 32; refine (rvalid_at b _ _ c0 hsz).mono ?_; rintro e w' ⟨rfl, rfl⟩)
  go_ret
  exact ⟨rfl, rfl⟩
theorem rmost_at (b : Nat) (s : St) (w : World) (h : RtAt w b s) : Calls Try.prog 30 #[.pointer (some ⟨b, 0, none⟩)] w fun e w' => e = .returned (.int .i64 s.most) ∧ w = w' := by
  obtain ⟨hok, a, c, hb, hl⟩ := h
  have hsz : (0 : Int) < s.size := by have := hok.1; omega
  have c0 := cell_of hb 0
  have c3 := cell_of hb 3
  clear hb hl
  go_enter Try.func30, Try.ntmps30
  go_wp2_with (go_at_call 32; refine (rvalid_at b _ _ c0 hsz).mono ?_; rintro e w' ⟨rfl, rfl⟩)
  go_ret
  exact ⟨rfl, rfl⟩
theorem rsettle_at (b : Nat) (s : St) (w : World) (h : RtAt w b s) : Calls Try.prog 24 #[.pointer (some ⟨b, 0, none⟩)] w fun e w' => e = .returned (.tuple #[]) ∧ RtAt w' b { s with over := false } ∧ Upd [b] w w' := by
  obtain ⟨hok, a, c, hb, hl⟩ := h
  have hsz : (0 : Int) < s.size := by have := hok.1; omega
  have c0 := cell_of hb 0
  have c2 := cell_of hb 2
  have f2 := free_of hb 2
  have HB := Lib.hid hb; clear hb
  have HL := Lib.hid hl; clear hl
  go_enter Try.func24, Try.ntmps24
  go_wp2_with (go_at_call 32; refine (rvalid_at b _ _ c0 hsz).mono ?_; rintro e w' ⟨rfl, rfl⟩)
  go_end0
  have u : Upd [b] w (w.setCell ⟨b, 2, none⟩ (.bool false)) := (Upd.refl _ _).setCell (by simp) _
  exact ⟨rfl, ⟨hok, a, c, set_of HB.out 2 _, HL.out.upd1 u HB.out (by decide)⟩, u⟩
theorem rclear_at (b : Nat) (s : St) (w : World) (h : RtAt w b s) : Calls Try.prog 25 #[.pointer (some ⟨b, 0, none⟩)] w fun e w' => e = .returned (.tuple #[]) ∧ RtAt w' b { size := s.size, l := [], over := false, most := 0 } ∧ Upd [b] w w' := by
  obtain ⟨hok, a, c, hb, hl⟩ := h
  have hsz : (0 : Int) < s.size := by have := hok.1; omega
  have c0 := cell_of hb 0
  have c1 := cell_of hb 1
  have c2 := cell_of hb 2
  have c3 := cell_of hb 3
  have f1 := free_of hb 1
  have f2 := free_of hb 2
  have f3 := free_of hb 3
  have HB := Lib.hid hb; clear hb hl
  go_enter Try.func25, Try.ntmps25
  go_wp2_with (go_at_call 32; refine (rvalid_at b _ _ c0 hsz).mono ?_; rintro e w' ⟨rfl, rfl⟩)
  go_end0
  refine ⟨rfl, ⟨by simp only [St.ok] at hok ⊢; simp; omega, none, 0, set_of (set_of (set_of HB.out 1 _) 2 _) 3 _, SlAt.ofOwn (World.ownsRow_nil _ 0 3 1) (by simp)⟩, ?_⟩
  exact (((Upd.refl _ _).setCell (by simp) _).setCell (by simp) _).setCell (by simp) _
theorem rpush_beyond (b : Nat) (s : St) (slot : Int) (w : World) (h : RtAt w b s) (hs : slot < 0 ∨ 256 ≤ slot) :
    Calls Try.prog 22 #[.pointer (some ⟨b, 0, none⟩), .int .i64 slot] w fun e w' => e = .returned (.tuple #[.bool false, .int .i64 3]) ∧ w = w' := by
  obtain ⟨hok, a, c, hb, hl⟩ := h
  have hsz : (0 : Int) < s.size := by have := hok.1; omega
  have c0 := cell_of hb 0
  clear hb hl
  rcases hs with hs | hs
  · go_enter Try.func22, Try.ntmps22
    go_wp2_with (go_at_call 32; refine (rvalid_at b _ _ c0 hsz).mono ?_; rintro e w' ⟨rfl, rfl⟩)
    go_ret2
    exact ⟨rfl, rfl⟩
  · have h0 : ¬ slot < 0 := by omega
    go_enter Try.func22, Try.ntmps22
    go_wp2_with (go_at_call 32; refine (rvalid_at b _ _ c0 hsz).mono ?_; rintro e w' ⟨rfl, rfl⟩)
    go_ret2
    exact ⟨rfl, rfl⟩
theorem rpush_full (b : Nat) (s : St) (slot : Int) (w : World) (h : RtAt w b s) (h0 : 0 ≤ slot) (h1 : slot < 256) (hf : s.l.length = s.size) :
    Calls Try.prog 22 #[.pointer (some ⟨b, 0, none⟩), .int .i64 slot] w fun e w' => e = .returned (.tuple #[.bool false, .int .i64 0]) ∧ RtAt w' b { s with over := true } ∧ Upd [b] w w' := by
  obtain ⟨hok, a, c, hb, hl⟩ := h
  have hsz : (0 : Int) < s.size := by have := hok.1; omega
  have c0 := cell_of hb 0
  have c1 := cell_of hb 1
  have c2 := cell_of hb 2
  have f2 := free_of hb 2
  have HB := Lib.hid hb; clear hb
  have HL := Lib.hid hl; clear hl
  have e1 : ((s.l.length : Int) == s.size) = true := by simp [hf]
  have HF := Lib.hid hf; clear hf
  go_enter Try.func22, Try.ntmps22
  go_wp2_with (go_at_call 32; refine (rvalid_at b _ _ c0 hsz).mono ?_; rintro e w' ⟨rfl, rfl⟩)
  go_quiet (fail)
  go_wp2
  go_ret2
  have u : Upd [b] w ((w.setCell ⟨b, 2, none⟩ (.bool true)).drewN nq) := ((Upd.refl _ _).setCell (by simp) _).drewN _
  exact ⟨rfl, ⟨hok, a, c, set_of HB.out 2 _, HL.out.upd1 u HB.out (by decide)⟩, u⟩
set_option maxHeartbeats 1000000 in
theorem rpush_room (b : Nat) (s : St) (slot : Int) (w : World) (h : RtAt w b s) (h0 : 0 ≤ slot) (h1 : slot < 256) (hf : s.l.length < s.size) :
    Calls Try.prog 22 #[.pointer (some ⟨b, 0, none⟩), .int .i64 slot] w fun e w' => e = .returned (.tuple #[.bool true, .int .i64 0]) ∧ RtAt w' b { s with l := s.l ++ [slot], most := max s.most (s.l.length + 1) } ∧ Upd [b] w w' := by
  obtain ⟨hok, a, c, hb, hl⟩ := h
  have hsz : (0 : Int) < s.size := by have := hok.1; omega
  have hl64 : s.l.length < 64 := by have := hok.2.1; omega
  have c0 := cell_of hb 0
  have c1 := cell_of hb 1
  have hbs := lt_of_block hb
  have HB := Lib.hid hb; clear hb
  have HL := Lib.hid hl; clear hl
  have e1 : ((s.l.length : Int) == s.size) = false := by simp; omega
  obtain ⟨i0, hi, hz0, hz1, hz2⟩ := info_parts info3
  go_enter Try.func22, Try.ntmps22
  go_wp2_with (go_at_call 32; refine (rvalid_at b _ _ c0 hsz).mono ?_; rintro e w' ⟨rfl, rfl⟩)
  go_quiet (fail)
  have hb1 := drewN_of HB.out nq
  have uq : Upd [] w (w.drewN nq) := (Upd.refl _ _).drewN _
  have hlq := HL.out.upd uq (by simp)
  generalize w.drewN nq = wq at *
  have hbs : b < wq.heap.size := lt_of_block hb1
  have d1 : wq.cell? ⟨b, 1, none⟩ = some (.slice a s.l.length c) := cell_of hb1 1
  clear c0 c1
  have HQ := Lib.hid hb1; clear hb1
  have HLQ := Lib.hid hlq; clear hlq
  go_wp2_with (at_builtin; refine wpList_append_any _ rfl (.tmp 29) (.tmp 33) 25 rfl wq.heap.size 3 i0 (.int .i64 0) 1 8 Try.underlying25 hi hz0 hz1 hz2 rfl (by decide) _ 0 [] rfl (owns_lit0 _ 3 1) _ s.l.length _ rfl (HLQ.out.upd ((Upd.refl [] wq).alloc _) (by simp)) ?c1 ?c2 ?c3 ?_)
  case c1 => unfold maxLen; omega
  case c2 => omega
  case c3 => simp
  intro g c' w1 hown hgrow
  try simp only [Nat.zero_add, List.nil_append] at hown ⊢
  have u1 : Upd [] wq w1 := ((Upd.refl _ _).alloc _).grown hgrow (fun k hk => by simp [Value.ownBlock] at hk; omega)
  have hbw : wq.heap.size ≤ w1.heap.size := u1.size
  have hb1 := u1.keep HQ.out (by simp)
  have hbs1 : b < w1.heap.size := lt_of_block hb1
  have hne1 := owns_ne hown hb1 (by decide)
  have HB1 := Lib.hid hb1; clear hb1
  clear d1 hgrow
  go_wp2_with (at_builtin; refine wpList_append_any _ rfl (.tmp 34) (.tmp 36) 25 rfl wq.heap.size 3 i0 (.int .i64 0) 1 8 Try.underlying25 hi hz0 hz1 hz2 rfl (by decide) _ s.l.length _ rfl (hown.alloc _) _ 1 [.int .i64 slot] rfl (sl_lit1 _ _ _ _) ?c1 ?c2 ?c3 ?_)
  case c1 => unfold maxLen; omega
  case c2 => omega
  case c3 => simp; omega
  intro g2 c2 w2 hown2 hgrow2
  have u2 : Upd [] wq w2 := (u1.alloc _).grown hgrow2 (fun k hk => (hown.lt k hk).1)
  have hb2 := u2.keep HQ.out (by simp)
  have d1 : w2.cell? ⟨b, 1, none⟩ = some (.slice a s.l.length c) := cell_of hb2 1
  have f1 : w2.frozen? ⟨b, 1, none⟩ = false := free_of hb2 1
  have HB2 := Lib.hid hb2; clear hb2 hgrow2 hown
  go_wp2_with fail
  have hb3 := set_of HB2.out 1 (.slice g2 (s.l.length + 1) c2)
  have u3 : Upd [b] wq (w2.setCell ⟨b, 1, none⟩ (.slice g2 (s.l.length + 1) c2)) := (u2.nil).setCell (by simp) _
  have hl3 : SlAt (w2.setCell ⟨b, 1, none⟩ (.slice g2 (s.l.length + 1) c2)) 3 1 (.slice g2 (s.l.length + 1) c2) (s.l.length + 1) ((s.l ++ [slot]).map (Value.int .i64)) := by
    have e : s.l.map (Value.int .i64) ++ [.int .i64 slot] = (s.l ++ [slot]).map (Value.int .i64) := by simp
    rw [e] at hown2
    exact (SlAt.ofOwn hown2 (one_ints _)).upd1 ((Upd.refl [b] w2).setCell (by simp) _) HB2.out (by decide)
  generalize w2.setCell ⟨b, 1, none⟩ (.slice g2 (s.l.length + 1) c2) = w3 at *
  have e1 : w3.cell? ⟨b, 1, none⟩ = some (.slice g2 (s.l.length + 1) c2) := cell_of hb3 1
  have e3 : w3.cell? ⟨b, 3, none⟩ = some (.int .i64 s.most) := cell_of hb3 3
  have g3 : w3.frozen? ⟨b, 3, none⟩ = false := free_of hb3 3
  have HB3 := Lib.hid hb3; clear hb3
  have HL3 := Lib.hid hl3; clear hl3 hown2
  have hmm : (s.most : Int) ≤ 64 := by have := hok.2; omega
  go_region
  go_wp2
  all_goals go_ret2
  · rename_i hlt
    have e2 : max s.most (s.l.length + 1) = s.l.length + 1 := by omega
    rw [e2]
    refine ⟨rfl, ⟨?_, g2, c2, ?_, ?_⟩, uq.nil.trans ((u3.setCell (by simp) _).drew)⟩
    · simp only [St.ok] at hok ⊢; simp; omega
    · have g := drew_of (set_of HB3.out 3 (.int .i64 ((s.l.length : Int) + 1)))
      rw [g]; simp
    · simpa using HL3.out.upd1 (((Upd.refl [b] w3).setCell (by simp) _).drew) HB3.out (by decide)
  · rename_i hle
    have e2 : max s.most (s.l.length + 1) = s.most := by omega
    rw [e2]
    refine ⟨rfl, ⟨?_, g2, c2, ?_, ?_⟩, uq.nil.trans ((u3.setCell (by simp) _).drew)⟩
    · simp only [St.ok] at hok ⊢; simp; omega
    · have g := drew_of (set_of HB3.out 3 (.int .i64 s.most))
      rw [g]; simp
    · simpa using HL3.out.upd1 (((Upd.refl [b] w3).setCell (by simp) _).drew) HB3.out (by decide)

theorem rpop_empty (b : Nat) (s : St) (w : World) (h : RtAt w b s) (hl0 : s.l = []) :
    Calls Try.prog 23 #[.pointer (some ⟨b, 0, none⟩)] w fun e w' => e = .returned (.tuple #[.int .i64 0, .bool false]) ∧ w = w' := by
  obtain ⟨hok, a, c, hb, hl⟩ := h
  have hsz : (0 : Int) < s.size := by have := hok.1; omega
  have hlen : s.l.length = 0 := by rw [hl0]; rfl
  rw [hlen] at hb
  have c0 := cell_of hb 0
  have c1 := cell_of hb 1
  clear hb hl hl0 hlen
  go_enter Try.func23, Try.ntmps23
  go_wp2_with (go_at_call 32; refine (rvalid_at b _ _ c0 hsz).mono ?_; rintro e w' ⟨rfl, rfl⟩)
  go_ret2
  exact ⟨rfl, rfl⟩

set_option maxHeartbeats 1000000 in
theorem rpop_some (b : Nat) (s : St) (l : List Int) (x : Int) (w : World) (h : RtAt w b s) (hsl : s.l = l ++ [x]) :
    Calls Try.prog 23 #[.pointer (some ⟨b, 0, none⟩)] w fun e w' => e = .returned (.tuple #[.int .i64 x, .bool true]) ∧ RtAt w' b { s with l := l } ∧ Upd [b] w w' := by
  obtain ⟨hok, a, c, hb, hl⟩ := h
  have hsz : (0 : Int) < s.size := by have := hok.1; omega
  have hlen : s.l.length = l.length + 1 := by rw [hsl]; simp
  have hl64 : l.length < 64 := by have := hok.2; omega
  have hlc := hl.cap
  have htk := hl.take1 (show l.length ≤ s.l.length by omega)
  rw [show (s.l.map (Value.int .i64)).take l.length = l.map (Value.int .i64) from by rw [hsl]; simp] at htk
  obtain ⟨g, off, rfl, hgs, _, hcell, _⟩ := hl.at1 (show l.length < s.l.length by omega)
  rw [show (s.l.map (Value.int .i64))[l.length]? = some (.int .i64 x) from by rw [hsl]; simp] at hcell
  rw [hlen] at hb hlc
  have hm := hok.2
  have hbs := lt_of_block hb
  have c0 := cell_of hb 0
  have c1 : w.cell? ⟨b, 1, none⟩ = some (.slice (some ⟨g, off, none⟩) (l.length + 1) c) := cell_of hb 1
  have f1 := free_of hb 1
  have HB := Lib.hid hb; clear hb
  have HT := Lib.hid htk; clear htk hl
  have HSL := Lib.hid hsl; clear hsl
  have HLE := Lib.hid hlen; clear hlen
  obtain ⟨i0, hi, hz0, hz1, hz2⟩ := info_parts info3
  have hz : ((0 : Int) ≤ (l.length : Int) + 1 - 1) := by omega
  go_enter Try.func23, Try.ntmps23
  go_wp2_with (go_at_call 32; refine (rvalid_at b _ _ c0 hsz).mono ?_; rintro e w' ⟨rfl, rfl⟩)
  go_quiet (fail)
  go_wp2
  have hb1 := drewN_of HB.out nq
  have uq : Upd [] w (w.drewN nq) := (Upd.refl _ _).drewN _
  have htq := HT.out.upd uq (by simp)
  generalize w.drewN nq = wq at *
  have hbs1 : b < wq.heap.size := lt_of_block hb1
  have d1 : wq.cell? ⟨b, 1, none⟩ = some (.slice (some ⟨g, off, none⟩) (l.length + 1) c) := cell_of hb1 1
  have g1 := free_of hb1 1
  have HQ := Lib.hid hb1; clear hb1
  have HTQ := Lib.hid htq; clear htq
  clear c0 c1 f1 hcell
  have hwr : IntKind.i64.wrap (l.length : Int) = l.length := IntWalk.i64_in _ (by omega)
  have hw0 : (0 : Int) ≤ (l.length : Int) := by omega
  have hw1 : (l.length : Int) ≤ c := by omega
  have hw2 : ((l.length : Int)).toNat = l.length := by omega
  go_region_law ((refine step_append_any _ rfl (.tmp 29) (.tmp 40) 25 rfl wq.heap.size 3 i0 (.int .i64 0) 1 8 Try.underlying25 hi hz0 hz1 hz2 rfl (by decide) _ 0 [] (by simp [Act.eval, Act.put]) (owns_lit0 wq.drew 3 1) _ l.length _ (by simp [Act.eval, Act.put]) (HTQ.out.upd (((Upd.refl [] wq).drew).alloc _) (by simp)) (by unfold maxLen; omega) (by omega) (by simp) ?_); (intro g2 c2 w1 hown hgrow); (have u1 : Upd [] wq w1 := (((Upd.refl [] wq).drew).alloc _).grown hgrow (fun k hk => by simp [Value.ownBlock] at hk; omega)); (have hb1 := u1.keep HQ.out (by simp)); (have d2 : w1.cell? ⟨b, 1, none⟩ = some (.slice (some ⟨g, off, none⟩) (l.length + 1) c) := cell_of hb1 1); (have f2 : w1.frozen? ⟨b, 1, none⟩ = false := free_of hb1 1); (have HB1 := Lib.hid hb1); clear hb1 hgrow)
  all_goals
    go_wp2
    go_ret2
    refine ⟨rfl, ⟨?_, g2, c2, ?_, ?_⟩, uq.nil.trans (Upd.setCell (S := [b]) u1.nil (by simp) _)⟩
    · have := HSL.out; simp only [St.ok] at hok ⊢; rw [this] at hok; simp at hok ⊢; omega
    · exact set_of HB1.out 1 _
    · rw [Nat.zero_add, List.nil_append] at hown
      exact (SlAt.ofOwn hown (one_ints _)).set1 HB1.out (by decide) _ _

set_option maxHeartbeats 1000000 in
theorem rcopy_at (b : Nat) (s : St) (w : World) (h : RtAt w b s) :
    Calls Try.prog 27 #[.pointer (some ⟨b, 0, none⟩)] w fun e w' => ∃ d, e = .returned (.pointer (some ⟨d, 0, none⟩)) ∧ w.heap.size ≤ d ∧ RtAt w' d s ∧ Upd [] w w' := by
  obtain ⟨hok, a, c, hb, hl⟩ := h
  have hsz : (0 : Int) < s.size := by have := hok.1; omega
  have hl64 : s.l.length ≤ 64 := by have := hok.2; omega
  have hbs := lt_of_block hb
  have c0 : w.cell? ⟨b, 0, none⟩ = some (.int .i64 s.size) := cell_of hb 0
  have c1 : w.cell? ⟨b, 1, none⟩ = some (.slice a s.l.length c) := cell_of hb 1
  have c2 : w.cell? ⟨b, 2, none⟩ = some (.bool s.over) := cell_of hb 2
  have c3 : w.cell? ⟨b, 3, none⟩ = some (.int .i64 s.most) := cell_of hb 3
  have HB := Lib.hid hb; clear hb
  have HL := Lib.hid hl; clear hl
  obtain ⟨i0, hi, hz0, hz1, hz2⟩ := info_parts info3
  go_enter Try.func27, Try.ntmps27
  go_wp2_with (go_at_call 32; refine (rvalid_at b _ _ c0 hsz).mono ?_; rintro e w' ⟨rfl, rfl⟩)
  go_region_held3 (fun w' => w'.cell? ⟨b, 0, none⟩ = some (.int .i64 s.size) ∧ w'.cell? ⟨b, 1, none⟩ = some (.slice a s.l.length c) ∧ w'.cell? ⟨b, 2, none⟩ = some (.bool s.over) ∧ w'.cell? ⟨b, 3, none⟩ = some (.int .i64 s.most)) (first | go_keep | exact ⟨d0, d1, d2, d3⟩) (first | (refine step_append_any _ rfl (.tmp 10) (.tmp 14) 25 rfl w.heap.size 3 i0 (.int .i64 0) 1 8 Try.underlying25 hi hz0 hz1 hz2 rfl (by decide) _ 0 [] (by simp [Act.eval]) (owns_lit0 w.drew 3 1) _ s.l.length _ (by simp [Act.eval]) (HL.out.upd (((Upd.refl [] w).drew).alloc _) (by simp)) (by unfold maxLen; omega) (by omega) (by simp) ?_; intro g2 cc w1 hown hgrow; have u1 : Upd [] w w1 := (((Upd.refl [] w).drew).alloc _).grown hgrow (fun k hk => by simp [Value.ownBlock] at hk; omega); have hb1 := u1.keep HB.out (by simp); have d0 : w1.cell? ⟨b, 0, none⟩ = some (.int .i64 s.size) := cell_of hb1 0; have d1 : w1.cell? ⟨b, 1, none⟩ = some (.slice a s.l.length c) := cell_of hb1 1; have d2 : w1.cell? ⟨b, 2, none⟩ = some (.bool s.over) := cell_of hb1 2; have d3 : w1.cell? ⟨b, 3, none⟩ = some (.int .i64 s.most) := cell_of hb1 3; clear hb1 hgrow))
  all_goals
    go_wp2
    go_ret
    refine ⟨_, rfl, u1.size, ⟨hok, g2, cc, new_of _ _, ?_⟩, u1.alloc _⟩
    rw [Nat.zero_add, List.nil_append] at hown
    exact (SlAt.ofOwn hown (one_ints _)).upd ((Upd.refl [] w1).alloc _) (by simp)

end Go.Proofs.Ytcijjffhnogdfaa
