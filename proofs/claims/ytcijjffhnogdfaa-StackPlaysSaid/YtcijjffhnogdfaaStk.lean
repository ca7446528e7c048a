/-
  Contracts of the package stack's functions: each does to a stack that lies in memory what the plain functions of this text say. Conditions: the stack is as New and its own calls leave it.
-/
import Derived.Test.YtcijjffhnogdfaaRows
import Derived.Test.YtcijjffhnogdfaaBase
namespace Go.Proofs.Ytcijjffhnogdfaa
open Go.RowKit

/-- A stack, plainly. -/
structure St where
  size : Nat
  l : List Int
  over : Bool
  most : Nat

def St.ok (s : St) : Prop := 1 ≤ s.size ∧ s.size ≤ 64 ∧ s.l.length ≤ s.most ∧ s.most ≤ s.size

def stCells (s : St) (tail : List Int) : Array Value :=
  ([Value.bool s.over, Value.int .i64 s.most, Value.int .i64 s.size, Value.int .i64 s.l.length] ++ (s.l ++ tail).map (Value.int .i64)).toArray

/-- Block b is the stack s. -/
def StAt (w : World) (b : Nat) (s : St) : Prop :=
  s.ok ∧ ∃ tail : List Int, s.l.length + tail.length = 64 ∧ w.heap[b]? = some (.cells (stCells s tail) 52 (0, 0))

theorem stc0 (s : St) (t : List Int) : (stCells s t)[0]? = some (.bool s.over) := rfl
theorem stc1 (s : St) (t : List Int) : (stCells s t)[1]? = some (.int .i64 s.most) := rfl
theorem stc2 (s : St) (t : List Int) : (stCells s t)[2]? = some (.int .i64 s.size) := rfl
theorem stc3 (s : St) (t : List Int) : (stCells s t)[3]? = some (.int .i64 s.l.length) := rfl

theorem stc_size (s : St) (t : List Int) (h : s.l.length + t.length = 64) : (stCells s t).size = 68 := by simp [stCells]; omega
theorem stc_one (s : St) (t : List Int) : (stCells s t).all (·.oneCell') = true := by
  simp only [stCells, List.all_toArray, List.all_eq_true]
  intro v hv
  simp only [List.cons_append, List.nil_append, List.mem_cons, List.mem_map] at hv
  rcases hv with rfl | rfl | rfl | rfl | ⟨x, _, rfl⟩ <;> rfl
/-- 64 zeros. -/
def z64 : List Int := List.replicate 64 0
/-- A stack whose cells are all zero but its size. -/
def stFresh (n : Nat) : Array Value := stCells { size := n, l := [], over := false, most := 0 } z64
theorem stFresh_size (n : Nat) : (stFresh n).size = 68 := rfl
theorem stFresh_set (n : Nat) : (stFresh 0).setIfInBounds 2 (.int .i64 n) = stFresh n := by simp [stFresh, stCells]
theorem zero52 (w : World) : (zeroValue 52).run Try.prog w = .ok (.agg (stFresh 0)) w := by kernel_rfl

set_option maxHeartbeats 400000 in
theorem valid_nil (w : World) : Calls Try.prog 31 #[.pointer none] w fun e w' => e = .returned (.bool false) ∧ w = w' := by
  go_enter Try.func31, Try.ntmps31
  go_wp2
  go_ret
  exact ⟨rfl, rfl⟩

set_option maxHeartbeats 400000 in
theorem valid_at (b : Nat) (n : Int) (w : World) (h : w.cell? ⟨b, 2, none⟩ = some (.int .i64 n)) (hn : 0 < n) : Calls Try.prog 31 #[.pointer (some ⟨b, 0, none⟩)] w fun e w' => e = .returned (.bool true) ∧ w = w' := by
  go_enter Try.func31, Try.ntmps31
  go_wp2
  go_ret
  exact ⟨rfl, rfl⟩


theorem push_beyond (b : Nat) (s : St) (slot : Int) (w : World) (h : StAt w b s) (hs : slot < 0 ∨ 256 ≤ slot) :
    Calls Try.prog 17 #[.pointer (some ⟨b, 0, none⟩), .int .i64 slot] w fun e w' => e = .returned (.tuple #[.bool false, .int .i64 3]) ∧ w = w' := by
  obtain ⟨hok, tail, ht, hb⟩ := h
  have hsz : (0 : Int) < s.size := by have := hok.1; omega
  have c2 := (cell_of hb 2).trans (stc2 s tail)
  clear hb
  have H := Lib.hid ht; clear ht
  rcases hs with hs | hs
  · go_enter Try.func17, Try.ntmps17
    go_wp2_with (go_at_call 31; refine (valid_at b _ _ c2 hsz).mono ?_; rintro e w' ⟨rfl, rfl⟩)
    go_ret2
    exact ⟨rfl, rfl⟩
  · have h0 : ¬ slot < 0 := by omega
    go_enter Try.func17, Try.ntmps17
    go_wp2_with (go_at_call 31; refine (valid_at b _ _ c2 hsz).mono ?_; rintro e w' ⟨rfl, rfl⟩)
    go_ret2
    exact ⟨rfl, rfl⟩

theorem stset0 (s : St) (t : List Int) (v : Bool) : (stCells s t).setIfInBounds 0 (.bool v) = stCells { s with over := v } t := by simp [stCells]
theorem stset1 (s : St) (t : List Int) (v : Nat) : (stCells s t).setIfInBounds 1 (.int .i64 v) = stCells { s with most := v } t := by simp [stCells]

theorem push_full (b : Nat) (s : St) (slot : Int) (w : World) (h : StAt w b s) (h0 : 0 ≤ slot) (h1 : slot < 256) (hf : s.l.length = s.size) :
    Calls Try.prog 17 #[.pointer (some ⟨b, 0, none⟩), .int .i64 slot] w fun e w' => e = .returned (.tuple #[.bool false, .int .i64 0]) ∧ StAt w' b { s with over := true } ∧ Upd [b] w w' := by
  obtain ⟨hok, tail, ht, hb⟩ := h
  have hsz : (0 : Int) < s.size := by have := hok.1; omega
  have c0 := (cell_of hb 0).trans (stc0 s tail)
  have c2 := (cell_of hb 2).trans (stc2 s tail)
  have c3 := (cell_of hb 3).trans (stc3 s tail)
  have f0 := free_of hb 0
  have HB := Lib.hid hb; clear hb
  have H := Lib.hid ht; clear ht
  have e1 : ((s.l.length : Int) == s.size) = true := by simp [hf]
  have HF := Lib.hid hf; clear hf
  go_enter Try.func17, Try.ntmps17
  go_wp2_with (go_at_call 31; refine (valid_at b _ _ c2 hsz).mono ?_; rintro e w' ⟨rfl, rfl⟩)
  go_quiet (fail)
  go_wp2
  go_ret2
  refine ⟨rfl, ⟨hok, tail, H.out, ?_⟩, ?_⟩
  · rw [← stset0]; exact set_of HB.out 0 _
  · exact ((Upd.refl _ _).setCell (by simp) _).drewN _

theorem stc4 (s : St) (t : List Int) (i : Nat) : (stCells s t)[4 + i]? = ((s.l ++ t)[i]?).map (Value.int .i64) := by
  simp [stCells, show 4 + i = i + 4 from by omega, -List.map_append]
theorem stset3 (s : St) (x y : Int) (t : List Int) : ((stCells s (x :: t)).setIfInBounds (4 + s.l.length) (.int .i64 y)).setIfInBounds 3 (.int .i64 ((s.l.length : Int) + 1)) = stCells { s with l := s.l ++ [y] } t := by
  simp [stCells, show 4 + s.l.length = s.l.length + 4 from by omega]

theorem push_room (b : Nat) (s : St) (slot : Int) (w : World) (h : StAt w b s) (h0 : 0 ≤ slot) (h1 : slot < 256) (hf : s.l.length < s.size) :
    Calls Try.prog 17 #[.pointer (some ⟨b, 0, none⟩), .int .i64 slot] w fun e w' => e = .returned (.tuple #[.bool true, .int .i64 0]) ∧ StAt w' b { s with l := s.l ++ [slot], most := max s.most (s.l.length + 1) } ∧ Upd [b] w w' := by
  obtain ⟨hok, tail, ht, hb⟩ := h
  have hsz : (0 : Int) < s.size := by have := hok.1; omega
  have hl : (s.l.length : Int) < 64 := by have := hok.2.1; omega
  obtain ⟨x, t, rfl⟩ : ∃ x t, tail = x :: t := by
    cases tail with
    | nil => simp at ht; omega
    | cons x t => exact ⟨x, t, rfl⟩
  have hm : (s.most : Int) ≤ 64 := by have := hok.2; omega
  have c1 := (cell_of hb 1).trans (stc1 s _)
  have c2 := (cell_of hb 2).trans (stc2 s _)
  have c3 := (cell_of hb 3).trans (stc3 s _)
  have c4 : w.cell? ⟨b, 4 + s.l.length, none⟩ = some (.int .i64 x) := by rw [cell_of hb, stc4]; simp
  have f1 := free_of hb 1
  have f3 := free_of hb 3
  have f4 := free_of hb (4 + s.l.length)
  have HB := Lib.hid hb; clear hb
  have H := Lib.hid ht; clear ht
  have e1 : ((s.l.length : Int) == s.size) = false := by simp; omega
  go_enter Try.func17, Try.ntmps17
  go_wp2_with (go_at_call 31; refine (valid_at b _ _ c2 hsz).mono ?_; rintro e w' ⟨rfl, rfl⟩)
  go_quiet (fail)
  go_wp2
  go_region
  go_wp2
  go_region
  go_wp2
  all_goals go_ret2
  · rename_i hlt
    have e2 : max s.most (s.l.length + 1) = s.l.length + 1 := by omega
    rw [e2]
    refine ⟨rfl, ⟨?_, t, (by have := H.out; simp at this ⊢; omega), ?_⟩, ?_⟩
    · simp only [St.ok] at hok ⊢; simp; omega
    · have g := drew_of (set_of (set_of (set_of (drewN_of HB.out (nq + 1)) (4 + s.l.length) (.int .i64 slot)) 3 (.int .i64 ((s.l.length : Int) + 1))) 1 (.int .i64 ((s.l.length : Int) + 1)))
      rw [g, stset3, show ((s.l.length : Int) + 1) = ((s.l.length + 1 : Nat) : Int) from by omega, stset1]
    · exact (((((Upd.refl _ _).drewN _).setCell (by simp) _).setCell (by simp) _).setCell (by simp) _).drew
  · rename_i hle
    have e2 : max s.most (s.l.length + 1) = s.most := by omega
    rw [e2]
    refine ⟨rfl, ⟨?_, t, (by have := H.out; simp at this ⊢; omega), ?_⟩, ?_⟩
    · simp only [St.ok] at hok ⊢; simp; omega
    · have g := drew_of (set_of (set_of (set_of (drewN_of HB.out (nq + 1)) (4 + s.l.length) (.int .i64 slot)) 3 (.int .i64 ((s.l.length : Int) + 1))) 1 (.int .i64 s.most))
      rw [g, stset3, stset1]
    · exact (((((Upd.refl _ _).drewN _).setCell (by simp) _).setCell (by simp) _).setCell (by simp) _).drew

theorem over_at (b : Nat) (s : St) (w : World) (h : StAt w b s) :
    Calls Try.prog 13 #[.pointer (some ⟨b, 0, none⟩)] w fun e w' => e = .returned (.bool s.over) ∧ w = w' := by
  obtain ⟨hok, tail, ht, hb⟩ := h
  have hsz : (0 : Int) < s.size := by have := hok.1; omega
  have c0 := (cell_of hb 0).trans (stc0 s _)
  have c2 := (cell_of hb 2).trans (stc2 s _)
  clear hb ht
  go_enter Try.func13, Try.ntmps13
  go_wp2_with (go_at_call 31; refine (valid_at b _ _ c2 hsz).mono ?_; rintro e w' ⟨rfl, rfl⟩)
  go_ret
  exact ⟨rfl, rfl⟩

theorem len_at (b : Nat) (s : St) (w : World) (h : StAt w b s) :
    Calls Try.prog 14 #[.pointer (some ⟨b, 0, none⟩)] w fun e w' => e = .returned (.int .i64 s.l.length) ∧ w = w' := by
  obtain ⟨hok, tail, ht, hb⟩ := h
  have hsz : (0 : Int) < s.size := by have := hok.1; omega
  have c2 := (cell_of hb 2).trans (stc2 s _)
  have c3 := (cell_of hb 3).trans (stc3 s _)
  clear hb ht
  go_enter Try.func14, Try.ntmps14
  go_wp2_with (go_at_call 31; refine (valid_at b _ _ c2 hsz).mono ?_; rintro e w' ⟨rfl, rfl⟩)
  go_ret
  exact ⟨rfl, rfl⟩

theorem most_at (b : Nat) (s : St) (w : World) (h : StAt w b s) :
    Calls Try.prog 16 #[.pointer (some ⟨b, 0, none⟩)] w fun e w' => e = .returned (.int .i64 s.most) ∧ w = w' := by
  obtain ⟨hok, tail, ht, hb⟩ := h
  have hsz : (0 : Int) < s.size := by have := hok.1; omega
  have c1 := (cell_of hb 1).trans (stc1 s _)
  have c2 := (cell_of hb 2).trans (stc2 s _)
  clear hb ht
  go_enter Try.func16, Try.ntmps16
  go_wp2_with (go_at_call 31; refine (valid_at b _ _ c2 hsz).mono ?_; rintro e w' ⟨rfl, rfl⟩)
  go_ret
  exact ⟨rfl, rfl⟩

theorem settle_at (b : Nat) (s : St) (w : World) (h : StAt w b s) :
    Calls Try.prog 19 #[.pointer (some ⟨b, 0, none⟩)] w fun e w' => e = .returned (.tuple #[]) ∧ StAt w' b { s with over := false } ∧ Upd [b] w w' := by
  obtain ⟨hok, tail, ht, hb⟩ := h
  have hsz : (0 : Int) < s.size := by have := hok.1; omega
  have c0 := (cell_of hb 0).trans (stc0 s _)
  have c2 := (cell_of hb 2).trans (stc2 s _)
  have f0 := free_of hb 0
  have HB := Lib.hid hb; clear hb
  have H := Lib.hid ht; clear ht
  go_enter Try.func19, Try.ntmps19
  go_wp2_with (go_at_call 31; refine (valid_at b _ _ c2 hsz).mono ?_; rintro e w' ⟨rfl, rfl⟩)
  go_end0
  refine ⟨rfl, ⟨hok, tail, H.out, ?_⟩, ?_⟩
  · rw [← stset0]; exact set_of HB.out 0 _
  · exact (Upd.refl _ _).setCell (by simp) _

theorem pop_empty (b : Nat) (s : St) (w : World) (h : StAt w b s) (hl : s.l = []) :
    Calls Try.prog 15 #[.pointer (some ⟨b, 0, none⟩)] w fun e w' => e = .returned (.tuple #[.int .i64 0, .bool false]) ∧ w = w' := by
  obtain ⟨hok, tail, ht, hb⟩ := h
  have hsz : (0 : Int) < s.size := by have := hok.1; omega
  have c2 := (cell_of hb 2).trans (stc2 s _)
  have c3 := (cell_of hb 3).trans (stc3 s _)
  rw [hl] at c3
  clear hb ht hl
  go_enter Try.func15, Try.ntmps15
  go_wp2_with (go_at_call 31; refine (valid_at b _ _ c2 hsz).mono ?_; rintro e w' ⟨rfl, rfl⟩)
  go_ret2
  exact ⟨rfl, rfl⟩

theorem pop_some (b : Nat) (s : St) (l : List Int) (x : Int) (w : World) (h : StAt w b s) (hl : s.l = l ++ [x]) :
    Calls Try.prog 15 #[.pointer (some ⟨b, 0, none⟩)] w fun e w' => e = .returned (.tuple #[.int .i64 x, .bool true]) ∧ StAt w' b { s with l := l } ∧ Upd [b] w w' := by
  obtain ⟨hok, tail, ht, hb⟩ := h
  have hsz : (0 : Int) < s.size := by have := hok.1; omega
  have h64 : (l.length : Int) < 64 := by have := hok.2; rw [hl] at this; simp at this; omega
  have c2 := (cell_of hb 2).trans (stc2 s _)
  have c3 := (cell_of hb 3).trans (stc3 s _)
  have f3 := free_of hb 3
  have c4 : w.cell? ⟨b, 4 + l.length, none⟩ = some (.int .i64 x) := by rw [cell_of hb, stc4]; simp [hl]
  have el : (s.l.length : Int) = (l.length : Int) + 1 := by rw [hl]; simp
  rw [el] at c3
  clear el
  have e1 : ((l.length : Int) + 1 == 0) = false := by simp; omega
  have HB := Lib.hid hb; clear hb
  have H := Lib.hid ht; clear ht
  have HL := Lib.hid hl; clear hl
  go_enter Try.func15, Try.ntmps15
  go_wp2_with (go_at_call 31; refine (valid_at b _ _ c2 hsz).mono ?_; rintro e w' ⟨rfl, rfl⟩)
  go_quiet (fail)
  go_wp2
  go_ret2
  refine ⟨rfl, ⟨?_, x :: tail, ?_, ?_⟩, ?_⟩
  · have := HL.out; simp only [St.ok] at hok ⊢; rw [this] at hok; simp at hok ⊢; omega
  · have := H.out; rw [HL.out] at this; simp at this ⊢; omega
  · have g := drewN_of (set_of HB.out 3 (.int .i64 (l.length : Int))) nq
    rw [g]; congr 2; simp [stCells, HL.out]
  · exact ((Upd.refl _ _).setCell (by simp) _).drewN _

theorem clear_at (b : Nat) (s : St) (w : World) (h : StAt w b s) :
    Calls Try.prog 20 #[.pointer (some ⟨b, 0, none⟩)] w fun e w' => e = .returned (.tuple #[]) ∧ StAt w' b { size := s.size, l := [], over := false, most := 0 } ∧ Upd [b] w w' := by
  obtain ⟨hok, tail, ht, hb⟩ := h
  have hsz : (0 : Int) < s.size := by have := hok.1; omega
  have c0 := (cell_of hb 0).trans (stc0 s _)
  have c1 := (cell_of hb 1).trans (stc1 s _)
  have c2 := (cell_of hb 2).trans (stc2 s _)
  have c3 := (cell_of hb 3).trans (stc3 s _)
  have f0 := free_of hb 0
  have f1 := free_of hb 1
  have f3 := free_of hb 3
  have HB := Lib.hid hb; clear hb
  have H := Lib.hid ht; clear ht
  go_enter Try.func20, Try.ntmps20
  go_wp2_with (go_at_call 31; refine (valid_at b _ _ c2 hsz).mono ?_; rintro e w' ⟨rfl, rfl⟩)
  go_end0
  refine ⟨rfl, ⟨?_, s.l ++ tail, ?_, ?_⟩, ?_⟩
  · simp only [St.ok] at hok ⊢; simp; omega
  · have := H.out; simp; omega
  · have g := set_of (set_of (set_of HB.out 3 (.int .i64 0)) 0 (.bool false)) 1 (.int .i64 0)
    rw [g]; congr 2
  · exact (((Upd.refl _ _).setCell (by simp) _).setCell (by simp) _).setCell (by simp) _

theorem copy_at (b : Nat) (s : St) (w : World) (h : StAt w b s) :
    Calls Try.prog 26 #[.pointer (some ⟨b, 0, none⟩)] w fun e w' => e = .returned (.pointer (some ⟨w.heap.size, 0, none⟩)) ∧ StAt w' w.heap.size s ∧ Upd [] w w' := by
  obtain ⟨hok, tail, ht, hb⟩ := h
  have hsz : (0 : Int) < s.size := by have := hok.1; omega
  have c2 := (cell_of hb 2).trans (stc2 s _)
  have hi : (Try.prog.info? 52).map (·.size) = some (stCells s tail).size := by rw [stc_size _ _ ht]; kernel_rfl
  have h1 : (stFresh 0).size = (stCells s tail).size := by rw [stc_size _ _ ht]; rfl
  have ha := stc_one s tail
  have HB := Lib.hid hb; clear hb
  have HI := Lib.hid hi; clear hi
  have H := Lib.hid ht; clear ht
  have HS := Lib.hid h1; clear h1
  have HA := Lib.hid ha; clear ha
  have hz := zero52
  go_enter Try.func26, Try.ntmps26
  go_wp2_with (first | (go_at_call 31; refine (valid_at b _ _ c2 hsz).mono ?_; rintro e w' ⟨rfl, rfl⟩) | (refine wpList_load_row rfl 52 _ rfl b rfl 52 _ (0, 0) _ HB.out Try.underlying52 rfl HI.out ?_) | (refine wpList_store_row rfl 52 _ _ rfl w.heap.size _ rfl rfl 52 _ (new_of _ _) HI.out HS.out HA.out ?_))
  go_ret
  refine ⟨rfl, ⟨hok, tail, H.out, setRow_heap _ _ _ _ _ _ (new_of _ _)⟩, ?_⟩
  exact ((Upd.refl _ _).alloc _).setRow (by simp) _

theorem new_ok (n : Nat) (w : World) (h0 : 1 ≤ n) (h1 : n ≤ 64) :
    Calls Try.prog 18 #[.int .i64 n] w fun e w' => e = .returned (.tuple #[.pointer (some ⟨w.heap.size, 0, none⟩), .int .i64 0]) ∧ StAt w' w.heap.size { size := n, l := [], over := false, most := 0 } ∧ Upd [] w w' := by
  have hz := zero52
  have hs := stFresh_size 0
  have ht := stFresh_set n
  go_enter Try.func18, Try.ntmps18
  go_wp2
  go_ret2
  refine ⟨rfl, ⟨?_, z64, by simp [z64], new_of _ _⟩, (Upd.refl _ _).alloc _⟩
  simp only [St.ok]; simp; omega

theorem new_err (n : Int) (w : World) (h : n < 1 ∨ 64 < n) :
    Calls Try.prog 18 #[.int .i64 n] w fun e w' => e = .returned (.tuple #[.pointer none, .int .i64 2]) ∧ w = w' := by
  rcases h with h | h
  · go_enter Try.func18, Try.ntmps18
    go_wp2
    go_ret2
    exact ⟨rfl, rfl⟩
  · have h' : ¬ n < 1 := by omega
    go_enter Try.func18, Try.ntmps18
    go_wp2
    go_ret2
    exact ⟨rfl, rfl⟩

end Go.Proofs.Ytcijjffhnogdfaa
