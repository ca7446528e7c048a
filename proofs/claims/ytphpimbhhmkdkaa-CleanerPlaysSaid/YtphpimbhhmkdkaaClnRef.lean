/-
  Contracts of the document's table: an array of the ids' states. Conditions: none.
-/
import Derived.Test.YtphpimbhhmkdkaaClnGet
import Derived.Handy
namespace Go.Proofs.Ytphpimbhhmkdkaa
open Go.RowKit Go.Maps

/-- The states of all ids, as cells. -/
def tC (f : Nat → Nat) : Array Value := ((List.range 256).map (fun i => Value.int .i64 (f i))).toArray
theorem tC_size (f : Nat → Nat) : (tC f).size = 256 := by simp [tC]
theorem tC_at (f : Nat → Nat) {i : Nat} (h : i < 256) : (tC f)[i]? = some (.int .i64 (f i)) := by simp [tC, h]
theorem tC_set (f : Nat → Nat) {i : Nat} (v : Nat) : (tC f).setIfInBounds i (.int .i64 v) = tC (upd f i v) := by
  apply Array.ext_getElem?
  intro j
  rw [Array.getElem?_setIfInBounds]
  by_cases hj : j < 256
  · rw [tC_at _ hj, tC_at _ hj]
    by_cases e : i = j
    · subst e; simp [upd_same, tC_size, hj]
    · rw [if_neg e, upd_other f v (fun h => e h.symm)]
  · have h1 : (tC f)[j]? = none := by simp [tC]; omega
    have h2 : (tC (upd f i v))[j]? = none := by simp [tC]; omega
    rw [h1, h2]
    by_cases e : i = j
    · subst e; rw [if_pos rfl, if_neg (by rw [tC_size]; exact hj)]
    · rw [if_neg e]

/-- Block r is the document's table. -/
def RAt (w : World) (r : Nat) (f : Nat → Nat) : Prop := w.heap[r]? = some (.cells (tC f) 68 (0, 0))
theorem RAt.upd {w w' : World} {r : Nat} {f : Nat → Nat} (h : RAt w r f) {S : List Nat} (u : Upd S w w') (hr : r ∉ S) : RAt w' r f := u.keep h hr
theorem RAt.lt {w : World} {r : Nat} {f : Nat → Nat} (h : RAt w r f) : r < w.heap.size := lt_of_block h
theorem RAt.cell {w : World} {r : Nat} {f : Nat → Nat} (h : RAt w r f) {i : Nat} (hi : i < 256) : w.cell? ⟨r, i, none⟩ = some (.int .i64 (f i)) := by
  rw [cell_of h, tC_at f hi]
theorem RAt.ne {w : World} {r b m : Nat} {f g : Nat → Nat} (h : RAt w r f) (h2 : ClAt w b m g) : r ≠ m ∧ r ≠ b := by
  obtain ⟨_, hb, ⟨es, c, hm, _⟩, _⟩ := h2
  constructor
  · rintro rfl
    rw [RAt] at h; rw [h] at hm; simp at hm
  · rintro rfl
    rw [RAt] at h; rw [h] at hb; simp at hb

theorem rcheck_in (r : Nat) (f : Nat → Nat) (i : Nat) (w : World) (h : RAt w r f) (hi : i < 256) :
    Calls Try.prog 30 #[.pointer (some ⟨r, 0, none⟩), .int .i64 i] w fun e w' => e = .returned (.int .i64 (findE f i)) ∧ w = w' := by
  have c0 := h.cell hi
  by_cases hz : f i = 0
  · rw [findE, if_pos hz]
    have hb : ((f i : Int) == 0) = true := by simpa using hz
    clear h hz
    go_enter Try.func30, Try.ntmps30
    go_wp2
    go_ret
    exact ⟨rfl, rfl⟩
  · rw [findE, if_neg hz]
    have hb : ((f i : Int) == 0) = false := by simpa using hz
    clear h hz
    go_enter Try.func30, Try.ntmps30
    go_wp2
    go_ret
    exact ⟨rfl, rfl⟩
theorem rcheck_beyond (r : Nat) (id : Int) (w : World) (hi : id < 0 ∨ 256 ≤ id) :
    Calls Try.prog 30 #[.pointer (some ⟨r, 0, none⟩), .int .i64 id] w fun e w' => e = .returned (.int .i64 3) ∧ w = w' := by
  rcases hi with hi | hi
  · have hd : decide (id < 0) = true := by simpa using hi
    go_enter Try.func30, Try.ntmps30
    go_wp2
    go_ret
    exact ⟨rfl, rfl⟩
  · have hd : decide (id < 0) = false := by simp; omega
    go_enter Try.func30, Try.ntmps30
    go_wp2
    go_ret
    exact ⟨rfl, rfl⟩
theorem rset {w : World} {r : Nat} {f : Nat → Nat} (h : RAt w r f) (i v : Nat) : RAt (w.setCell ⟨r, i, none⟩ (.int .i64 v)) r (upd f i v) ∧ Upd [r] w (w.setCell ⟨r, i, none⟩ (.int .i64 v)) := by
  refine ⟨?_, (Upd.refl [r] w).setCell (by simp) _⟩
  unfold RAt
  rw [set_of h i, tC_set]
theorem rarm_have (r : Nat) (f : Nat → Nat) (i : Nat) (w : World) (h : RAt w r f) (hi : i < 256) (hf : f i ≠ 0) :
    Calls Try.prog 21 #[.pointer (some ⟨r, 0, none⟩), .int .i64 i] w fun e w' => e = .returned (.int .i64 6) ∧ w = w' := by
  have H := Lib.hid h; clear h
  have hE : findE f i = 0 := by rw [findE, if_neg hf]
  have HE := Lib.hid hE; clear hE hf
  go_enter Try.func21, Try.ntmps21
  go_wp2_with (go_at_call 30; refine (rcheck_in r f i _ H.out hi).mono ?_; rw [HE.out]; rintro e w' ⟨rfl, rfl⟩)
  go_ret
  exact ⟨rfl, rfl⟩
theorem rarm_beyond (r : Nat) (id : Int) (w : World) (hi : id < 0 ∨ 256 ≤ id) :
    Calls Try.prog 21 #[.pointer (some ⟨r, 0, none⟩), .int .i64 id] w fun e w' => e = .returned (.int .i64 3) ∧ w = w' := by
  have HI := Lib.hid hi; clear hi
  go_enter Try.func21, Try.ntmps21
  go_wp2_with (go_at_call 30; refine (rcheck_beyond r id _ HI.out).mono ?_; rintro e w' ⟨rfl, rfl⟩)
  go_ret
  exact ⟨rfl, rfl⟩
theorem rarm_new (r : Nat) (f : Nat → Nat) (i : Nat) (w : World) (h : RAt w r f) (hi : i < 256) (hf : f i = 0) :
    Calls Try.prog 21 #[.pointer (some ⟨r, 0, none⟩), .int .i64 i] w fun e w' => e = .returned (.int .i64 0) ∧ RAt w' r (upd f i 1) ∧ Upd [r] w w' := by
  have H := Lib.hid h
  have c0 := h.cell hi
  have fr : w.frozen? ⟨r, i, none⟩ = false := free_of h i
  have hE : findE f i = 5 := by rw [findE, if_pos hf]
  have HE := Lib.hid hE; clear hE hf h
  go_enter Try.func21, Try.ntmps21
  go_wp2_with (go_at_call 30; refine (rcheck_in r f i _ H.out hi).mono ?_; rw [HE.out]; rintro e w' ⟨rfl, rfl⟩)
  go_ret
  exact ⟨rfl, rset H.out i 1⟩

theorem rend_beyond (r : Nat) (id s : Int) (w : World) (hi : id < 0 ∨ 256 ≤ id) :
    Calls Try.prog 31 #[.pointer (some ⟨r, 0, none⟩), .int .i64 id, .int .i64 s] w fun e w' => e = .returned (.tuple #[.bool false, .int .i64 3]) ∧ w = w' := by
  have HI := Lib.hid hi; clear hi
  go_enter Try.func31, Try.ntmps31
  go_wp2_with (go_at_call 30; refine (rcheck_beyond r id _ HI.out).mono ?_; rintro e w' ⟨rfl, rfl⟩)
  go_ret2
  exact ⟨rfl, rfl⟩
theorem rend_not (r : Nat) (f : Nat → Nat) (i : Nat) (s : Int) (w : World) (h : RAt w r f) (hi : i < 256) (hf : f i ≠ 1) :
    Calls Try.prog 31 #[.pointer (some ⟨r, 0, none⟩), .int .i64 i, .int .i64 s] w fun e w' => e = .returned (.tuple #[.bool false, .int .i64 (findE f i)]) ∧ w = w' := by
  have c0 := h.cell hi
  have H := Lib.hid h; clear h
  have hf2 : ((f i : Int) != 1) = true := by simpa using (by omega : (f i : Int) ≠ 1)
  by_cases hz : f i = 0
  · have hE : findE f i = 5 := by rw [findE, if_pos hz]
    rw [hE]
    have HE := Lib.hid hE; clear hE hz hf
    go_enter Try.func31, Try.ntmps31
    go_wp2_with (go_at_call 30; refine (rcheck_in r f i _ H.out hi).mono ?_; rw [HE.out]; rintro e w' ⟨rfl, rfl⟩)
    go_ret2
    exact ⟨rfl, rfl⟩
  · have hE : findE f i = 0 := by rw [findE, if_neg hz]
    rw [hE]
    have HE := Lib.hid hE; clear hE hz hf
    go_enter Try.func31, Try.ntmps31
    go_wp2_with (go_at_call 30; refine (rcheck_in r f i _ H.out hi).mono ?_; rw [HE.out]; rintro e w' ⟨rfl, rfl⟩)
    go_ret2
    exact ⟨rfl, rfl⟩
theorem rend_armed (r : Nat) (f : Nat → Nat) (i s : Nat) (w : World) (h : RAt w r f) (hi : i < 256) (hf : f i = 1) :
    Calls Try.prog 31 #[.pointer (some ⟨r, 0, none⟩), .int .i64 i, .int .i64 s] w fun e w' => e = .returned (.tuple #[.bool true, .int .i64 0]) ∧ RAt w' r (upd f i s) ∧ Upd [r] w w' := by
  have c0 := h.cell hi
  have fr : w.frozen? ⟨r, i, none⟩ = false := free_of h i
  rw [hf] at c0
  have H := Lib.hid h; clear h
  have hE : findE f i = 0 := by rw [findE, hf]; rfl
  have HE := Lib.hid hE; clear hE hf
  go_enter Try.func31, Try.ntmps31
  go_wp2_with (go_at_call 30; refine (rcheck_in r f i _ H.out hi).mono ?_; rw [HE.out]; rintro e w' ⟨rfl, rfl⟩)
  go_ret2
  exact ⟨rfl, rset H.out i s⟩
theorem rfire_beyond (r : Nat) (id : Int) (w : World) (hi : id < 0 ∨ 256 ≤ id) :
    Calls Try.prog 22 #[.pointer (some ⟨r, 0, none⟩), .int .i64 id] w fun e w' => e = .returned (.tuple #[.bool false, .int .i64 3]) ∧ w = w' := by
  have HI := Lib.hid hi; clear hi
  go_enter Try.func22, Try.ntmps22
  go_wp2_with (go_at_call 31; refine (rend_beyond r id 2 _ HI.out).mono ?_; rintro e w' ⟨rfl, rfl⟩)
  go_ret2
  exact ⟨rfl, rfl⟩
theorem rfire_not (r : Nat) (f : Nat → Nat) (i : Nat) (w : World) (h : RAt w r f) (hi : i < 256) (hf : f i ≠ 1) :
    Calls Try.prog 22 #[.pointer (some ⟨r, 0, none⟩), .int .i64 i] w fun e w' => e = .returned (.tuple #[.bool false, .int .i64 (findE f i)]) ∧ w = w' := by
  have H := Lib.hid h; clear h
  have HF := Lib.hid hf; clear hf
  go_enter Try.func22, Try.ntmps22
  go_wp2_with (go_at_call 31; refine (rend_not r f i 2 _ H.out hi HF.out).mono ?_; rintro e w' ⟨rfl, rfl⟩)
  go_ret2
  exact ⟨rfl, rfl⟩
theorem rfire_armed (r : Nat) (f : Nat → Nat) (i : Nat) (w : World) (h : RAt w r f) (hi : i < 256) (hf : f i = 1) :
    Calls Try.prog 22 #[.pointer (some ⟨r, 0, none⟩), .int .i64 i] w fun e w' => e = .returned (.tuple #[.bool true, .int .i64 0]) ∧ RAt w' r (upd f i 2) ∧ Upd [r] w w' := by
  have H := Lib.hid h; clear h
  have HF := Lib.hid hf; clear hf
  go_enter Try.func22, Try.ntmps22
  go_wp2_with (go_at_call 31; refine (rend_armed r f i 2 _ H.out hi HF.out).mono ?_; rintro e w' ⟨rfl, a, u⟩)
  go_ret2
  exact ⟨rfl, a, u⟩
theorem rcancel_beyond (r : Nat) (id : Int) (w : World) (hi : id < 0 ∨ 256 ≤ id) :
    Calls Try.prog 23 #[.pointer (some ⟨r, 0, none⟩), .int .i64 id] w fun e w' => e = .returned (.tuple #[.bool false, .int .i64 3]) ∧ w = w' := by
  have HI := Lib.hid hi; clear hi
  go_enter Try.func23, Try.ntmps23
  go_wp2_with (go_at_call 31; refine (rend_beyond r id 3 _ HI.out).mono ?_; rintro e w' ⟨rfl, rfl⟩)
  go_ret2
  exact ⟨rfl, rfl⟩
theorem rcancel_not (r : Nat) (f : Nat → Nat) (i : Nat) (w : World) (h : RAt w r f) (hi : i < 256) (hf : f i ≠ 1) :
    Calls Try.prog 23 #[.pointer (some ⟨r, 0, none⟩), .int .i64 i] w fun e w' => e = .returned (.tuple #[.bool false, .int .i64 (findE f i)]) ∧ w = w' := by
  have H := Lib.hid h; clear h
  have HF := Lib.hid hf; clear hf
  go_enter Try.func23, Try.ntmps23
  go_wp2_with (go_at_call 31; refine (rend_not r f i 3 _ H.out hi HF.out).mono ?_; rintro e w' ⟨rfl, rfl⟩)
  go_ret2
  exact ⟨rfl, rfl⟩
theorem rcancel_armed (r : Nat) (f : Nat → Nat) (i : Nat) (w : World) (h : RAt w r f) (hi : i < 256) (hf : f i = 1) :
    Calls Try.prog 23 #[.pointer (some ⟨r, 0, none⟩), .int .i64 i] w fun e w' => e = .returned (.tuple #[.bool true, .int .i64 0]) ∧ RAt w' r (upd f i 3) ∧ Upd [r] w w' := by
  have H := Lib.hid h; clear h
  have HF := Lib.hid hf; clear hf
  go_enter Try.func23, Try.ntmps23
  go_wp2_with (go_at_call 31; refine (rend_armed r f i 3 _ H.out hi HF.out).mono ?_; rintro e w' ⟨rfl, a, u⟩)
  go_ret2
  exact ⟨rfl, a, u⟩
theorem rforget_beyond (r : Nat) (id : Int) (w : World) (hi : id < 0 ∨ 256 ≤ id) :
    Calls Try.prog 24 #[.pointer (some ⟨r, 0, none⟩), .int .i64 id] w fun e w' => e = .returned (.int .i64 3) ∧ w = w' := by
  have HI := Lib.hid hi; clear hi
  go_enter Try.func24, Try.ntmps24
  go_wp2_with (go_at_call 30; refine (rcheck_beyond r id _ HI.out).mono ?_; rintro e w' ⟨rfl, rfl⟩)
  go_ret
  exact ⟨rfl, rfl⟩
theorem rforget_none (r : Nat) (f : Nat → Nat) (i : Nat) (w : World) (h : RAt w r f) (hi : i < 256) (hf : f i = 0) :
    Calls Try.prog 24 #[.pointer (some ⟨r, 0, none⟩), .int .i64 i] w fun e w' => e = .returned (.int .i64 5) ∧ w = w' := by
  have H := Lib.hid h; clear h
  have hE : findE f i = 5 := by rw [findE, if_pos hf]
  have HE := Lib.hid hE; clear hE hf
  go_enter Try.func24, Try.ntmps24
  go_wp2_with (go_at_call 30; refine (rcheck_in r f i _ H.out hi).mono ?_; rw [HE.out]; rintro e w' ⟨rfl, rfl⟩)
  go_ret
  exact ⟨rfl, rfl⟩
theorem rforget_armed (r : Nat) (f : Nat → Nat) (i : Nat) (w : World) (h : RAt w r f) (hi : i < 256) (hf : f i = 1) :
    Calls Try.prog 24 #[.pointer (some ⟨r, 0, none⟩), .int .i64 i] w fun e w' => e = .returned (.int .i64 8) ∧ w = w' := by
  have c0 := h.cell hi
  rw [hf] at c0
  have H := Lib.hid h; clear h
  have hE : findE f i = 0 := by rw [findE, hf]; rfl
  have HE := Lib.hid hE; clear hE hf
  go_enter Try.func24, Try.ntmps24
  go_wp2_with (go_at_call 30; refine (rcheck_in r f i _ H.out hi).mono ?_; rw [HE.out]; rintro e w' ⟨rfl, rfl⟩)
  go_ret
  exact ⟨rfl, rfl⟩
theorem rforget_done (r : Nat) (f : Nat → Nat) (i : Nat) (w : World) (h : RAt w r f) (hi : i < 256) (hf : f i ≠ 0) (hf1 : f i ≠ 1) :
    Calls Try.prog 24 #[.pointer (some ⟨r, 0, none⟩), .int .i64 i] w fun e w' => e = .returned (.int .i64 0) ∧ RAt w' r (upd f i 0) ∧ Upd [r] w w' := by
  have c0 := h.cell hi
  have fr : w.frozen? ⟨r, i, none⟩ = false := free_of h i
  have H := Lib.hid h; clear h
  have hE : findE f i = 0 := by rw [findE, if_neg hf]
  have hb1 : ((f i : Int) == 1) = false := by simpa using (by omega : (f i : Int) ≠ 1)
  have HE := Lib.hid hE; clear hE hf hf1
  go_enter Try.func24, Try.ntmps24
  go_wp2_with (go_at_call 30; refine (rcheck_in r f i _ H.out hi).mono ?_; rw [HE.out]; rintro e w' ⟨rfl, rfl⟩)
  go_ret
  exact ⟨rfl, rset H.out i 0⟩
theorem rget_at (r : Nat) (f : Nat → Nat) (i : Nat) (w : World) (h : RAt w r f) (hi : i < 256) :
    Calls Try.prog 33 #[.pointer (some ⟨r, 0, none⟩), .int .i64 i] w fun e w' => e = .returned (.tuple #[.agg #[.int .i64 (gI f i), .int .i64 (f i)], .int .i64 (findE f i)]) ∧ Upd [] w w' := by
  have ha : Upd [] w (w.alloc (.cells #[.int .i64 0, .int .i64 0] 70)) := (Upd.refl [] w).alloc _
  have H := Lib.hid (h.upd ha (by simp))
  have hr := h.lt
  have c0 := h.cell hi
  clear h ha
  by_cases hz : f i = 0
  · have hE : findE f i = 5 := by rw [findE, if_pos hz]
    rw [hE, gI, if_pos hz, hz]
    have HE := Lib.hid hE; clear hE hz
    go_enter Try.func33, Try.ntmps33
    go_wp2_with (go_at_call 30; refine (rcheck_in r f i _ H.out hi).mono ?_; rw [HE.out]; rintro e w' ⟨rfl, rfl⟩)
    go_returns
    exact ⟨rfl, (Upd.refl _ _).alloc _⟩
  · have hE : findE f i = 0 := by rw [findE, if_neg hz]
    rw [hE, gI, if_neg hz]
    have HE := Lib.hid hE; clear hE hz
    go_enter Try.func33, Try.ntmps33
    go_wp2_with (go_at_call 30; refine (rcheck_in r f i _ H.out hi).mono ?_; rw [HE.out]; rintro e w' ⟨rfl, rfl⟩)
    go_returns
    exact ⟨rfl, (Upd.refl _ _).alloc _⟩
theorem rget_beyond (r : Nat) (id : Int) (w : World) (hi : id < 0 ∨ 256 ≤ id) :
    Calls Try.prog 33 #[.pointer (some ⟨r, 0, none⟩), .int .i64 id] w fun e w' => e = .returned (.tuple #[.agg #[.int .i64 0, .int .i64 0], .int .i64 3]) ∧ Upd [] w w' := by
  have HI := Lib.hid hi; clear hi
  go_enter Try.func33, Try.ntmps33
  go_wp2_with (go_at_call 30; refine (rcheck_beyond r id _ HI.out).mono ?_; rintro e w' ⟨rfl, rfl⟩)
  go_returns
  exact ⟨rfl, (Upd.refl _ _).alloc _⟩
end Go.Proofs.Ytphpimbhhmkdkaa
