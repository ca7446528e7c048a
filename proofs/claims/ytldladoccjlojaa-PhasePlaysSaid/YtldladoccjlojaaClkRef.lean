/-
  Contracts of the document's clock (estrayref22): it does what the plain functions say. Conditions: the clock is as New and its own calls leave it.
-/
import Derived.Test.YtldladoccjlojaaClkBar
import Derived.Test.YtldladoccjlojaaApp
namespace Go.Proofs.Ytldladoccjlojaa
open Go.RowKit

theorem infoB : (Try.prog.info? 4).map (fun i => (i.zero, i.size, i.bytes)) = some (some (.bool false), 1, 1) := by kernel_rfl
theorem makeB (n : Nat) (hn : n ≤ 4) (w : World) : (Instr.makeSlice 27 (.int .i64 (n : Int)) (.int .i64 (n : Int))).run Try.prog w = .ok (.slice (some ⟨w.heap.size, 0, none⟩) n n) (w.alloc (.cells (vcells (fun _ => .bool false) n) 4)) := by
  obtain ⟨i0, hi, hz0, hz1, hz2⟩ := info_parts infoB
  exact make_v 27 4 i0 _ 1 n Try.underlying27 hi hz0 hz1 hz2 rfl .i64 .i64 (by omega) (by omega) w

/-- The answers as cells. -/
def bl (s : Nat → Bool) (n : Nat) : List Value := (List.range n).map fun i => Value.bool (s i)
theorem bl_len (s : Nat → Bool) (n : Nat) : (bl s n).length = n := by simp [bl]
theorem bl_at {s : Nat → Bool} {n i : Nat} (h : i < n) : (bl s n)[i]? = some (.bool (s i)) := by simp [bl, h]
theorem bl_one (s : Nat → Bool) (n : Nat) : ∀ x ∈ bl s n, x.oneCell' = true := by
  intro x hx
  obtain ⟨y, _, rfl⟩ := List.mem_map.1 hx
  rfl
theorem bl_ack (k : Ck) (m n : Nat) : bl (k.ack m).s n = (bl k.s n).set m (.bool true) := by
  apply List.ext_getElem?
  intro i
  rw [List.getElem?_set, bl_len]
  by_cases hi : i < n
  · rw [bl_at hi]
    by_cases e : m = i
    · subst e; rw [if_pos rfl, if_pos hi]; simp [Ck.ack]
    · rw [if_neg e, bl_at hi]; simp [Ck.ack, Ne.symm e]
  · rw [List.getElem?_eq_none (by rw [bl_len]; omega)]
    by_cases e : m = i
    · rw [if_pos e, if_neg (by omega)]
    · rw [if_neg e, List.getElem?_eq_none (by rw [bl_len]; omega)]
/-- A row that the call made can be read. -/
theorem sl_row {w : World} {g e n : Nat} {f : Nat → Value} (h : VRow w g e n f) (hf : ∀ i, i < n → (f i).oneCell' = true) (hn : n ≤ 1000) : SlAt w e 1 (.slice (some ⟨g, 0, none⟩) n n) n ((List.range n).map f) := by
  refine ⟨by simp, fun x hx => ?_, some ⟨g, 0, none⟩, n, rfl, Nat.le_refl _, by unfold maxLen; omega, by simp, .inr ⟨g, 0, vcells f n, rfl, h, by rw [vcells_size]; omega, fun i x hx => ?_⟩⟩
  · obtain ⟨y, hy, rfl⟩ := List.mem_map.1 hx
    exact hf y (List.mem_range.1 hy)
  · rw [Nat.zero_add]
    by_cases hi : i < n
    · rw [vcells_at f hi]; simpa [hi] using hx
    · simp [hi] at hx
/-- A store into such a row. -/
theorem SlAt.put {w : World} {e n c g off : Nat} {xs : List Value} (h : SlAt w e 1 (.slice (some ⟨g, off, none⟩) n c) n xs) {i : Nat} (hi : i < n) {v : Value} (hv : v.oneCell' = true) :
    SlAt (w.setCell ⟨g, off + i, none⟩ v) e 1 (.slice (some ⟨g, off, none⟩) n c) n (xs.set i v) := by
  obtain ⟨h1, h2, a, c', h3, h4, h5, h6, h7⟩ := h
  simp at h3
  obtain ⟨rfl, rfl⟩ := h3
  refine ⟨by simpa using h1, fun x hx => ?_, _, c, rfl, h4, h5, h6, ?_⟩
  · rcases List.mem_or_eq_of_mem_set hx with hx | rfl
    · exact h2 x hx
    · exact hv
  · rcases h7 with h7 | ⟨g', off', cur, ha, hg, hs, hr⟩
    · omega
    · simp at ha
      obtain ⟨rfl, rfl⟩ := ha
      refine .inr ⟨g, off, cur.setIfInBounds (off + i) v, rfl, set_of hg _ _, by simpa using hs, fun j x hx => ?_⟩
      rw [List.getElem?_set] at hx
      rw [Array.getElem?_setIfInBounds]
      by_cases e : i = j
      · subst e
        rw [if_pos rfl] at hx ⊢
        rw [if_pos (by omega)]
        split at hx
        · exact hx
        · cases hx
      · rw [if_neg e] at hx
        rw [if_neg (by omega)]
        exact hr j x hx
/-- An owned row that is not empty: where it lies. -/
theorem owns_open {w : World} {base e n : Nat} {v : Value} {xs : List Value} (h : w.ownsRow base e 1 v n xs) (hn : 0 < n) :
    ∃ g c, v = .slice (some ⟨g, 0, none⟩) n c ∧ n ≤ c ∧ base ≤ g ∧ g < w.heap.size ∧ v.ownBlock = some g ∧ (∀ i, w.frozen? ⟨g, i, none⟩ = false) ∧ (∀ i x, xs[i]? = some x → w.cell? ⟨g, i, none⟩ = some x) ∧ (∃ cur, w.heap[g]? = some (.cells cur e (0, 0))) := by
  obtain ⟨hl, h2⟩ := h
  rcases h2 with ⟨rfl, rfl⟩ | ⟨g, cap, cur, rfl, hb, hg, hn', hc, hs, ht⟩
  · simp at hl; omega
  · refine ⟨g, cap, rfl, hn', hb, lt_of_block hg, rfl, fun i => free_of hg i, fun i x hx => ?_, cur, hg⟩
    rw [cell_of hg]
    rw [← ht, List.getElem?_take] at hx
    split at hx
    · simpa using hx
    · cases hx

def RkAt (w : World) (b : Nat) (k : Ck) : Prop :=
  k.ok ∧ ∃ a c, w.heap[b]? = some (.cells #[.bool true, .int .i64 k.p, .slice a k.n c, .int .i64 k.c] 61 (0, 0)) ∧ SlAt w 4 1 (.slice a k.n c) k.n (bl k.s k.n)
theorem ne_elem {w : World} {b : Nat} {c : Array Value} {t e : Nat} {f : Nat × Nat} (hb : w.heap[b]? = some (.cells c t f)) (ht : t ≠ e) : ∀ c', w.heap[b]? ≠ some (.cells c' e (0, 0)) := by
  intro c' hc
  rw [hb] at hc
  simp at hc
  exact ht hc.2.1
theorem RkAt.upd {S : List Nat} {w w' : World} {b : Nat} {k : Ck} (h : RkAt w b k) (u : Upd S w w') (hn : b ∉ S) (hS : ∀ x ∈ S, ∀ c, w.heap[x]? ≠ some (.cells c 4 (0, 0))) : RkAt w' b k := by
  obtain ⟨h1, a, c, h2, h3⟩ := h
  exact ⟨h1, a, c, u.keep h2 hn, h3.upd u hS⟩
theorem RkAt.upd0 {w w' : World} {b : Nat} {k : Ck} (h : RkAt w b k) (u : Upd [] w w') : RkAt w' b k := h.upd u (by simp) (by simp)
theorem RkAt.lt {w : World} {b : Nat} {k : Ck} (h : RkAt w b k) : b < w.heap.size := by
  obtain ⟨_, _, _, h2, _⟩ := h
  exact lt_of_block h2
theorem RkAt.c0 {w : World} {b : Nat} {k : Ck} (h : RkAt w b k) : w.cell? ⟨b, 0, none⟩ = some (.bool true) := by
  obtain ⟨_, _, _, h2, _⟩ := h; exact cell_of h2 0
theorem RkAt.c1 {w : World} {b : Nat} {k : Ck} (h : RkAt w b k) : w.cell? ⟨b, 1, none⟩ = some (.int .i64 k.p) := by
  obtain ⟨_, _, _, h2, _⟩ := h; exact cell_of h2 1
theorem RkAt.c3 {w : World} {b : Nat} {k : Ck} (h : RkAt w b k) : w.cell? ⟨b, 3, none⟩ = some (.int .i64 k.c) := by
  obtain ⟨_, _, _, h2, _⟩ := h; exact cell_of h2 3

theorem rvalid_at (b : Nat) (w : World) (h : w.cell? ⟨b, 0, none⟩ = some (.bool true)) : Calls Try.prog 33 #[.pointer (some ⟨b, 0, none⟩)] w fun e w' => e = .returned (.bool true) ∧ w = w' := by
  go_enter Try.func33, Try.ntmps33
  go_wp2
  go_ret
  exact ⟨rfl, rfl⟩
theorem rphase_at (b : Nat) (k : Ck) (w : World) (h : RkAt w b k) : Calls Try.prog 39 #[.pointer (some ⟨b, 0, none⟩)] w fun e w' => e = .returned (.int .i64 k.p) ∧ w = w' := by
  have c0 := h.c0
  have c1 := h.c1
  clear h
  go_enter Try.func39, Try.ntmps39
  go_wp2_with (go_at_call 33; refine (rvalid_at b _ c0).mono ?_; rintro e w' ⟨rfl, rfl⟩)
  go_ret
  exact ⟨rfl, rfl⟩
theorem rcycles_at (b : Nat) (k : Ck) (w : World) (h : RkAt w b k) : Calls Try.prog 40 #[.pointer (some ⟨b, 0, none⟩)] w fun e w' => e = .returned (.int .i64 k.c) ∧ w = w' := by
  have c0 := h.c0
  have c3 := h.c3
  clear h
  go_enter Try.func40, Try.ntmps40
  go_wp2_with (go_at_call 33; refine (rvalid_at b _ c0).mono ?_; rintro e w' ⟨rfl, rfl⟩)
  go_ret
  exact ⟨rfl, rfl⟩
theorem rshakes_at (b : Nat) (k : Ck) (w : World) (h : RkAt w b k) : Calls Try.prog 36 #[.pointer (some ⟨b, 0, none⟩)] w fun e w' => e = .returned (.bool k.shakes) ∧ w = w' := by
  have c1 := h.c1
  clear h
  by_cases h1 : k.p = 1
  · rw [show k.shakes = true from by simp [Ck.shakes, h1]]
    rw [h1] at c1
    clear h1
    go_enter Try.func36, Try.ntmps36
    go_wp2
    go_ret
    exact ⟨rfl, rfl⟩
  · have hb : ((k.p : Int) == 1) = false := by simpa using (by omega : (k.p : Int) ≠ 1)
    by_cases h2 : k.p = 2
    · rw [show k.shakes = true from by simp [Ck.shakes, h2]]
      rw [h2] at c1
      clear h1 h2 hb
      go_enter Try.func36, Try.ntmps36
      go_wp2
      go_ret
      exact ⟨rfl, rfl⟩
    · rw [show k.shakes = false from by simp [Ck.shakes, h1, h2]]
      have hb2 : ((k.p : Int) == 2) = false := by simpa using (by omega : (k.p : Int) ≠ 2)
      clear h1 h2
      go_enter Try.func36, Try.ntmps36
      go_wp2
      go_ret
      exact ⟨rfl, rfl⟩
theorem rto_at (b : Nat) (k : Ck) (p : Nat) (w : World) (h : RkAt w b k) (hp : p ≤ 5) : Calls Try.prog 34 #[.pointer (some ⟨b, 0, none⟩), .int .i64 p] w fun e w' => e = .returned (.tuple #[]) ∧ RkAt w' b (k.to p) ∧ Upd [b] w w' := by
  obtain ⟨hok, a, c, hb, hl⟩ := h
  have hn4 := hok.2.1
  have hmB := makeB k.n hn4
  have c1 := cell_of hb 1
  have c2 : w.cell? ⟨b, 2, none⟩ = some (.slice a k.n c) := cell_of hb 2
  have f1 := free_of hb 1
  have f2 := free_of hb 2
  have hbl := lt_of_block hb
  have HB := Lib.hid hb; clear hb hl
  go_enter Try.func34, Try.ntmps34
  go_wp2
  go_end0
  have hb2 := set_of (set_of HB.out 1 (.int .i64 p)) 2 (.slice (some ⟨w.heap.size, 0, none⟩) k.n k.n)
  have hnew := VRow.new ((w.setCell ⟨b, 1, none⟩ (.int .i64 p)).setCell ⟨b, 2, none⟩ (.slice (some ⟨w.heap.size, 0, none⟩) k.n k.n)) 4 k.n (fun _ => .bool false)
  rw [World.size_setCell, World.size_setCell] at hnew
  refine ⟨rfl, ⟨⟨hok.1, hok.2.1, hp, hok.2.2.2.1, fun _ _ => rfl⟩, some ⟨w.heap.size, 0, none⟩, k.n, ?_, sl_row hnew (fun _ _ => rfl) (show k.n ≤ 1000 by omega)⟩, (((Upd.refl [b] w).setCell (by simp) _).setCell (by simp) _).alloc _⟩
  rw [alloc_of hb2]; rfl

theorem RkAt.cs {w : World} {b : Nat} {k : Ck} (h : RkAt w b k) : ∃ g off c, w.cell? ⟨b, 2, none⟩ = some (.slice (some ⟨g, off, none⟩) k.n c) ∧ g < w.heap.size ∧ k.n ≤ c ∧ ∀ j, j < k.n → w.cell? ⟨g, off + j, none⟩ = some (.bool (k.s j)) := by
  obtain ⟨hok, a, c, hb, hl⟩ := h
  obtain ⟨g, off, ha, hg, hc, _, _, _⟩ := hl.at1 (show 0 < k.n by have := hok.1; omega)
  subst ha
  refine ⟨g, off, c, cell_of hb 2, hg, hc, fun j hj => ?_⟩
  obtain ⟨g', off', he, _, _, h2, _⟩ := hl.at1 hj
  simp at he
  obtain ⟨rfl, rfl⟩ := he
  rw [h2, bl_at hj]
theorem rseen_in (b : Nat) (k : Ck) (j : Nat) (w : World) (h : RkAt w b k) (hj : j < k.n) : Calls Try.prog 35 #[.pointer (some ⟨b, 0, none⟩), .int .i64 j] w fun e w' => e = .returned (.tuple #[.bool (k.s j), .int .i64 0]) ∧ w = w' := by
  obtain ⟨g, off, c, c2, hg, hc, hs⟩ := h.cs
  have cj := hs j hj
  have c0 := h.c0
  clear h hs
  go_enter Try.func35, Try.ntmps35
  go_wp2_with (go_at_call 33; refine (rvalid_at b _ c0).mono ?_; rintro e w' ⟨rfl, rfl⟩)
  go_ret2
  exact ⟨rfl, rfl⟩
theorem rseen_beyond (b : Nat) (k : Ck) (id : Int) (w : World) (h : RkAt w b k) (hi : id < 0 ∨ (k.n : Int) ≤ id) : Calls Try.prog 35 #[.pointer (some ⟨b, 0, none⟩), .int .i64 id] w fun e w' => e = .returned (.tuple #[.bool false, .int .i64 3]) ∧ w = w' := by
  obtain ⟨g, off, c, c2, hg, hc, hs⟩ := h.cs
  have c0 := h.c0
  clear h hs
  rcases hi with hi | hi
  · go_enter Try.func35, Try.ntmps35
    go_wp2_with (go_at_call 33; refine (rvalid_at b _ c0).mono ?_; rintro e w' ⟨rfl, rfl⟩)
    go_ret2
    exact ⟨rfl, rfl⟩
  · have h0 : ¬ id < 0 := by omega
    go_enter Try.func35, Try.ntmps35
    go_wp2_with (go_at_call 33; refine (rvalid_at b _ c0).mono ?_; rintro e w' ⟨rfl, rfl⟩)
    go_ret2
    exact ⟨rfl, rfl⟩
theorem rready_not (b : Nat) (k : Ck) (w : World) (h : RkAt w b k) (hs : k.shakes = false) : Calls Try.prog 37 #[.pointer (some ⟨b, 0, none⟩)] w fun e w' => e = .returned (.bool false) ∧ w = w' := by
  have c0 := h.c0
  have H := Lib.hid h; clear h
  have HS := Lib.hid hs; clear hs
  go_enter Try.func37, Try.ntmps37
  go_wp2_with (first | (go_at_call 33; refine (rvalid_at b _ c0).mono ?_; rintro e w' ⟨rfl, rfl⟩) | (go_at_call 36; refine (rshakes_at b k _ H.out).mono ?_; rw [HS.out]; rintro e w' ⟨rfl, rfl⟩))
  go_ret
  exact ⟨rfl, rfl⟩
theorem rready_shakes (b : Nat) (k : Ck) (w : World) (h : RkAt w b k) (hs : k.shakes = true) : Calls Try.prog 37 #[.pointer (some ⟨b, 0, none⟩)] w fun e w' => e = .returned (.bool k.rd) ∧ w = w' := by
  rw [rd_all h.1]
  generalize hv : allTo k.s k.n = v
  have HV := Lib.hid hv; clear hv
  obtain ⟨g, off, c, c2, hg, hc, hcs⟩ := h.cs
  have c0 := h.c0
  have hn4 := h.1.2.1
  have H := Lib.hid h; clear h
  have HS := Lib.hid hs; clear hs
  have HC := Lib.hid hcs; clear hcs
  go_enter Try.func37, Try.ntmps37
  go_wp2_with (first | (go_at_call 33; refine (rvalid_at b _ c0).mono ?_; rintro e w' ⟨rfl, rfl⟩) | (go_at_call 36; refine (rshakes_at b k _ H.out).mono ?_; rw [HS.out]; rintro e w' ⟨rfl, rfl⟩))
  go_loop [3] (fun x => ∃ j : Nat, j ≤ k.n ∧ x = .int .i64 j ∧ allTo k.s j = true) (fun x => k.n - (intOf x).toNat)
  case atStart => exact ⟨0, by omega, rfl, rfl⟩
  case round =>
    obtain ⟨j, hj, rfl, ha⟩ := hrel
    have HA := Lib.hid ha; clear ha
    by_cases hlt : j < k.n
    · have cj := HC.out j hlt
      cases hsj : k.s j
      · rw [hsj] at cj
        have HSJ := Lib.hid hsj; clear hsj
        have hres : v = false := by
          cases h : v
          · rfl
          · have := (allTo_iff k.s k.n).1 (HV.out.trans h) j hlt
            rw [HSJ.out] at this; cases this
        subst hres
        go_wp2
        go_ret
        exact ⟨rfl, rfl⟩
      · rw [hsj] at cj
        have HSJ := Lib.hid hsj; clear hsj
        go_wp2
        go_round
        case rel => exact ⟨j + 1, by omega, by go_num, by rw [allTo, HA.out, HSJ.out]; rfl⟩
        case measure => simp [intOf]; omega
    · obtain rfl : j = k.n := by omega
      obtain rfl : v = true := by rw [← HV.out]; exact HA.out
      go_wp2
      go_ret
      exact ⟨rfl, rfl⟩
theorem rbegin_idle (b : Nat) (k : Ck) (w : World) (h : RkAt w b k) (hp : k.p = 0) : Calls Try.prog 23 #[.pointer (some ⟨b, 0, none⟩)] w fun e w' => e = .returned (.int .i64 0) ∧ RkAt w' b (k.to 1) ∧ Upd [b] w w' := by
  have c0 := h.c0
  have c1 := h.c1
  rw [hp] at c1
  clear hp
  have H := Lib.hid h; clear h
  go_enter Try.func23, Try.ntmps23
  go_wp2_with (first | (go_at_call 33; refine (rvalid_at b _ c0).mono ?_; rintro e w' ⟨rfl, rfl⟩) | (go_at_call 34; refine (rto_at b k 1 _ H.out (by omega)).mono ?_; rintro e w' ⟨rfl, a, u⟩))
  go_ret
  exact ⟨rfl, a, u⟩
theorem rbegin_not (b : Nat) (k : Ck) (w : World) (h : RkAt w b k) (hp : k.p ≠ 0) : Calls Try.prog 23 #[.pointer (some ⟨b, 0, none⟩)] w fun e w' => e = .returned (.int .i64 8) ∧ w = w' := by
  have c0 := h.c0
  have c1 := h.c1
  have hb : ((k.p : Int) != 0) = true := by simpa using hp
  clear hp h
  go_enter Try.func23, Try.ntmps23
  go_wp2_with (go_at_call 33; refine (rvalid_at b _ c0).mono ?_; rintro e w' ⟨rfl, rfl⟩)
  go_ret
  exact ⟨rfl, rfl⟩
theorem rgo_idle (b : Nat) (k : Ck) (w : World) (h : RkAt w b k) (hp : k.p = 0) : Calls Try.prog 25 #[.pointer (some ⟨b, 0, none⟩)] w fun e w' => e = .returned (.int .i64 8) ∧ w = w' := by
  have c0 := h.c0
  have c1 := h.c1
  rw [hp] at c1
  clear hp h
  go_enter Try.func25, Try.ntmps25
  go_wp2_with (go_at_call 33; refine (rvalid_at b _ c0).mono ?_; rintro e w' ⟨rfl, rfl⟩)
  go_ret
  exact ⟨rfl, rfl⟩
theorem rgo_busy (b : Nat) (k : Ck) (w : World) (h : RkAt w b k) (hs : k.shakes = true) (hr : k.rd = false) : Calls Try.prog 25 #[.pointer (some ⟨b, 0, none⟩)] w fun e w' => e = .returned (.int .i64 13) ∧ w = w' := by
  have c0 := h.c0
  have c1 := h.c1
  have hp : ((k.p : Int) == 0) = false := by
    have : k.p = 1 ∨ k.p = 2 := by simpa [Ck.shakes] using hs
    simp; omega
  have H := Lib.hid h; clear h
  have HS := Lib.hid hs; clear hs
  have HR := Lib.hid hr; clear hr
  go_enter Try.func25, Try.ntmps25
  go_wp2_with (first | (go_at_call 33; refine (rvalid_at b _ c0).mono ?_; rintro e w' ⟨rfl, rfl⟩) | (go_at_call 36; refine (rshakes_at b k _ H.out).mono ?_; rw [HS.out]; rintro e w' ⟨rfl, rfl⟩) | (go_at_call 37; refine (rready_shakes b k _ H.out HS.out).mono ?_; rw [HR.out]; rintro e w' ⟨rfl, rfl⟩))
  go_ret
  exact ⟨rfl, rfl⟩
theorem rgo_next (b : Nat) (k : Ck) (w : World) (h : RkAt w b k) (hp : k.p ≠ 0) (hs : k.shakes = false ∨ k.rd = true) (hc : k.c < 1000000) : Calls Try.prog 25 #[.pointer (some ⟨b, 0, none⟩)] w fun e w' => e = .returned (.int .i64 0) ∧ RkAt w' b k.next ∧ Upd [b] w w' := by
  have c0 := h.c0
  have c1 := h.c1
  have hp5 : k.p ≤ 5 := h.1.2.2.1
  have hb0 : ((k.p : Int) == 0) = false := by simp; omega
  have hS : k.shakes = true → k.rd = true := fun h => by rcases hs with h2 | h2; rw [h2] at h; cases h; exact h2
  have H := Lib.hid h; clear h
  have HS := Lib.hid hS; clear hS hs
  by_cases h5 : k.p = 5
  · have hsh : k.shakes = false := by simp [Ck.shakes, h5]
    have HSH := Lib.hid hsh; clear hsh
    rw [h5] at c1
    have H5 := Lib.hid h5; clear h5 hb0 hp
    go_enter Try.func25, Try.ntmps25
    go_wp2_with fail
    refine (rvalid_at b _ c0).mono ?_; rintro e w' ⟨rfl, rfl⟩
    go_wp2_with fail
    refine (rshakes_at b k _ H.out).mono ?_; rw [HSH.out]; rintro e w' ⟨rfl, rfl⟩
    go_wp2_with fail
    refine (rto_at b k 0 _ H.out (by omega)).mono ?_; rintro e w1 ⟨rfl, a1, u1⟩
    have d3 : w1.cell? ⟨b, 3, none⟩ = some (.int .i64 k.c) := a1.c3
    obtain ⟨hok1, aa, cc, hb1, hl1⟩ := a1
    have f3 := free_of hb1 3
    have hcb : (k.c : Int) ≤ 1000000 := by omega
    have HB1 := Lib.hid hb1; have HL1 := Lib.hid hl1
    clear hb1 hl1
    go_wp2_with fail
    go_ret
    refine ⟨rfl, ⟨?_, aa, cc, ?_, ?_⟩, u1.setCell (by simp) _⟩
    · refine ⟨hok1.1, hok1.2.1, ?_, ?_, fun _ _ => rfl⟩
      · simp [Ck.next, H5.out]
      · simp [Ck.next, H5.out]; omega
    · rw [set_of HB1.out 3]
      simp [Ck.next, H5.out, Ck.to]
    · exact HL1.out.set1 HB1.out (by decide) _ _
  · have hb5 : ((k.p : Int) == 5) = false := by simp; omega
    have hlt5 : (k.p : Int) < 5 := by omega
    have hnext : k.next = k.to (k.p + 1) := by
      simp only [Ck.next, Ck.to, if_neg h5, Nat.mod_eq_of_lt (show k.p + 1 < 6 by omega)]
    have HN := Lib.hid hnext; clear hnext h5 hp
    cases hsh : k.shakes
    · have HSH := Lib.hid hsh; clear hsh
      go_enter Try.func25, Try.ntmps25
      go_wp2_with fail
      refine (rvalid_at b _ c0).mono ?_; rintro e w' ⟨rfl, rfl⟩
      go_wp2_with fail
      refine (rshakes_at b k _ H.out).mono ?_; rw [HSH.out]; rintro e w' ⟨rfl, rfl⟩
      go_wp2_with fail
      rw [show (k.p : Int) + 1 = ((k.p + 1 : Nat) : Int) from by omega]
      refine (rto_at b k (k.p + 1) _ H.out (by omega)).mono ?_; rw [← HN.out]; rintro e w1 ⟨rfl, a1, u1⟩
      go_wp2_with fail
      go_ret
      exact ⟨rfl, a1, u1⟩
    · have HSH := Lib.hid hsh; clear hsh
      go_enter Try.func25, Try.ntmps25
      go_wp2_with fail
      refine (rvalid_at b _ c0).mono ?_; rintro e w' ⟨rfl, rfl⟩
      go_wp2_with fail
      refine (rshakes_at b k _ H.out).mono ?_; rw [HSH.out]; rintro e w' ⟨rfl, rfl⟩
      go_wp2_with fail
      refine (rready_shakes b k _ H.out HSH.out).mono ?_; rw [HS.out HSH.out]; rintro e w' ⟨rfl, rfl⟩
      go_wp2_with fail
      rw [show (k.p : Int) + 1 = ((k.p + 1 : Nat) : Int) from by omega]
      refine (rto_at b k (k.p + 1) _ H.out (by omega)).mono ?_; rw [← HN.out]; rintro e w1 ⟨rfl, a1, u1⟩
      go_wp2_with fail
      go_ret
      exact ⟨rfl, a1, u1⟩

end Go.Proofs.Ytldladoccjlojaa
