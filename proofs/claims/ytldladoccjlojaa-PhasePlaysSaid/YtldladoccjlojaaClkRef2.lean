/-
  The document's clock: answers, barriers, a new one, a copy. Conditions: as in ClkRef.
-/
import Derived.Test.YtldladoccjlojaaClkRef
namespace Go.Proofs.Ytldladoccjlojaa
open Go.RowKit

theorem rack_beyond (b : Nat) (k : Ck) (id : Int) (w : World) (h : RkAt w b k) (hi : id < 0 ∨ (k.n : Int) ≤ id) : Calls Try.prog 24 #[.pointer (some ⟨b, 0, none⟩), .int .i64 id] w fun e w' => e = .returned (.tuple #[.bool false, .int .i64 3]) ∧ w = w' := by
  have H := Lib.hid h; clear h
  have HI := Lib.hid hi; clear hi
  go_enter Try.func24, Try.ntmps24
  go_wp2_with (go_at_call 35; refine (rseen_beyond b k _ _ H.out HI.out).mono ?_; rintro e w' ⟨rfl, rfl⟩)
  go_ret2
  exact ⟨rfl, rfl⟩
theorem rack_not (b : Nat) (k : Ck) (j : Nat) (w : World) (h : RkAt w b k) (hj : j < k.n) (hs : k.shakes = false) : Calls Try.prog 24 #[.pointer (some ⟨b, 0, none⟩), .int .i64 j] w fun e w' => e = .returned (.tuple #[.bool false, .int .i64 8]) ∧ w = w' := by
  have H := Lib.hid h; clear h
  have HS := Lib.hid hs; clear hs
  go_enter Try.func24, Try.ntmps24
  go_wp2_with (first | (go_at_call 35; refine (rseen_in b k j _ H.out hj).mono ?_; rintro e w' ⟨rfl, rfl⟩) | (go_at_call 36; refine (rshakes_at b k _ H.out).mono ?_; rw [HS.out]; rintro e w' ⟨rfl, rfl⟩))
  go_ret2
  exact ⟨rfl, rfl⟩
set_option maxHeartbeats 1000000 in
theorem rack_in (b : Nat) (k : Ck) (j : Nat) (w : World) (h : RkAt w b k) (hj : j < k.n) (hs : k.shakes = true) : Calls Try.prog 24 #[.pointer (some ⟨b, 0, none⟩), .int .i64 j] w fun e w' => e = .returned (.tuple #[.bool (!k.s j), .int .i64 0]) ∧ RkAt w' b (k.ack j) ∧ Upd [b] w w' := by
  have H := Lib.hid h
  have HS := Lib.hid hs; clear hs
  obtain ⟨hok, a, c, hb, hl⟩ := h
  have hn4 := hok.2.1
  have c2 : w.cell? ⟨b, 2, none⟩ = some (.slice a k.n c) := cell_of hb 2
  have hbs := lt_of_block hb
  have HB := Lib.hid hb; clear hb
  have HL := Lib.hid hl; clear hl
  obtain ⟨i0, hi, hz0, hz1, hz2⟩ := info_parts infoB
  go_enter Try.func24, Try.ntmps24
  go_wp2_with fail
  refine (rseen_in b k j _ H.out hj).mono ?_; rintro e w' ⟨rfl, rfl⟩
  go_wp2_with fail
  refine (rshakes_at b k _ H.out).mono ?_; rw [HS.out]; rintro e w' ⟨rfl, rfl⟩
  generalize hsj : k.s j = sj at *
  have SJ := Lib.hid hsj; clear hsj
  go_wp2_with (at_builtin; refine wpList_append_any _ rfl (.tmp 21) (.tmp 25) 27 rfl w.heap.size 4 i0 (.bool false) 1 1 Try.underlying27 hi hz0 hz1 hz2 rfl (by decide) _ 0 [] rfl (owns_lit0 _ 4 1) _ k.n _ rfl (HL.out.upd ((Upd.refl [] w).alloc _) (by simp)) ?c1 ?c2 ?c3 ?_)
  case c1 => unfold maxLen; omega
  case c2 => omega
  case c3 => simp
  intro g c' w1 hown hgrow
  have u1 : Upd [] w w1 := ((Upd.refl _ _).alloc _).grown hgrow (fun k hk => by simp [Value.ownBlock] at hk; omega)
  obtain ⟨G, cc, he, hcc, hGb, hGs, _, hfr, hrd, cur, hcur⟩ := owns_open hown (by omega)
  simp at he
  obtain ⟨rfl, rfl⟩ := he
  have hsl := SlAt.ofOwn hown (bl_one _ _)
  have hb1 := u1.keep HB.out (by simp)
  have cj : w1.cell? ⟨G, j, none⟩ = some (.bool (k.s j)) := hrd j _ (bl_at hj)
  have fj := hfr j
  have d2 : w1.cell? ⟨b, 2, none⟩ = some (.slice a k.n c) := cell_of hb1 2
  have f2 : w1.frozen? ⟨b, 2, none⟩ = false := free_of hb1 2
  have hbs1 := lt_of_block hb1
  have hne : G ≠ b := by omega
  have hput := hsl.put (v := .bool true) hj rfl
  rw [← bl_ack, Nat.zero_add] at hput
  have HP := Lib.hid hput
  have HB1 := Lib.hid hb1
  clear hput hb1 hsl hrd hfr hown hgrow hcur c2
  go_wp2
  go_ret2
  have hb2 := ((Upd.refl [G] w1).setCell (p := ⟨G, j, none⟩) (by simp) (.bool true)).keep HB1.out (by simpa using hne.symm)
  have esj := SJ.out
  subst esj
  refine ⟨rfl, ⟨⟨hok.1, hok.2.1, hok.2.2.1, hok.2.2.2.1, fun i hi => ?_⟩, some ⟨G, 0, none⟩, c', ?_, HP.out.set1 hb2 (by decide) _ _⟩, ?_⟩
  · show (if i = j then true else k.s i) = false
    rw [if_neg (by simp [Ck.ack] at hi; omega)]
    exact hok.2.2.2.2 i hi
  · rw [set_of hb2 2]; rfl
  · exact (u1.nil.setNew (p := ⟨G, j, none⟩) hGb _).setCell (by simp) _

theorem rbarrier_beyond (b : Nat) (k : Ck) (id : Int) (w : World) (h : RkAt w b k) (hi : id < 0 ∨ (k.n : Int) ≤ id) : Calls Try.prog 38 #[.pointer (some ⟨b, 0, none⟩), .int .i64 id] w fun e w' => e = .returned (.bool false) ∧ w = w' := by
  have H := Lib.hid h; clear h
  have HI := Lib.hid hi; clear hi
  go_enter Try.func38, Try.ntmps38
  go_wp2_with (go_at_call 35; refine (rseen_beyond b k _ _ H.out HI.out).mono ?_; rintro e w' ⟨rfl, rfl⟩)
  go_ret
  exact ⟨rfl, rfl⟩
theorem rbarrier_in (b : Nat) (k : Ck) (j : Nat) (w : World) (h : RkAt w b k) (hj : j < k.n) : Calls Try.prog 38 #[.pointer (some ⟨b, 0, none⟩), .int .i64 j] w fun e w' => e = .returned (.bool (k.bar j)) ∧ w = w' := by
  have c1 := h.c1
  have hp : k.p = 0 ∨ k.p = 1 ∨ k.p = 2 ∨ k.p = 3 ∨ k.p = 4 ∨ k.p = 5 := by have := h.1.2.2.1; omega
  have H := Lib.hid h; clear h
  cases hsj : k.s j
  all_goals
    have hT := rseen_in b k j w H.out hj
    rw [hsj] at hT
    rcases hp with hp | hp | hp | hp | hp | hp
    all_goals
      simp only [Ck.bar, hp, hsj]
      rw [hp] at c1
      clear hp hsj
      simp
      go_enter Try.func38, Try.ntmps38
      go_wp2_with (go_at_call 35; refine hT.mono ?_; rintro e w' ⟨rfl, rfl⟩)
      go_ret
      exact ⟨rfl, rfl⟩

theorem rnew_err (n : Int) (w : World) (h : n < 1 ∨ 4 < n) : Calls Try.prog 22 #[.int .i64 n] w fun e w' => e = .returned (.tuple #[.pointer none, .int .i64 2]) ∧ w = w' := by
  rcases h with h | h
  · go_enter Try.func22, Try.ntmps22
    go_wp2
    go_ret2
    exact ⟨rfl, rfl⟩
  · have h0 : ¬ n < 1 := by omega
    go_enter Try.func22, Try.ntmps22
    go_wp2
    go_ret2
    exact ⟨rfl, rfl⟩
theorem rnew_at (n : Nat) (w : World) (h1 : 1 ≤ n) (h4 : n ≤ 4) : Calls Try.prog 22 #[.int .i64 n] w fun e w' => ∃ d, e = .returned (.tuple #[.pointer (some ⟨d, 0, none⟩), .int .i64 0]) ∧ w.heap.size ≤ d ∧ RkAt w' d (ckNew n) ∧ Upd [] w w' := by
  have hmB := makeB n h4
  go_enter Try.func22, Try.ntmps22
  go_wp2
  go_ret2
  have hnew := VRow.new w 4 n (fun _ => .bool false)
  refine ⟨_, rfl, by omega, ⟨⟨by simp [ckNew]; omega, by simp [ckNew]; omega, by simp [ckNew], by simp [ckNew], fun _ _ => rfl⟩, some ⟨w.heap.size, 0, none⟩, n, ?_, ?_⟩, ((Upd.refl _ _).alloc _).alloc _⟩
  · have := new_of (w.alloc (.cells (vcells (fun _ => .bool false) n) 4)) (.cells #[.bool true, .int .i64 0, .slice (some ⟨w.heap.size, 0, none⟩) n n, .int .i64 0] 61)
    rw [World.size_alloc] at this
    exact this
  · exact (sl_row hnew (fun _ _ => rfl) (show n ≤ 1000 by omega)).upd ((Upd.refl [] _).alloc _) (by simp)

set_option maxHeartbeats 1000000 in
theorem rcopy_at (b : Nat) (k : Ck) (w : World) (h : RkAt w b k) :
    Calls Try.prog 27 #[.pointer (some ⟨b, 0, none⟩)] w fun e w' => ∃ d, e = .returned (.pointer (some ⟨d, 0, none⟩)) ∧ w.heap.size ≤ d ∧ RkAt w' d k ∧ Upd [] w w' := by
  obtain ⟨hok, a, c, hb, hl⟩ := h
  have hn4 := hok.2.1
  have hbs := lt_of_block hb
  have c0 : w.cell? ⟨b, 0, none⟩ = some (.bool true) := cell_of hb 0
  have c1 : w.cell? ⟨b, 1, none⟩ = some (.int .i64 k.p) := cell_of hb 1
  have c2 : w.cell? ⟨b, 2, none⟩ = some (.slice a k.n c) := cell_of hb 2
  have c3 : w.cell? ⟨b, 3, none⟩ = some (.int .i64 k.c) := cell_of hb 3
  have HB := Lib.hid hb; clear hb
  have HL := Lib.hid hl; clear hl
  obtain ⟨i0, hi, hz0, hz1, hz2⟩ := info_parts infoB
  go_enter Try.func27, Try.ntmps27
  go_wp2_with (go_at_call 33; refine (rvalid_at b _ c0).mono ?_; rintro e w' ⟨rfl, rfl⟩)
  go_region_held3 (fun w' => w'.cell? ⟨b, 0, none⟩ = some (.bool true) ∧ w'.cell? ⟨b, 1, none⟩ = some (.int .i64 k.p) ∧ w'.cell? ⟨b, 2, none⟩ = some (.slice a k.n c) ∧ w'.cell? ⟨b, 3, none⟩ = some (.int .i64 k.c)) (first | go_keep | exact ⟨d0, d1, d2, d3⟩) (first | (refine step_append_any _ rfl (.tmp 10) (.tmp 14) 27 rfl w.heap.size 4 i0 (.bool false) 1 1 Try.underlying27 hi hz0 hz1 hz2 rfl (by decide) _ 0 [] (by simp [Act.eval]) (owns_lit0 w.drew 4 1) _ k.n _ (by simp [Act.eval]) (HL.out.upd (((Upd.refl [] w).drew).alloc _) (by simp)) (by unfold maxLen; omega) (by omega) (by simp) ?_; intro g2 cc w1 hown hgrow; have u1 : Upd [] w w1 := (((Upd.refl [] w).drew).alloc _).grown hgrow (fun k hk => by simp [Value.ownBlock] at hk; omega); have hb1 := u1.keep HB.out (by simp); have d0 : w1.cell? ⟨b, 0, none⟩ = some (.bool true) := cell_of hb1 0; have d1 : w1.cell? ⟨b, 1, none⟩ = some (.int .i64 k.p) := cell_of hb1 1; have d2 : w1.cell? ⟨b, 2, none⟩ = some (.slice a k.n c) := cell_of hb1 2; have d3 : w1.cell? ⟨b, 3, none⟩ = some (.int .i64 k.c) := cell_of hb1 3; clear hb1 hgrow))
  all_goals
    go_wp2
    go_ret
    refine ⟨_, rfl, u1.size, ⟨hok, g2, cc, new_of _ _, ?_⟩, u1.alloc _⟩
    rw [Nat.zero_add, List.nil_append] at hown
    exact (SlAt.ofOwn hown (bl_one _ _)).upd ((Upd.refl [] w1).alloc _) (by simp)

end Go.Proofs.Ytldladoccjlojaa
