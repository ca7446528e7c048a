/-
  Contracts of the document's queue (estrayref28): Copy, Poll. Conditions: the queue is as New and its own calls leave it.
-/
import Derived.Test.YtjmaibobhjcajaaQueRef3
namespace Go.Proofs.Ytjmaibobhjcajaa
open Go.RowKit

theorem SlAt.rdrop1 {w : World} {e n c g off : Nat} {xs : List Value} (h : SlAt w e 1 (.slice (some ⟨g, off, none⟩) n c) n xs) {i : Nat} (hi : i ≤ n) (hc : i < c) : SlAt w e 1 (.slice (some ⟨g, off + i, none⟩) (n - i) (c - i)) (n - i) (xs.drop i) := by
  obtain ⟨h1, h2, a', c', h3, h4, h5, h6, h7⟩ := h
  simp at h3
  obtain ⟨rfl, rfl⟩ := h3
  refine ⟨by simp; omega, fun x hx => h2 x (List.mem_of_mem_drop hx), _, _, rfl, by omega, by omega, by simp, ?_⟩
  rcases h7 with h7 | ⟨g', off', cur, ha, hg, hs, hr⟩
  · left; omega
  · simp at ha
    obtain ⟨rfl, rfl⟩ := ha
    refine .inr ⟨g, off + i, cur, rfl, hg, by omega, fun j x hx => ?_⟩
    rw [List.getElem?_drop] at hx
    rw [Nat.add_assoc]
    exact hr (i + j) x hx
theorem rpoll_none {b : Nat} {q : Qu} {w : World} (h : RqAt w b q) (hl0 : q.l = []) : Calls Try.prog 25 #[.pointer (some ⟨b, 0, none⟩)] w fun e w' => e = .returned (.tuple #[.int .i64 0, .bool false]) ∧ w = w' := by
  obtain ⟨hok, a, c, hb, hl⟩ := h
  rw [hl0] at hb
  have hsz : (0 : Int) < q.size := by have := hok.1; omega
  have c0 := cell_of hb 0
  have c1 := cell_of hb 1
  clear hb hl hok hl0
  go_enter Try.func25, Try.ntmps25
  go_wp2_with (go_at_call 40; refine (rvalid_at b _ _ c0 hsz).mono ?_; rintro e w' ⟨rfl, rfl⟩)
  go_ret2
  exact ⟨rfl, rfl⟩
set_option maxHeartbeats 1000000 in
theorem rcopy_any {b : Nat} {q : Qu} {w : World} (h : RqAt w b q) : Calls Try.prog 30 #[.pointer (some ⟨b, 0, none⟩)] w fun e w' => ∃ nb, e = .returned (.pointer (some ⟨nb, 0, none⟩)) ∧ w.heap.size ≤ nb ∧ RqAt w' nb q ∧ Upd [] w w' := by
  obtain ⟨hok, a, c, hb, hl⟩ := h
  have hsz : (0 : Int) < q.size := by have := hok.1; omega
  have hl64 : q.l.length ≤ 64 := Nat.le_trans hok.2.2.1 hok.2.1
  obtain ⟨i0, hi, hz0, hz1, hz2⟩ := info_parts info3
  have c0 := cell_of hb 0
  have c1 := cell_of hb 1
  have hbs := lt_of_block hb
  have HB := Lib.hid hb; have HL := Lib.hid hl; have HOK := Lib.hid hok
  clear hb hl hok
  go_enter Try.func30, Try.ntmps30
  go_wp2_with (go_at_call 40; refine (rvalid_at b _ _ c0 hsz).mono ?_; rintro e w' ⟨rfl, rfl⟩)
  go_region_held3 (fun w' => w'.cell? ⟨b, 0, none⟩ = some (.int .i64 q.size) ∧ w'.cell? ⟨b, 1, none⟩ = some (.slice a q.l.length c)) (first | go_keep | exact ⟨d0, d1⟩) (first | (refine step_append_any _ rfl (.tmp 10) (.tmp 14) 25 rfl w.heap.size 3 i0 (.int .i64 0) 1 8 Try.underlying25 hi hz0 hz1 hz2 rfl (by decide) _ 0 [] (by simp [Act.eval]) (owns_lit0 w.drew 3 1) _ q.l.length _ (by simp [Act.eval]) (SlAt.upd HL.out (((Upd.refl [] w).drew).alloc _) (by simp)) (by unfold maxLen; omega) (by omega) (by simp) ?_; intro g2 cc w1 hown hgrow; have u1 : Upd [] w w1 := (((Upd.refl [] w).drew).alloc _).grown hgrow (fun k hk => by simp [Value.ownBlock] at hk; omega); have hb1 := u1.keep HB.out (by simp); have d0 : w1.cell? ⟨b, 0, none⟩ = some (.int .i64 q.size) := cell_of hb1 0; have d1 : w1.cell? ⟨b, 1, none⟩ = some (.slice a q.l.length c) := cell_of hb1 1; clear hb1 hgrow))
  all_goals
    go_wp2
    go_ret
    refine ⟨_, rfl, u1.size, ⟨HOK.out, g2, cc, new_of _ _, ?_⟩, u1.alloc _⟩
    rw [Nat.zero_add, List.nil_append] at hown
    exact SlAt.upd (SlAt.ofOwn hown (one_ints _)) ((Upd.refl [] w1).alloc _) (by simp)
/-- As RPost; the list's row is none that was there before. -/
def RNew (b : Nat) (v : Value) (q : Qu) (w : World) (e : Ending) (w' : World) : Prop :=
  e = .returned v ∧ (q.ok ∧ ∃ a c, w'.heap[b]? = some (.cells #[.int .i64 q.size, .slice a q.l.length c] 66 (0, 0)) ∧ Ints w' (.slice a q.l.length c) q.l ∧ ∀ k, Value.ownBlock (.slice a q.l.length c) = some k → w.heap.size ≤ k) ∧ Upd [b] w w'
theorem RNew.post {b : Nat} {v : Value} {q : Qu} {w w' : World} {e : Ending} (h : RNew b v q w e w') : RPost b v q w e w' := by
  obtain ⟨h1, ⟨h2, a, c, h3, h4, -⟩, h5⟩ := h
  exact ⟨h1, ⟨h2, a, c, h3, h4⟩, h5⟩
set_option maxHeartbeats 1000000 in
theorem rpoll_some {b : Nat} {q : Qu} {w : World} {x : Int} {l : List Int} (h : RqAt w b q) (hl0 : q.l = x :: l) : Calls Try.prog 25 #[.pointer (some ⟨b, 0, none⟩)] w (RNew b (.tuple #[.int .i64 x, .bool true]) ⟨q.size, l⟩ w) := by
  obtain ⟨hok, a, c, hb, hl⟩ := h
  have hlen : q.l.length = l.length + 1 := by rw [hl0]; rfl
  have hsz : (0 : Int) < q.size := by have := hok.1; omega
  have hl64 : l.length < 64 := by have := hok.2.1; have := hok.2.2.1; omega
  obtain ⟨i0, hi, hz0, hz1, hz2⟩ := info_parts info3
  obtain ⟨g, off, rfl, hg, hcap, hc⟩ := hl.at (i := 0) (by omega)
  have hcm : c ≤ 9223372036854775807 := by
    obtain ⟨_, _, h3, _, hcm⟩ := hl.form
    simp only [Value.slice.injEq] at h3
    rw [h3.2.2]; exact hcm
  have hl' := hl
  unfold Ints at hl'
  have hc1 : 1 ≤ c := by omega
  obtain ⟨v2, hv2, hd⟩ : ∃ v2 : Option Addr × Nat, (v2 = if 1 < c then (some ⟨g, off + 1, none⟩, c - 1) else (some ⟨g, off, none⟩, 0)) ∧ SlAt w 3 1 (.slice v2.1 l.length v2.2) l.length (l.map (Value.int .i64)) := by
    by_cases h1 : 1 < c
    · have hd := hl'.rdrop1 (i := 1) (by omega) h1
      rw [hlen] at hd
      simp only [hl0, List.map_cons, List.drop_succ_cons, List.drop_zero, Nat.add_sub_cancel] at hd
      exact ⟨_, (if_pos h1).symm, hd⟩
    · have hl1 : l = [] := List.eq_nil_of_length_eq_zero (by omega)
      subst hl1
      exact ⟨_, (if_neg h1).symm, by simp, by simp, _, 0, rfl, Nat.le_refl _, Nat.zero_le _, by simp, .inl rfl⟩
  rw [hlen] at hb hcap
  simp only [hl0, List.getElem_cons_zero, Nat.add_zero] at hc
  have hb0 : ((l.length : Int) + 1 == 0) = false := by simp; omega
  have c0 := cell_of hb 0
  have c1 := cell_of hb 1
  have hbs := lt_of_block hb
  have HD := Lib.hid hd; have HB := Lib.hid hb; have HOK := Lib.hid hok; have HL0 := Lib.hid hl0
  clear hd hb hok hl hl' hl0 hlen
  have hx := HD.out.upd ((Upd.refl [] w).alloc (.cells #[] 3)) (by simp)
  have HX := Lib.hid hx; clear hx
  unfold RNew
  by_cases h1 : 1 < c
  · rw [if_pos h1] at hv2
    subst hv2
    dsimp only at HX
    go_enter Try.func25, Try.ntmps25
    go_wp2_with (first | (go_at_call 40; refine (rvalid_at b _ _ c0 hsz).mono ?_; rintro e w' ⟨rfl, rfl⟩) | (at_builtin; refine wpList_append_any _ rfl (.tmp 23) (.tmp 28) 25 rfl w.heap.size 3 i0 (.int .i64 0) 1 8 Try.underlying25 hi hz0 hz1 hz2 rfl (by decide) _ 0 [] rfl (owns_lit0 _ 3 1) _ l.length _ rfl HX.out ?c1 ?c2 ?c3 ?_))
    case c1 => unfold maxLen; omega
    case c2 => omega
    case c3 => simp
    intro g2 c2 w2 hown2 hgrow2
    have u2 : Upd [] w w2 := ((Upd.refl _ _).alloc _).grown hgrow2 (fun k hk => by simp [Value.ownBlock] at hk; omega)
    have hb2 := u2.keep HB.out (by simp)
    have d1 := cell_of hb2 1
    have f1 : w2.frozen? ⟨b, 1, none⟩ = false := free_of hb2 1
    have hbs2 : b < w2.heap.size := lt_of_block hb2
    have HB2 := Lib.hid hb2; clear hb2 hgrow2
    have HO2 := Lib.hid hown2; clear hown2
    go_wp2_with fail
    go_ret2
    have hb3 := set_of HB2.out 1 (.slice g2 l.length c2)
    have u3 : Upd [b] w (w2.setCell ⟨b, 1, none⟩ (.slice g2 l.length c2)) := (u2.nil).setCell (by simp) _
    have hi2 : Ints w2 (.slice g2 l.length c2) l := Ints.ofOwn (base := w.heap.size) (by simpa using HO2.out)
    have hl3 : Ints (w2.setCell ⟨b, 1, none⟩ (.slice g2 l.length c2)) (.slice g2 l.length c2) l := SlAt.upd1 hi2 ((Upd.refl [b] w2).setCell (by simp) _) HB2.out (by decide)
    exact ⟨rfl, ⟨⟨HOK.out.1, HOK.out.2.1, by have := HOK.out.2.2.1; rw [HL0.out] at this; simp at this; show l.length ≤ q.size; omega, fun y hy => HOK.out.2.2.2 y (by rw [HL0.out]; exact List.mem_cons_of_mem _ hy)⟩, g2, c2, hb3, hl3, fun k hk => (HO2.out.lt k hk).1⟩, u3⟩
  · rw [if_neg h1] at hv2
    obtain rfl : c = 1 := by omega
    obtain rfl : l = [] := List.eq_nil_of_length_eq_zero (by omega)
    subst hv2
    dsimp only at HX
    go_enter Try.func25, Try.ntmps25
    go_wp2_with (first | (go_at_call 40; refine (rvalid_at b _ _ c0 hsz).mono ?_; rintro e w' ⟨rfl, rfl⟩) | (at_builtin; refine wpList_append_any _ rfl (.tmp 23) (.tmp 28) 25 rfl w.heap.size 3 i0 (.int .i64 0) 1 8 Try.underlying25 hi hz0 hz1 hz2 rfl (by decide) _ 0 [] rfl (owns_lit0 _ 3 1) _ 0 _ rfl HX.out ?c1 ?c2 ?c3 ?_))
    case c1 => unfold maxLen; omega
    case c2 => omega
    case c3 => simp
    intro g2 c2 w2 hown2 hgrow2
    have u2 : Upd [] w w2 := ((Upd.refl _ _).alloc _).grown hgrow2 (fun k hk => by simp [Value.ownBlock] at hk; omega)
    have hb2 := u2.keep HB.out (by simp)
    have d1 := cell_of hb2 1
    have f1 : w2.frozen? ⟨b, 1, none⟩ = false := free_of hb2 1
    have hbs2 : b < w2.heap.size := lt_of_block hb2
    have HB2 := Lib.hid hb2; clear hb2 hgrow2
    have HO2 := Lib.hid hown2; clear hown2
    go_wp2_with fail
    go_ret2
    have hb3 := set_of HB2.out 1 (.slice g2 0 c2)
    have u3 : Upd [b] w (w2.setCell ⟨b, 1, none⟩ (.slice g2 0 c2)) := (u2.nil).setCell (by simp) _
    have hi2 : Ints w2 (.slice g2 0 c2) [] := Ints.ofOwn (base := w.heap.size) (by simpa using HO2.out)
    have hl3 : Ints (w2.setCell ⟨b, 1, none⟩ (.slice g2 0 c2)) (.slice g2 0 c2) [] := SlAt.upd1 hi2 ((Upd.refl [b] w2).setCell (by simp) _) HB2.out (by decide)
    exact ⟨rfl, ⟨⟨HOK.out.1, HOK.out.2.1, Nat.zero_le _, fun y hy => by cases hy⟩, g2, c2, hb3, hl3, fun k hk => (HO2.out.lt k hk).1⟩, u3⟩

theorem rpoll_any {b : Nat} {q : Qu} {w : World} (h : RqAt w b q) : Calls Try.prog 25 #[.pointer (some ⟨b, 0, none⟩)] w (RPost b (.tuple #[.int .i64 q.pollX, .bool q.pollB]) q.pollS w) := by
  obtain ⟨size, l⟩ := q
  cases l with
  | nil => exact (rpoll_none h rfl).mono fun _ _ ⟨h1, h2⟩ => ⟨h1, h2 ▸ h, h2 ▸ Upd.refl _ _⟩
  | cons x l => exact (rpoll_some h rfl).mono fun _ _ h => h.post

end Go.Proofs.Ytjmaibobhjcajaa
