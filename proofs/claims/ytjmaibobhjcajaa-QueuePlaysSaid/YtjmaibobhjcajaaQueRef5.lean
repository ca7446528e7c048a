/-
  Contracts of the document's queue (estrayref28): Remove, Drain. Conditions: the queue is as New and its own calls leave it.
-/
import Derived.Test.YtjmaibobhjcajaaQueRef4
namespace Go.Proofs.Ytjmaibobhjcajaa
open Go.RowKit

theorem rrem_not {b : Nat} {q : Qu} {w : World} (id : Int) (h : RqAt w b q) (hm : id ∉ q.l) : Calls Try.prog 26 #[.pointer (some ⟨b, 0, none⟩), .int .i64 id] w fun e w' => e = .returned (.bool false) ∧ w = w' := by
  have HR := Lib.hid h
  have HF := Lib.hid (show fndI q.l id = -1 by rw [fndI, fnd_none.2 hm])
  clear h hm
  go_enter Try.func26, Try.ntmps26
  go_wp2_with (go_at_call 41; refine (rfind_at id HR.out).mono ?_; rw [HF.out]; rintro e w' ⟨rfl, rfl⟩)
  go_ret
  exact ⟨rfl, rfl⟩
set_option maxRecDepth 100000 in
set_option maxHeartbeats 2000000 in
theorem rrem_some {b : Nat} {q : Qu} {w : World} (id : Int) (j : Nat) (h : RqAt w b q) (hf : fnd q.l id = some j) : Calls Try.prog 26 #[.pointer (some ⟨b, 0, none⟩), .int .i64 id] w (RPost b (.bool true) ⟨q.size, q.l.eraseIdx j⟩ w) := by
  have HR := Lib.hid h
  have HF := Lib.hid (show fndI q.l id = j by rw [fndI, hf])
  obtain ⟨hjl, -⟩ := fnd_spec hf
  clear hf
  obtain ⟨hok, a, c, hb, hl⟩ := h
  have hl64 : q.l.length ≤ 64 := Nat.le_trans hok.2.2.1 hok.2.1
  obtain ⟨i0, hi, hz0, hz1, hz2⟩ := info_parts info3
  obtain ⟨g, off, rfl, hg, hcap, -⟩ := hl.at hjl
  have hcm : c ≤ 9223372036854775807 := by
    obtain ⟨_, _, h3, _, hcm⟩ := hl.form
    simp only [Value.slice.injEq] at h3
    rw [h3.2.2]; exact hcm
  have hl' := hl
  unfold Ints at hl'
  have HT1 := Lib.hid (hl'.take1 (i := j) (by omega))
  have c0 := cell_of hb 0
  have c1 := cell_of hb 1
  have f1 : w.frozen? ⟨b, 1, none⟩ = false := free_of hb 1
  have hbs := lt_of_block hb
  have HB := Lib.hid hb; have HOK := Lib.hid hok
  have hw1 : IntKind.i64.wrap ((j : Int) + 1) = (j : Int) + 1 := IntWalk.i64_in _ (by omega)
  have hj0 : (0 : Int) ≤ (j : Int) := by omega
  have hw2 : ((j : Int) + 1).toNat = j + 1 := by omega
  have hw3 : (0 : Int) ≤ (j : Int) + 1 := by omega
  have hw4 : (j : Int) + 1 ≤ (q.l.length : Int) := by omega
  have hw5 : (j : Int) ≤ (c : Int) := by omega
  have hw6 : (j : Int) ≤ (j : Int) + 1 := by omega
  unfold RPost
  by_cases hcl : j + 1 < c
  · have hcn : ¬ c = j + 1 := by omega
    have HT2 := Lib.hid (hl'.rdrop1 (i := j + 1) (by omega) hcl)
    clear hb hl hl' hok
    go_enter Try.func26, Try.ntmps26
    go_wp2_with (go_at_call 41; refine (rfind_at id HR.out).mono ?_; rw [HF.out]; rintro e w' ⟨rfl, rfl⟩)
    go_region_law (first | ((refine step_append_any _ rfl (.tmp 12) (.tmp 18) 25 rfl w.heap.size 3 i0 (.int .i64 0) 1 8 Try.underlying25 hi hz0 hz1 hz2 rfl (by decide) _ 0 [] (by first | (simp [Act.eval]; done) | simp [Act.eval, Act.put]) (owns_lit0 w.drew 3 1) _ j _ (by first | (simp [Act.eval]; done) | simp [Act.eval, Act.put]) (HT1.out.upd (((Upd.refl [] w).drew).alloc _) (by simp)) (by unfold maxLen; omega) (by omega) (by simp) ?_); (intro g3 c3 w3 hown3 hgrow3); (have u3 : Upd [] w w3 := (((Upd.refl [] w).drew).alloc _).grown hgrow3 (fun g hg => by simp [Value.ownBlock] at hg; omega)); (have OWN3 := Lib.hid hown3); (have hb3 := u3.keep HB.out (by simp)); (have d3 := cell_of hb3 1); (clear hgrow3 hown3 hb3)) | ((refine step_append_any _ rfl (.tmp 19) (.tmp 26) 25 rfl w.heap.size 3 i0 (.int .i64 0) 1 8 Try.underlying25 hi hz0 hz1 hz2 rfl (by decide) _ (0 + j) _ (by first | (simp [Act.eval]; done) | simp [Act.eval, Act.put]) OWN3.out _ (q.l.length - (j + 1)) _ (by first | (simp [Act.eval]; done) | simp [Act.eval, Act.put]) (HT2.out.upd u3 (by simp)) (by unfold maxLen; omega) (by omega) (by exact u3.size) ?_); (intro g4 c4 w4 hown4 hgrow4); (have u4 : Upd [] w w4 := u3.grown hgrow4 (fun g hg => (OWN3.out.lt g hg).1)); (have OWN4 := Lib.hid hown4); (have hb4 := u4.keep HB.out (by simp)); (have d4 := cell_of hb4 1); (have f4 : w4.frozen? ⟨b, 1, none⟩ = false := free_of hb4 1); (clear hgrow4 hown4 hb4)))
    all_goals
      have hlen : (q.l.eraseIdx j).length = j + (q.l.length - (j + 1)) := by rw [List.length_eraseIdx_of_lt hjl]; omega
      have hmap : (q.l.eraseIdx j).map (Value.int .i64) = (q.l.map (Value.int .i64)).take j ++ ((q.l.map (Value.int .i64)).drop (j + 1)) := by
        rw [List.eraseIdx_eq_take_drop_succ]; simp [List.map_take, List.map_drop]
      have HB4 := u4.keep HB.out (by simp)
      have hi4 : Ints w4 (.slice g4 (j + (q.l.length - (j + 1))) c4) (q.l.eraseIdx j) := Ints.ofOwn (base := w.heap.size) (by rw [hlen, hmap]; simpa using OWN4.out)
      go_wp2
      go_ret
      refine ⟨rfl, ⟨⟨HOK.out.1, HOK.out.2.1, by have := HOK.out.2.2.1; show (q.l.eraseIdx j).length ≤ q.size; omega, fun y hy => HOK.out.2.2.2 y (List.mem_of_mem_eraseIdx hy)⟩, g4, c4, ?_, ?_⟩, (u4.nil).setCell (by simp) _⟩
      · show _ = some (Obj.cells #[_, .slice g4 (q.l.eraseIdx j).length c4] _ _); rw [hlen]; exact set_of HB4 1 _
      · show Ints _ (.slice g4 (q.l.eraseIdx j).length c4) _; rw [hlen]; exact SlAt.upd1 hi4 ((Upd.refl [b] w4).setCell (by simp) _) HB4 (by decide)
  · obtain rfl : c = j + 1 := by omega
    have HT2 := Lib.hid (show SlAt w 3 1 (.slice (some ⟨g, off, none⟩) 0 0) 0 [] from ⟨by simp, by simp, _, 0, rfl, Nat.le_refl _, Nat.zero_le _, by simp, .inl rfl⟩)
    clear hb hl hl' hok
    go_enter Try.func26, Try.ntmps26
    go_wp2_with (go_at_call 41; refine (rfind_at id HR.out).mono ?_; rw [HF.out]; rintro e w' ⟨rfl, rfl⟩)
    go_region_law (first | ((refine step_append_any _ rfl (.tmp 12) (.tmp 18) 25 rfl w.heap.size 3 i0 (.int .i64 0) 1 8 Try.underlying25 hi hz0 hz1 hz2 rfl (by decide) _ 0 [] (by first | (simp [Act.eval]; done) | simp [Act.eval, Act.put]) (owns_lit0 w.drew 3 1) _ j _ (by first | (simp [Act.eval]; done) | simp [Act.eval, Act.put]) (HT1.out.upd (((Upd.refl [] w).drew).alloc _) (by simp)) (by unfold maxLen; omega) (by omega) (by simp) ?_); (intro g3 c3 w3 hown3 hgrow3); (have u3 : Upd [] w w3 := (((Upd.refl [] w).drew).alloc _).grown hgrow3 (fun g hg => by simp [Value.ownBlock] at hg; omega)); (have OWN3 := Lib.hid hown3); (have hb3 := u3.keep HB.out (by simp)); (have d3 := cell_of hb3 1); (clear hgrow3 hown3 hb3)) | ((refine step_append_any _ rfl (.tmp 19) (.tmp 26) 25 rfl w.heap.size 3 i0 (.int .i64 0) 1 8 Try.underlying25 hi hz0 hz1 hz2 rfl (by decide) _ (0 + j) _ (by first | (simp [Act.eval]; done) | simp [Act.eval, Act.put]) OWN3.out _ 0 _ (by first | (simp [Act.eval]; done) | simp [Act.eval, Act.put]) (HT2.out.upd u3 (by simp)) (by unfold maxLen; omega) (by omega) (by exact u3.size) ?_); (intro g4 c4 w4 hown4 hgrow4); (have u4 : Upd [] w w4 := u3.grown hgrow4 (fun g hg => (OWN3.out.lt g hg).1)); (have OWN4 := Lib.hid hown4); (have hb4 := u4.keep HB.out (by simp)); (have d4 := cell_of hb4 1); (have f4 : w4.frozen? ⟨b, 1, none⟩ = false := free_of hb4 1); (clear hgrow4 hown4 hb4)))
    all_goals
      have hlen : (q.l.eraseIdx j).length = j := by rw [List.length_eraseIdx_of_lt hjl]; omega
      have hmap : (q.l.eraseIdx j).map (Value.int .i64) = (q.l.map (Value.int .i64)).take j := by
        rw [List.eraseIdx_eq_take_drop_succ, List.drop_eq_nil_of_le (by omega)]; simp [List.map_take]
      have HB4 := u4.keep HB.out (by simp)
      have hi4 : Ints w4 (.slice g4 j c4) (q.l.eraseIdx j) := Ints.ofOwn (base := w.heap.size) (by rw [hlen, hmap]; simpa using OWN4.out)
      go_wp2
      go_ret
      refine ⟨rfl, ⟨⟨HOK.out.1, HOK.out.2.1, by have := HOK.out.2.2.1; show (q.l.eraseIdx j).length ≤ q.size; omega, fun y hy => HOK.out.2.2.2 y (List.mem_of_mem_eraseIdx hy)⟩, g4, c4, ?_, ?_⟩, (u4.nil).setCell (by simp) _⟩
      · show _ = some (Obj.cells #[_, .slice g4 (q.l.eraseIdx j).length c4] _ _); rw [hlen]; exact set_of HB4 1 _
      · show Ints _ (.slice g4 (q.l.eraseIdx j).length c4) _; rw [hlen]; exact SlAt.upd1 hi4 ((Upd.refl [b] w4).setCell (by simp) _) HB4 (by decide)

theorem rrem_any {b : Nat} {q : Qu} {w : World} (id : Int) (h : RqAt w b q) : Calls Try.prog 26 #[.pointer (some ⟨b, 0, none⟩), .int .i64 id] w (RPost b (.bool (q.remB id)) (q.remS id) w) := by
  unfold Qu.remB Qu.remS
  cases hf : fnd q.l id with
  | none =>
    rw [decide_eq_false (fnd_none.1 hf)]
    exact (rrem_not id h (fnd_none.1 hf)).mono fun _ _ ⟨h1, h2⟩ => ⟨h1, h2 ▸ h, h2 ▸ Upd.refl _ _⟩
  | some j =>
    obtain ⟨hj, he⟩ := fnd_spec hf
    rw [decide_eq_true (by rw [← he]; exact List.getElem_mem hj)]
    exact rrem_some id j h hf
theorem rdrain_neg {b : Nat} {q : Qu} {w : World} (m : Int) (h : RqAt w b q) (hm : m < 0) : Calls Try.prog 27 #[.pointer (some ⟨b, 0, none⟩), .int .i64 m] w fun e w' => e = .returned (.tuple #[.slice none 0 0, .int .i64 2]) ∧ w = w' := by
  obtain ⟨hok, a, c, hb, hl⟩ := h
  have hsz : (0 : Int) < q.size := by have := hok.1; omega
  have c0 := cell_of hb 0
  clear hb hl hok
  go_enter Try.func27, Try.ntmps27
  go_wp2_with (go_at_call 40; refine (rvalid_at b _ _ c0 hsz).mono ?_; rintro e w' ⟨rfl, rfl⟩)
  go_ret2
  exact ⟨rfl, rfl⟩

end Go.Proofs.Ytjmaibobhjcajaa
