/-
  Contracts of the document's queue (estrayref28): Add. Conditions: the queue is as New and its own calls leave it.
-/
import Derived.Test.YtjmaibobhjcajaaQueRef2
namespace Go.Proofs.Ytjmaibobhjcajaa
open Go.RowKit

theorem radd_full {b : Nat} {q : Qu} {w : World} (id : Int) (h : RqAt w b q) (h0 : 0 ≤ id) (h1 : id < 256) (hm : id ∉ q.l) (hf : q.l.length = q.size) : Calls Try.prog 24 #[.pointer (some ⟨b, 0, none⟩), .int .i64 id] w fun e w' => e = .returned (.int .i64 4) ∧ Upd [] w w' := by
  have HR := Lib.hid h
  obtain ⟨hok, a, c, hb, hl⟩ := h
  have hsz : (0 : Int) < q.size := by have := hok.1; omega
  have c0 := cell_of hb 0
  have c1 := cell_of hb 1
  have HF := Lib.hid (show fndI q.l id = -1 by rw [fndI, fnd_none.2 hm])
  have e1 : ((q.l.length : Int) == q.size) = true := by simp [hf]
  clear hb hok hl hm hf
  go_enter Try.func24, Try.ntmps24
  go_wp2_with (first | (go_at_call 40; refine (rvalid_at b _ _ c0 hsz).mono ?_; rintro e w' ⟨rfl, rfl⟩) | (go_at_call 41; refine (rfind_at id HR.out).mono ?_; rw [HF.out]; rintro e w' ⟨rfl, rfl⟩))
  go_quiet (fail)
  go_wp2
  go_ret
  exact ⟨rfl, (Upd.refl _ _).drewN _⟩
set_option maxHeartbeats 1000000 in
theorem radd_new {b : Nat} {q : Qu} {w : World} (id : Int) (h : RqAt w b q) (h0 : 0 ≤ id) (h1 : id < 256) (hm : id ∉ q.l) (hf : q.l.length < q.size) : Calls Try.prog 24 #[.pointer (some ⟨b, 0, none⟩), .int .i64 id] w fun e w' => e = .returned (.int .i64 0) ∧ RqAt w' b ⟨q.size, q.l ++ [id]⟩ ∧ Upd [b] w w' := by
  have HR := Lib.hid h
  obtain ⟨hok, a, c, hb, hl⟩ := h
  have hsz : (0 : Int) < q.size := by have := hok.1; omega
  have hl64 : q.l.length < 64 := by have := hok.2.1; omega
  have c0 := cell_of hb 0
  have c1 := cell_of hb 1
  have hbs := lt_of_block hb
  have HF := Lib.hid (show fndI q.l id = -1 by rw [fndI, fnd_none.2 hm])
  have HB := Lib.hid hb; clear hb
  have HL := Lib.hid hl; clear hl
  have HM := Lib.hid hm; clear hm
  have HOK := Lib.hid hok; clear hok
  have e1 : ((q.l.length : Int) == q.size) = false := by simp; omega
  obtain ⟨i0, hi, hz0, hz1, hz2⟩ := info_parts info3
  go_enter Try.func24, Try.ntmps24
  go_wp2_with (first | (go_at_call 40; refine (rvalid_at b _ _ c0 hsz).mono ?_; rintro e w' ⟨rfl, rfl⟩) | (go_at_call 41; refine (rfind_at id HR.out).mono ?_; rw [HF.out]; rintro e w' ⟨rfl, rfl⟩))
  go_quiet (fail)
  have hb1 := drewN_of HB.out nq
  have uq : Upd [] w (w.drewN nq) := (Upd.refl _ _).drewN _
  have hlq := HL.out.upd0 uq
  generalize w.drewN nq = wq at *
  have hbs : b < wq.heap.size := lt_of_block hb1
  have d1 : wq.cell? ⟨b, 1, none⟩ = some (.slice a q.l.length c) := cell_of hb1 1
  clear c0 c1
  have HQ := Lib.hid hb1; clear hb1
  have hx := hlq.upd0 ((Upd.refl [] wq).alloc (.cells #[] 3)); unfold Ints at hx
  have HX := Lib.hid hx; clear hx hlq
  go_wp2_with (at_builtin; refine wpList_append_any _ rfl (.tmp 29) (.tmp 33) 25 rfl wq.heap.size 3 i0 (.int .i64 0) 1 8 Try.underlying25 hi hz0 hz1 hz2 rfl (by decide) _ 0 [] rfl (owns_lit0 _ 3 1) _ q.l.length _ rfl HX.out ?c1 ?c2 ?c3 ?_)
  case c1 => unfold maxLen; omega
  case c2 => omega
  case c3 => simp
  intro g c' w1 hown hgrow
  try simp only [Nat.zero_add, List.nil_append] at hown ⊢
  have u1 : Upd [] wq w1 := ((Upd.refl _ _).alloc _).grown hgrow (fun k hk => by simp [Value.ownBlock] at hk; omega)
  have hbw : wq.heap.size ≤ w1.heap.size := u1.size
  have hb1 := u1.keep HQ.out (by simp)
  have hbs1 : b < w1.heap.size := lt_of_block hb1
  have HB1 := Lib.hid hb1; clear hb1
  clear d1 hgrow
  go_wp2_with (at_builtin; refine wpList_append_any _ rfl (.tmp 34) (.tmp 36) 25 rfl wq.heap.size 3 i0 (.int .i64 0) 1 8 Try.underlying25 hi hz0 hz1 hz2 rfl (by decide) _ q.l.length _ rfl (hown.alloc _) _ 1 [.int .i64 id] rfl (sl_lit1 _ _ _ _) ?c1 ?c2 ?c3 ?_)
  case c1 => unfold maxLen; omega
  case c2 => omega
  case c3 => simp; omega
  intro g2 c2 w2 hown2 hgrow2
  have u2 : Upd [] wq w2 := (u1.alloc _).grown hgrow2 (fun k hk => (hown.lt k hk).1)
  have hb2 := u2.keep HQ.out (by simp)
  have d1 : w2.cell? ⟨b, 1, none⟩ = some (.slice a q.l.length c) := cell_of hb2 1
  have f1 : w2.frozen? ⟨b, 1, none⟩ = false := free_of hb2 1
  have HB2 := Lib.hid hb2; clear hb2 hgrow2 hown
  have HO2 := Lib.hid hown2; clear hown2
  go_wp2_with fail
  go_ret
  have hb3 := set_of HB2.out 1 (.slice g2 (q.l.length + 1) c2)
  have u3 : Upd [b] wq (w2.setCell ⟨b, 1, none⟩ (.slice g2 (q.l.length + 1) c2)) := (u2.nil).setCell (by simp) _
  have hi2 : Ints w2 (.slice g2 (q.l.length + 1) c2) (q.l ++ [id]) := by
    have e : q.l.map (Value.int .i64) ++ [.int .i64 id] = (q.l ++ [id]).map (Value.int .i64) := by simp
    refine Ints.ofOwn (base := wq.heap.size) ?_
    rw [List.length_append, List.length_singleton, ← e]
    exact HO2.out
  have hl3 : Ints (w2.setCell ⟨b, 1, none⟩ (.slice g2 (q.l.length + 1) c2)) (.slice g2 (q.l.length + 1) c2) (q.l ++ [id]) := SlAt.upd1 hi2 ((Upd.refl [b] w2).setCell (by simp) _) HB2.out (by decide)
  refine ⟨rfl, ⟨?_, g2, c2, ?_, ?_⟩, uq.nil.trans u3⟩
  · have hok := HOK.out
    refine ⟨hok.1, hok.2.1, by show (q.l ++ [id]).length ≤ q.size; simp; omega, fun x hx => ?_⟩
    rcases List.mem_append.1 hx with hx | hx
    · exact hok.2.2.2 x hx
    · simp at hx; subst hx; exact ⟨h0, h1⟩
  · rw [List.length_append, List.length_singleton]; exact hb3
  · rw [List.length_append, List.length_singleton]; exact hl3
theorem raddS_same {q : Qu} {id : Int} (h : id ∈ q.l ∨ q.l.length = q.size) : q.addS id = q := by
  unfold Qu.addS
  rw [if_neg]
  rintro ⟨_, _, h1, h2⟩
  rcases h with h | h
  · exact h1 h
  · omega
theorem raddS_new {q : Qu} {id : Int} (h0 : 0 ≤ id) (h1 : id < 256) (h2 : id ∉ q.l) (h3 : q.l.length < q.size) : q.addS id = ⟨q.size, q.l ++ [id]⟩ := by
  unfold Qu.addS
  rw [if_pos ⟨h0, h1, h2, h3⟩]
def RPost (b : Nat) (v : Value) (q : Qu) (w : World) (e : Ending) (w' : World) : Prop := e = .returned v ∧ RqAt w' b q ∧ Upd [b] w w'
theorem radd_any {b : Nat} {q : Qu} {w : World} (id : Int) (h : RqAt w b q) : Calls Try.prog 24 #[.pointer (some ⟨b, 0, none⟩), .int .i64 id] w (RPost b (.int .i64 (q.addE id)) (q.addS id) w) := by
  by_cases hr : 0 ≤ id ∧ id < 256
  · by_cases hm : id ∈ q.l
    · rw [raddS_same (.inl hm), show q.addE id = 6 from by unfold Qu.addE; rw [if_pos hr, if_pos hm]]
      exact (radd_have id h hr.1 hr.2 hm).mono fun _ _ ⟨h1, h2⟩ => ⟨h1, h2 ▸ h, h2 ▸ Upd.refl _ _⟩
    · by_cases hf : q.l.length = q.size
      · rw [raddS_same (.inr hf), show q.addE id = 4 from by unfold Qu.addE; rw [if_pos hr, if_neg hm, if_pos hf]]
        exact (radd_full id h hr.1 hr.2 hm hf).mono fun _ _ ⟨h1, u⟩ => ⟨h1, h.upd0 u, u.nil⟩
      · have hlt : q.l.length < q.size := by have := h.1.2.2.1; omega
        rw [raddS_new hr.1 hr.2 hm hlt, show q.addE id = 0 from by unfold Qu.addE; rw [if_pos hr, if_neg hm, if_neg hf]]
        exact (radd_new id h hr.1 hr.2 hm hlt).mono fun _ _ h => h
  · rw [show q.addS id = q from by unfold Qu.addS; rw [if_neg (by rintro ⟨a, b, _⟩; exact hr ⟨a, b⟩)], show q.addE id = 3 from by unfold Qu.addE; rw [if_neg hr]]
    exact (radd_no id h (by omega)).mono fun _ _ ⟨h1, h2⟩ => ⟨h1, h2 ▸ h, h2 ▸ Upd.refl _ _⟩

end Go.Proofs.Ytjmaibobhjcajaa
