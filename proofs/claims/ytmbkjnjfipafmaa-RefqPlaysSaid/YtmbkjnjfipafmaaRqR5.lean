/-
  Contracts of the document's reference queue (estrayref30): Copy. Conditions: it is as New and its own calls leave it.
-/
import Derived.Test.YtmbkjnjfipafmaaRqR4
import Derived.Deep.AppendSrc
import Derived.Deep.Upon
namespace Go.Proofs.Ytmbkjnjfipafmaa
open Go.RowKit Go.Maps

/-- append of a slice to an empty one. -/
theorem app0 {w : World} {t e : TypeId} (i : TypeInfo) (z : Value) (size bytes : Nat) (ht : Try.prog.underlying t = some (.slice e)) (hi : Try.prog.info? e = some i) (hz : i.zero = some z) (hs : i.size = size) (hb : i.bytes = bytes)
    (a : Option Addr) {y : Value} {n : Nat} {xs : List Value} (h : SlAt w e size y n xs) (hn0 : 0 < n) (hn : n ≤ 1000) (hby : bytes ≤ 1000) :
    ∃ (c : Nat) (w' : World) (cur : Array Value), (∀ ty, (Builtin.append_ #[t, t] ty #[.slice a 0 0, y]).run Try.prog w = .ok (.slice (some ⟨w.heap.size, 0, none⟩) n c) w') ∧ Upd [] w w' ∧ n ≤ c ∧ c ≤ maxLen ∧ w'.heap[w.heap.size]? = some (.cells cur e (0, 0)) ∧ n * size ≤ cur.size ∧ ∀ (j : Nat) (x : Value), xs[j]? = some x → (cur : Array Value)[j]? = some x := by
  obtain ⟨hl, h1, ya, yc, rfl, hyc, hym, hnone, hrd⟩ := h
  rcases hrd with h0 | ⟨g, off, cur, rfl, hg, hsz, hc⟩
  · omega
  · have hsrc : Src Try.prog i.size t (.slice (some ⟨g, off, none⟩) n yc) n xs w := by
      rw [hs]
      refine Src.ofSlice w ht ⟨g, off, none⟩ n yc xs hl (fun j u hju => ?_) h1
      rw [Addr.add_lit, cell_of hg]
      exact hc j u hju
    have hfc : (Builtin.firstCells i.size 0 (.slice a 0 0)).run Try.prog w.drew = .ok (([] : List Value).toArray) w.drew := by
      cases a with
      | none => exact run_firstCells_none w.drew i.size 0 0 0
      | some a' => exact run_firstCells_some w.drew i.size 0 a' 0 0 [] (by simp) (by intro _ _ h'; simp at h')
    have hfit : Builtin.nextslicecap (0 + n) 0 * i.bytes ≤ 281474976710656 := by
      rw [hb]
      have h2 := nextslicecap_le (need := 0 + n) (old := 0) (by omega)
      have h3 : Builtin.nextslicecap (0 + n) 0 ≤ 2000 := by omega
      calc Builtin.nextslicecap (0 + n) 0 * bytes ≤ 2000 * 1000 := Nat.mul_le_mul h3 hby
        _ ≤ _ := by decide
    have hrun := fun ty => run_append_grow_src (P := Try.prog) w t t ty e i z ht hi hz a 0 0 _ hfc _ n xs hsrc (by omega) (by omega) hfit
    have hge := grownCap_ge w (0 + n) 0 e
    have hcm : grownCap w (0 + n) 0 e ≤ maxLen := grownCap_le_maxLen w (0 + n) 0 e (by unfold maxLen; omega)
    rw [Nat.zero_add] at hrun hge hcm
    refine ⟨_, _, _, hrun, (Upd.refl [] w).drew.alloc _, hge, hcm, new_of w.drew _, ?_, fun j x hx => ?_⟩
    · simp only [List.nil_append, Array.size_append, List.size_toArray, size_zeroCells, hl]
      omega
    · rw [List.nil_append, Array.getElem?_append_left]
      · rw [List.getElem?_toArray]; exact hx
      · have := (List.getElem?_eq_some_iff.1 hx).1
        simpa using this
theorem step_appR {P : Program} {w w' : World} {ops : Array Oper} {o : Oper} {a : Act} {K : Act → World → Prop} {Q : Exit → Act → World → Prop} {E : Prop} (hg : o.guard = none) (s x : Operand) (t : TypeId)
    (hop : o.op = .call { callee := .builtin .append, args := #[s, x], argTypes := #[t, t] }) (v y v' : Value) (hs : a.eval s = v) (hx : a.eval x = y) (hrun : ∀ ty, (Builtin.append_ #[t, t] ty #[v, y]).run P w = .ok v' w')
    (hK : K (a.put o.dst v') w') : if Region.wanted o (yielded ops a.tmps) = true then Oper.wp P o a w K Q else E := by
  have hw : Region.wanted o (yielded ops a.tmps) = true := by simp [Region.wanted, hg]
  rw [if_pos hw]
  unfold Oper.wp
  simp [execOp, hop, resolve, invoke, builtin, hs, hx, hrun, Result.andThen]
  exact hK
theorem app_refs {w : World} {N gl cl : Nat} {F : Nat → Rf} (h : RefRow w gl N F) (h1 : N ≤ cl) (h2 : cl ≤ maxLen) (h0 : 0 < N) (hN : N ≤ 256) (a : Option Addr) :
    ∃ c w', (∀ ty, (Builtin.append_ #[90, 90] ty #[.slice a 0 0, .slice (some ⟨gl, 0, none⟩) N cl]).run Try.prog w = .ok (.slice (some ⟨w.heap.size, 0, none⟩) N c) w') ∧ Upd [] w w' ∧ N ≤ c ∧ c ≤ maxLen ∧ RefRow w' w.heap.size N F := by
  obtain ⟨i0, hii, hz0, hz1, hz2⟩ := info_parts infoR
  obtain ⟨c, w', cur, hr, u, hc1, hc2, hb, hs, hx⟩ := app0 i0 _ 2 16 Try.underlying90 hii hz0 hz1 hz2 a (h.sl h1 h2) h0 (by omega) (by omega)
  refine ⟨c, w', hr, u, hc1, hc2, cur, hb, hs, fun j hj => hx j _ ?_⟩
  simp [rcells, hj]
theorem app_ints {w : World} {v : Value} {l : List Int} (h : Ints w v l) (hl : l.length ≤ 1000) (a : Option Addr) :
    ∃ b c w', (∀ ty, (Builtin.append_ #[27, 27] ty #[.slice a 0 0, v]).run Try.prog w = .ok (.slice b l.length c) w') ∧ Upd [] w w' ∧ Ints w' (.slice b l.length c) l := by
  obtain ⟨i0, hii, hz0, hz1, hz2⟩ := info_parts info3
  by_cases h0 : 0 < l.length
  · obtain ⟨c, w', cur, hr, u, hc1, hc2, hb, hs, hx⟩ := app0 i0 _ 1 8 Try.underlying27 hii hz0 hz1 hz2 a h h0 hl (by omega)
    refine ⟨_, c, w', hr, u, by simp, one_ints _, _, c, rfl, hc1, hc2, by simp, .inr ⟨w.heap.size, 0, cur, rfl, hb, by omega, fun j x hj => by rw [Nat.zero_add]; exact hx j x hj⟩⟩
  · have hnil : l = [] := List.eq_nil_of_length_eq_zero (by omega)
    subst hnil
    obtain ⟨-, -, ya, yc, rfl, hyc, hym, hnone, -⟩ := h
    refine ⟨a, 0, w, fun ty => ?_, Upd.refl _ _, sl_empty _ _ _⟩
    refine run_append_nothing w 27 27 ty 3 i0 Try.underlying27 hii a 0 0 (Nat.le_refl _) _ ?_
    cases ya with
    | none => exact Src.ofNil w Try.underlying27 yc
    | some a' => exact Src.ofSlice w Try.underlying27 a' 0 yc [] (by simp) (by intro _ _ h'; simp at h') (by simp)
set_option maxRecDepth 100000 in
set_option maxHeartbeats 4000000 in
theorem qqcopy {w : World} {rb : Nat} {s : Rs} (h : RqAt w rb s) (hk : Okk s) :
    Calls Try.prog 30 #[.pointer (some ⟨rb, 0, none⟩)] w fun e w' => ∃ rb2, e = .returned (.pointer (some ⟨rb2, 0, none⟩)) ∧ RqAt w' rb2 s ∧ w.heap.size ≤ rb2 ∧ Upd [] w w' := by
  obtain ⟨gl, cl, vq, h⟩ := h
  obtain ⟨va, vc, rfl, hvc1, hvc2⟩ := h.q.form
  have H := Lib.hid h
  have HK := Lib.hid hk
  have hN0 : 0 < s.size := hk.p.pos
  have hN : s.size ≤ 256 := hk.p.le
  have hL64 : s.l.length ≤ 1000 := by have := hk.b; have := hk.l; omega
  have HL := Lib.hid hL64
  have c1 : w.cell? ⟨rb, 1, none⟩ = some (.int .i64 s.places) := cell_of h.blk 1
  have c2 : w.cell? ⟨rb, 2, none⟩ = some (.slice (some ⟨gl, 0, none⟩) s.size cl) := cell_of h.blk 2
  have c3 : w.cell? ⟨rb, 3, none⟩ = some (.slice va s.l.length vc) := cell_of h.blk 3
  have kl := lt_of_block h.blk
  have kl2 : rb < w.heap.size + 1 := by omega
  have KR := Lib.hid (show ∀ w', Upd [] w w' → ∀ a, ∃ c w'', (∀ ty, (Builtin.append_ #[90, 90] ty #[.slice a 0 0, .slice (some ⟨gl, 0, none⟩) s.size cl]).run Try.prog w' = .ok (.slice (some ⟨w'.heap.size, 0, none⟩) s.size c) w'') ∧ Upd [] w' w'' ∧ s.size ≤ c ∧ c ≤ maxLen ∧ RefRow w'' w'.heap.size s.size (gv s.g) from fun w' u a => app_refs (H.out.row.upd u (by simp)) H.out.c1 H.out.c2 hN0 hN a)
  have KI := Lib.hid (show ∀ w', Upd [] w w' → ∀ a, ∃ b c w'', (∀ ty, (Builtin.append_ #[27, 27] ty #[.slice a 0 0, .slice va s.l.length vc]).run Try.prog w' = .ok (.slice b s.l.length c) w'') ∧ Upd [] w' w'' ∧ Ints w'' (.slice b s.l.length c) s.l from fun w' u a => app_ints (H.out.q.upd0 u) HL.out a)
  have KC := Lib.hid (show ∀ w', Upd [] w w' → w'.cell? ⟨rb, 1, none⟩ = some (.int .i64 s.places) ∧ w'.cell? ⟨rb, 2, none⟩ = some (.slice (some ⟨gl, 0, none⟩) s.size cl) ∧ w'.cell? ⟨rb, 3, none⟩ = some (.slice va s.l.length vc) ∧ rb < w'.heap.size from fun w' u =>
    ⟨cell_of (u.keep H.out.blk (by simp)) 1, cell_of (u.keep H.out.blk (by simp)) 2, cell_of (u.keep H.out.blk (by simp)) 3, lt_of_block (u.keep H.out.blk (by simp))⟩)
  clear h hk hL64
  go_enter Try.func30, Try.ntmps30
  go_wp2_with (go_at_call 56; refine (qqvalid H.out).mono ?_; rintro e w' ⟨rfl, rfl⟩)
  obtain ⟨ca, wa, ra, ua, fa1, fa2, fa3⟩ := KR.out (w.drew.alloc (.cells #[] 36)) ((Upd.refl [] w).drew.alloc _) (some ⟨w.heap.size, 0, none⟩)
  obtain ⟨cb, wb, rb', ub, fb1, fb2, fb3⟩ := KR.out ((w.drew.alloc (.cells #[] 36)).alloc (.cells #[] 3)) (((Upd.refl [] w).drew.alloc _).alloc _) (some ⟨w.heap.size, 0, none⟩)
  obtain ⟨cc, wc, rc, uc, fc1, fc2, fc3⟩ := KR.out ((w.drew.alloc (.cells #[] 3)).alloc (.cells #[] 36)) (((Upd.refl [] w).drew.alloc _).alloc _) (some ⟨w.heap.size + 1, 0, none⟩)
  have ea : (w.drew.alloc (.cells #[] 36)).heap.size = w.heap.size + 1 := by rw [World.size_alloc]; rfl
  have eb : ((w.drew.alloc (.cells #[] 36)).alloc (.cells #[] 3)).heap.size = w.heap.size + 1 + 1 := by rw [World.size_alloc, World.size_alloc]; rfl
  have ec : ((w.drew.alloc (.cells #[] 3)).alloc (.cells #[] 36)).heap.size = w.heap.size + 1 + 1 := by rw [World.size_alloc, World.size_alloc]; rfl
  rw [ea] at ra fa3
  rw [eb] at rb' fb3
  rw [ec] at rc fc3
  clear ea eb ec
  go_region_held_law (fun w' => w'.cell? ⟨rb, 1, none⟩ = some (.int .i64 s.places) ∧ w'.cell? ⟨rb, 2, none⟩ = some (.slice (some ⟨gl, 0, none⟩) s.size cl) ∧ w'.cell? ⟨rb, 3, none⟩ = some (.slice va s.l.length vc)) (first | exact ⟨d1', d2', d3'⟩ | exact ⟨d1, d2, d3⟩ | exact ⟨c1, c2, c3⟩ | go_keep) (first | ((obtain ⟨b7, c7, w7, r7, v7, i7⟩ := KI.out _ u6 (some ⟨w.heap.size + 1, 0, none⟩)); (refine step_appR rfl (.tmp 16) (.tmp 20) 27 rfl _ _ _ ?_ ?_ r7 ?_); (next => (first | (simp [Act.eval]; done) | (simp [Act.eval, Act.put]; done))); (next => (first | (simp [Act.eval]; done) | (simp [Act.eval, Act.put]; done))); (have u7 : Upd [] w w7 := (u6).trans v7); (have rowB := rowA.upd v7 (by simp)); (obtain ⟨d1', d2', d3', dl'⟩ := KC.out _ u7)) | ((obtain ⟨b7, c7, w7, r7, v7, i7⟩ := KI.out _ u6 (some ⟨w.heap.size, 0, none⟩)); (refine step_appR rfl (.tmp 16) (.tmp 20) 27 rfl _ _ _ ?_ ?_ r7 ?_); (next => (first | (simp [Act.eval]; done) | (simp [Act.eval, Act.put]; done))); (next => (first | (simp [Act.eval]; done) | (simp [Act.eval, Act.put]; done))); (have u7 : Upd [] w w7 := (u6).trans v7); (have rowB := rowA.upd v7 (by simp)); (obtain ⟨d1', d2', d3', dl'⟩ := KC.out _ u7)) | ((obtain ⟨b7, c7, w7, r7, v7, i7⟩ := KI.out _ (u6.alloc (.cells #[] 3)) (some ⟨wa.heap.size, 0, none⟩)); (refine step_appR rfl (.tmp 16) (.tmp 20) 27 rfl _ _ _ ?_ ?_ r7 ?_); (next => (first | (simp [Act.eval]; done) | (simp [Act.eval, Act.put]; done))); (next => (first | (simp [Act.eval]; done) | (simp [Act.eval, Act.put]; done))); (have u7 : Upd [] w w7 := ((u6.alloc (.cells #[] 3))).trans v7); (have rowB := (rowA.upd ((Upd.refl [] _).alloc (.cells #[] 3)) (by simp)).upd v7 (by simp)); (obtain ⟨d1', d2', d3', dl'⟩ := KC.out _ u7)) | ((refine step_appR rfl (.tmp 10) (.tmp 14) 90 rfl _ _ _ ?_ ?_ ra ?_); (next => (first | (simp [Act.eval]; done) | (simp [Act.eval, Act.put]; done))); (next => (first | (simp [Act.eval]; done) | (simp [Act.eval, Act.put]; done))); (have u6 : Upd [] w _ := ((Upd.refl [] w).drew.alloc (.cells #[] 36)).trans ua); (have rowA := fa3); (have zc1 := fa1); (have zc2 := fa2); (obtain ⟨d1, d2, d3, dl⟩ := KC.out _ u6)) | ((refine step_appR rfl (.tmp 10) (.tmp 14) 90 rfl _ _ _ ?_ ?_ rb' ?_); (next => (first | (simp [Act.eval]; done) | (simp [Act.eval, Act.put]; done))); (next => (first | (simp [Act.eval]; done) | (simp [Act.eval, Act.put]; done))); (have u6 : Upd [] w _ := (((Upd.refl [] w).drew.alloc (.cells #[] 36)).alloc (.cells #[] 3)).trans ub); (have rowA := fb3); (have zc1 := fb1); (have zc2 := fb2); (obtain ⟨d1, d2, d3, dl⟩ := KC.out _ u6)) | ((refine step_appR rfl (.tmp 10) (.tmp 14) 90 rfl _ _ _ ?_ ?_ rc ?_); (next => (first | (simp [Act.eval]; done) | (simp [Act.eval, Act.put]; done))); (next => (first | (simp [Act.eval]; done) | (simp [Act.eval, Act.put]; done))); (have u6 : Upd [] w _ := (((Upd.refl [] w).drew.alloc (.cells #[] 3)).alloc (.cells #[] 36)).trans uc); (have rowA := fc3); (have zc1 := fc1); (have zc2 := fc2); (obtain ⟨d1, d2, d3, dl⟩ := KC.out _ u6)))
  all_goals
    have RB := Lib.hid rowB; have IB := Lib.hid i7; have UB := Lib.hid u7
    go_wp2_with fail
    go_ret
    have UE : ∀ o, Upd [] w7 (w7.alloc o) := fun o => (Upd.refl _ _).alloc o
    exact ⟨w7.heap.size, rfl, ⟨_, _, _, ⟨new_of _ _, RB.out.upd (UE _) (by simp), IB.out.upd0 (UE _), zc1, zc2⟩⟩, UB.out.size, UB.out.trans (UE _)⟩

end Go.Proofs.Ytmbkjnjfipafmaa
