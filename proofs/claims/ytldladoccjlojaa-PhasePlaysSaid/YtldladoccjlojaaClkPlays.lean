/-
  PhasePlays: after each step a clock shows what the document's shows; what was copied stays. Conditions: none.
-/
import Derived.Test.YtldladoccjlojaaClkShow
import Derived.Deep.DeepCutAuto
import Derived.Deep.CutBlock
namespace Go.Proofs.Ytldladoccjlojaa
open Go.RowKit

/-- The cells of a step. -/
def IsStep (cs : List Value) : Prop := ∃ d s : Int, cs = [.int .i64 d, .int .i64 s] ∧ (Lit.int .i64 d).wf = true ∧ (Lit.int .i64 s).wf = true
theorem steps_of {H : Type} {enc : TypeId × Value → H} {w : World} {v : Value} {d : DataW H} {p : List MemPlace}
    (hval : Value.okWide Try.prog w .any 0 42 v) (h : DataW.Trod enc Try.prog w 0 (fun _ => true) true 42 v d p) : ∃ css, Recs w v 2 css ∧ ∀ cs ∈ css, IsStep cs := by
  refine recs_of Try.underlying42 2 (by kernel_rfl) (by decide) IsStep (fun n cs y hl ht => ?_) hval h
  match cs, hl with
  | [c0, c1], _ =>
    obtain ⟨_, _, h0⟩ := field_of (c := 1) Try.underlying47 ht 0 _ rfl rfl rfl (by kernel_rfl)
    obtain ⟨_, _, h1⟩ := field_of (c := 1) Try.underlying47 ht 1 _ rfl rfl rfl (by kernel_rfl)
    obtain ⟨x, rfl, wx⟩ := int_cell Try.underlying3 h0
    obtain ⟨z, rfl, wz⟩ := int_cell Try.underlying3 h1
    exact ⟨x, z, rfl, wx, wz⟩

/-- Two blocks that are clocks in the same state. -/
structure Two (w : World) (b r : Nat) (k : Ck) : Prop where
  c : CkAt w b k
  r : RkAt w r k
theorem Two.b55 {w : World} {b r : Nat} {k : Ck} (h : Two w b r k) : ∃ c, w.heap[b]? = some (.cells c 55 (0, 0)) := ⟨_, h.c.2⟩
theorem Two.r61 {w : World} {b r : Nat} {k : Ck} (h : Two w b r k) : ∃ c, w.heap[r]? = some (.cells c 61 (0, 0)) := by
  obtain ⟨_, _, _, h2, _⟩ := h.r; exact ⟨_, h2⟩
theorem Two.ne {w : World} {b r b' r' : Nat} {k k' : Ck} (h : Two w b r k) (h' : Two w b' r' k') : b ≠ r' := by
  obtain ⟨c, hc⟩ := h.b55; obtain ⟨d, hd⟩ := h'.r61
  rintro rfl
  rw [hc] at hd; simp at hd
theorem Two.upd0 {w w' : World} {b r : Nat} {k : Ck} (h : Two w b r k) (u : Upd [] w w') : Two w' b r k := ⟨h.c.upd u (by simp), h.r.upd0 u⟩
/-- The first of the two goes on. -/
theorem Two.left {w w' : World} {b r : Nat} {k q : Ck} (h : Two w b r k) (_ : CkAt w' b q) (u : Upd [b] w w') : RkAt w' r k := by
  obtain ⟨c, hc⟩ := h.b55
  exact h.r.upd u (by simpa using (h.ne h).symm) (fun x hx => by simp at hx; subst hx; exact ne_elem hc (by decide))
/-- The second follows. -/
theorem right_of {w w' : World} {b r : Nat} {k q : Ck} (hc : CkAt w b q) (hr : RkAt w r k) (r2 : RkAt w' r q) (u : Upd [r] w w') : Two w' b r q := by
  refine ⟨hc.upd u ?_, r2⟩
  obtain ⟨_, _, _, hd, _⟩ := hr
  have hc := hc.2
  simp
  rintro rfl
  rw [hc] at hd; simp at hd
/-- Another pair stays while the first, or the second, of a pair goes on. -/
theorem Two.stay1 {w w' : World} {b r b' r' : Nat} {k k' : Ck} (h : Two w b' r' k') (o : Two w b r k) (hb : b' ≠ b) (u : Upd [b] w w') : Two w' b' r' k' := by
  obtain ⟨c, hc⟩ := o.b55
  exact ⟨h.c.upd u (by simpa using hb), h.r.upd u (by simpa using (o.ne h).symm) (fun x hx => by simp at hx; subst hx; exact ne_elem hc (by decide))⟩
theorem Two.stay2 {w w' : World} {b' r' r : Nat} {k' q : Ck} (h : Two w b' r' k') (o : RkAt w r q) (hr : r' ≠ r) (u : Upd [r] w w') : Two w' b' r' k' := by
  obtain ⟨_, _, _, hd, _⟩ := o
  refine ⟨h.c.upd u ?_, h.r.upd u (by simpa using hr) (fun x hx => by simp at hx; subst hx; exact ne_elem hd (by decide))⟩
  have hc := h.c.2
  simp
  rintro rfl
  rw [hc] at hd; simp at hd

/-- What was copied: nothing, or a pair that stays. -/
def OldAt (w : World) (b r : Nat) (x y : Value) : Prop :=
  (x = .pointer none ∧ y = .pointer none) ∨ ∃ ob or k, x = .pointer (some ⟨ob, 0, none⟩) ∧ y = .pointer (some ⟨or, 0, none⟩) ∧ Two w ob or k ∧ ob ≠ b ∧ or ≠ r
theorem OldAt.upd0 {w w' : World} {b r : Nat} {x y : Value} (h : OldAt w b r x y) (u : Upd [] w w') : OldAt w' b r x y := by
  rcases h with h | ⟨ob, or, k, h1, h2, h3, h4, h5⟩
  · exact .inl h
  · exact .inr ⟨ob, or, k, h1, h2, h3.upd0 u, h4, h5⟩
theorem OldAt.stay {w w' w'' : World} {b r : Nat} {x y : Value} {k q : Ck} (h : OldAt w b r x y) (o : Two w b r k) (u : Upd [b] w w') (r2 : RkAt w' r q) (u2 : Upd [r] w' w'') : OldAt w'' b r x y := by
  rcases h with h | ⟨ob, or, k, h1, h2, h3, h4, h5⟩
  · exact .inl h
  · exact .inr ⟨ob, or, k, h1, h2, (h3.stay1 o h4 u).stay2 r2 h5 u2, h4, h5⟩
/-- What holds between the steps, and behind the switch. -/
def PlRel (w : World) (n i : Nat) (c r old was : Value) (wr : World) : Prop :=
  ∃ (b d : Nat) (k : Ck), c = .pointer (some ⟨b, 0, none⟩) ∧ r = .pointer (some ⟨d, 0, none⟩) ∧ Two wr b d k ∧ k.n = n ∧ k.c ≤ i ∧ w.heap.size ≤ b ∧ w.heap.size ≤ d ∧ OldAt wr b d old was ∧ Upd [] w wr

set_option maxRecDepth 100000 in
set_option maxHeartbeats 8000000 in
theorem plays_val (n : Nat) (hn1 : 1 ≤ n) (hn4 : n ≤ 4) (v : Value) (css : List (List Value)) (w : World) (hv : Recs w v 2 css) (hF : ∀ cs ∈ css, IsStep cs) (hlong : css.length ≤ 200) :
    Calls Try.prog 7 #[.int .i64 n, v] w fun e w' => e = .returned (.bool true) ∧ Upd [] w w' := by
  have HV := Lib.hid hv
  obtain ⟨a, cap, rfl, hcc, hcm, -⟩ := hv
  have hm : cap ≤ 9223372036854775807 := by unfold maxLen at hcm; omega
  have HF := Lib.hid hF; clear hF
  have hlg : decide (200 < (css.length : Int)) = false := by simp; omega
  go_enter Try.func7, Try.ntmps7
  go_wp2_with fail
  refine (new_at n _ hn1 hn4).mono ?_; rintro e w1 ⟨rfl, a1, u1⟩
  go_wp2_with fail
  refine (rnew_at n _ hn1 hn4).mono ?_; rintro e w2 ⟨R0, rfl, hR0, r1, u2⟩
  have a2 := a1.upd u2 (by simp)
  have hR0' := Nat.le_trans u1.size hR0
  have hw0 : w.heap.size ≤ w.heap.size := Nat.le_refl _
  generalize hB : w.heap.size = B0 at a2 ⊢
  have HB := Lib.hid (Nat.le_of_eq hB); clear hB hw0
  clear a1
  go_wp2_with fail
  go_loopw [5, 7, 9, 10, 11] (fun c r old was x wr => ∃ i : Nat, i ≤ css.length ∧ x = .int .i64 i ∧ PlRel w n i c r old was wr) (fun _ _ _ _ x _ => css.length - (intOf x).toNat)
  case atStart => exact ⟨0, by omega, rfl, B0, R0, _, rfl, rfl, ⟨a2, r1⟩, rfl, by simp [ckNew], HB.out, hR0', .inl ⟨rfl, rfl⟩, u1.trans u2⟩
  case round =>
    clear a2 r1 hR0 hR0'
    obtain ⟨i, hi, rfl, b, d, k, rfl, rfl, hT, hkn, hkc, hb0, hd0, hold, hup⟩ := hrel
    have KN := Lib.hid hkn; clear hkn
    have HT := Lib.hid hT; clear hT
    have HO := Lib.hid hold; clear hold
    by_cases hlt : i < css.length
    · obtain ⟨ab, off, rfl, hab, hcl, hat⟩ := HV.out.at hlt
      obtain ⟨dd, x, hcs, hwd, hwx⟩ := HF.out _ (List.getElem_mem hlt)
      have HC : ∀ w', Upd [] w w' → w'.cell? ⟨ab, off + i * 2, none⟩ = some (.int .i64 dd) ∧ w'.cell? ⟨ab, off + i * 2 + 1, none⟩ = some (.int .i64 x) ∧ ab < w'.heap.size := fun w' h =>
        ⟨(h.cell (p := ⟨ab, off + i * 2, none⟩) hab (by simp)).trans (hat 0 _ (by rw [hcs]; rfl)), (h.cell (p := ⟨ab, off + i * 2 + 1, none⟩) hab (by simp)).trans (hat 1 _ (by rw [hcs]; rfl)), Nat.lt_of_lt_of_le hab h.size⟩
      have HCH := Lib.hid HC; clear HC
      clear hcl hat hcs hwd hwx hab
      obtain ⟨hc0, hc1, hab⟩ := HCH.out _ hup
      go_upto_block 2 with fail
      go_cut [5, 7, 9, 10] (fun c r old was wx => PlRel w n (i + 1) c r old was wx)
      case first =>
        by_cases h0 : dd = 0
        · subst h0
          go_wp2_with fail
          refine (begin_any b k _ HT.out.c).mono ?_; rintro e w3 ⟨rfl, a3, u3⟩
          have r3 := HT.out.left a3 u3
          go_wp2_with fail
          refine (rbegin_any d k _ r3).mono ?_; rintro e w4 ⟨rfl, r4, u4⟩
          have T4 := right_of a3 r3 r4 u4
          have O4 := HO.out.stay HT.out u3 r3 u4
          clear r3 a3 r4
          go_wp2_with fail
          go_meet
          case rel => exact ⟨b, d, _, rfl, rfl, T4, by rw [beginS_n]; exact KN.out, by rw [beginS_c]; omega, hb0, hd0, O4, (hup.fresh1 u3 hb0).fresh1 u4 hd0⟩
        by_cases h1 : dd = 1
        · subst h1
          clear h0
          go_wp2_with fail
          refine (ack_any b k x _ HT.out.c).mono ?_; rintro e w3 ⟨rfl, a3, u3⟩
          have r3 := HT.out.left a3 u3
          obtain ⟨d0, d1, dab⟩ := HCH.out _ (hup.fresh1 u3 hb0)
          go_wp2_with fail
          refine (rack_any d k x _ r3).mono ?_; rintro e w4 ⟨rfl, r4, u4⟩
          have T4 := right_of a3 r3 r4 u4
          have O4 := HO.out.stay HT.out u3 r3 u4
          clear r3 a3 r4
          go_wp2_with fail
          go_meet
          case rel => exact ⟨b, d, _, rfl, rfl, T4, by rw [ackS_n]; exact KN.out, by rw [ackS_c]; omega, hb0, hd0, O4, (hup.fresh1 u3 hb0).fresh1 u4 hd0⟩
        by_cases h2 : dd = 2
        · subst h2
          clear h0 h1
          go_wp2_with fail
          refine (go_any b k _ HT.out.c (by omega)).mono ?_; rintro e w3 ⟨rfl, a3, u3⟩
          have r3 := HT.out.left a3 u3
          go_wp2_with fail
          refine (rgo_any d k _ r3 (by omega)).mono ?_; rintro e w4 ⟨rfl, r4, u4⟩
          have T4 := right_of a3 r3 r4 u4
          have O4 := HO.out.stay HT.out u3 r3 u4
          have hgc := goS_c k
          clear r3 a3 r4
          go_wp2_with fail
          go_meet
          case rel => exact ⟨b, d, _, rfl, rfl, T4, by rw [goS_n]; exact KN.out, by omega, hb0, hd0, O4, (hup.fresh1 u3 hb0).fresh1 u4 hd0⟩
        by_cases h3 : dd = 3
        · subst h3
          clear h0 h1 h2
          go_wp2_with fail
          obtain ⟨wo, rfl⟩ : ∃ wo : World, wo = wr := ⟨_, rfl⟩
          go_loopw [16] (fun y wr => ∃ (m : Int) (q : Ck), -1 ≤ m ∧ m < n ∧ y = .int .i64 m ∧ Two wr b d q ∧ q.n = n ∧ q.c ≤ i ∧ OldAt wr b d u9 u10 ∧ Upd [] w wr) (fun y _ => (intOf y + 1).toNat)
          case atStart => exact ⟨(n : Int) - 1, k, by omega, by omega, rfl, HT.out, KN.out, hkc, HO.out, hup⟩
          case round =>
            obtain ⟨m, q, hm0, hm1, rfl, hT, hqn, hqc, hold, hup⟩ := hrel
            have QN := Lib.hid hqn; clear hqn
            have HT := Lib.hid hT; clear hT
            have HO := Lib.hid hold; clear hold
            by_cases hge : 0 ≤ m
            · go_wp2_with fail
              refine (ack_any b q m _ HT.out.c).mono ?_; rintro e w3 ⟨rfl, a3, u3⟩
              have r3 := HT.out.left a3 u3
              go_wp2_with fail
              refine (rack_any d q m _ r3).mono ?_; rintro e w4 ⟨rfl, r4, u4⟩
              have T4 := right_of a3 r3 r4 u4
              have O4 := HO.out.stay HT.out u3 r3 u4
              clear r3 a3 r4
              go_wp2_with fail
              go_roundw
              case rel => exact ⟨m - 1, _, by omega, by omega, rfl, T4, by rw [ackS_n]; exact QN.out, by rw [ackS_c]; exact hqc, O4, (hup.fresh1 u3 hb0).fresh1 u4 hd0⟩
              case measure => simp [intOf]; omega
            · go_wp2_with fail
              go_meet
              case rel => exact ⟨b, d, q, rfl, rfl, HT.out, QN.out, by omega, hb0, hd0, HO.out, hup⟩
        by_cases h4 : dd = 4
        · subst h4
          clear h0 h1 h2 h3
          go_wp2_with fail
          refine (copy_at b k _ HT.out.c).mono ?_; rintro e w3 ⟨rfl, a3, u3⟩
          have hbl := HT.out.c.lt
          have hdl := HT.out.r.lt
          have hnb := hup.size
          have T3 := HT.out.upd0 u3
          have hls := u3.size
          have hbn : b ≠ wr.heap.size := by omega
          generalize wr.heap.size = nb at *
          go_wp2_with fail
          refine (rcopy_at d k _ T3.r).mono ?_; rintro e w4 ⟨nd, rfl, hnd, r4, u4⟩
          have T4 : Two w4 nb nd k := ⟨a3.upd u4 (by simp), r4⟩
          have O4 : OldAt w4 nb nd (.pointer (some ⟨b, 0, none⟩)) (.pointer (some ⟨d, 0, none⟩)) := .inr ⟨b, d, k, rfl, rfl, T3.upd0 u4, hbn, by omega⟩
          have hnd2 : w.heap.size ≤ nd := by omega
          clear r4 T3 a3
          go_wp2_with fail
          go_meet
          case rel => exact ⟨nb, nd, k, rfl, rfl, T4, KN.out, by omega, hnb, hnd2, O4, (hup.trans u3).trans u4⟩
        · have b0 : (dd == 0) = false := by simpa using h0
          have b1 : (dd == 1) = false := by simpa using h1
          have b2 : (dd == 2) = false := by simpa using h2
          have b3 : (dd == 3) = false := by simpa using h3
          have b4 : (dd == 4) = false := by simpa using h4
          clear h0 h1 h2 h3 h4
          go_wp2_with fail
          go_meet
          case rel => exact ⟨b, d, k, rfl, rfl, HT.out, KN.out, by omega, hb0, hd0, HO.out, hup⟩
      case rest =>
        clear hc0 hc1 hab HT HO KN hup hb0 hd0 hkc
        obtain ⟨b2, d2, k2, rfl, rfl, hT, hkn, hkc, hb2, hd2, hold, hup⟩ := hcut
        obtain ⟨hc0, hc1, hab⟩ := HCH.out _ hup
        have KN := Lib.hid hkn; clear hkn
        have HT := Lib.hid hT; clear hT
        have HO := Lib.hid hold; clear hold
        go_wp2_with fail
        refine (shows_at b2 d2 k2 x _ HT.out.c HT.out.r).mono ?_; rintro e w5 ⟨rfl, u5⟩
        go_wp2_with fail
        go_roundw
        case rel => exact ⟨i + 1, by omega, by go_num, b2, d2, k2, rfl, rfl, HT.out.upd0 u5, KN.out, hkc, hb2, hd2, HO.out.upd0 u5, hup.trans u5⟩
        case measure => simp [intOf]; omega
    · rcases HO.out with ⟨rfl, rfl⟩ | ⟨ob, od, k2, rfl, rfl, T2, _, _⟩
      · go_wp2_with fail
        refine (works_ok _).mono ?_; rintro e w5 ⟨rfl, u5⟩
        go_wp2_with fail
        go_ret
        exact ⟨rfl, hup.trans u5⟩
      · clear HO
        go_wp2_with fail
        refine (shows_at ob od k2 0 _ T2.c T2.r).mono ?_; rintro e w5 ⟨rfl, u5⟩
        go_wp2_with fail
        refine (works_ok _).mono ?_; rintro e w6 ⟨rfl, u6⟩
        go_wp2_with fail
        go_ret
        exact ⟨rfl, (hup.trans u5).trans u6⟩

set_option maxRecDepth 100000 in
set_option maxHeartbeats 1000000 in
theorem plays_nil (n : Int) (hn : n < 1 ∨ 4 < n) (v : Value) (css : List (List Value)) (w : World) (hv : Recs w v 2 css) (hlong : css.length ≤ 200) :
    Calls Try.prog 7 #[.int .i64 n, v] w fun e w' => e = .returned (.bool true) ∧ Upd [] w w' := by
  obtain ⟨a, cap, rfl, hcc, hcm, -⟩ := hv
  have hm : cap ≤ 9223372036854775807 := by unfold maxLen at hcm; omega
  have hlg : decide (200 < (css.length : Int)) = false := by simp; omega
  have HN := Lib.hid hn; clear hn
  by_cases h0 : 0 < css.length
  · go_enter Try.func7, Try.ntmps7
    go_wp2_with fail
    refine (new_err n _ HN.out).mono ?_; rintro e w1 ⟨rfl, rfl⟩
    go_wp2_with fail
    refine (rnew_err n _ HN.out).mono ?_; rintro e w1 ⟨rfl, rfl⟩
    go_wp2_with fail
    refine wp_loop_rounds 1 ?_
    rw [rounds_succ]
    go_wp2_with fail
    refine (works_ok _).mono ?_; rintro e w5 ⟨rfl, u5⟩
    go_wp2_with fail
    go_ret
    exact ⟨rfl, u5⟩
  · obtain rfl : css = [] := List.eq_nil_of_length_eq_zero (by omega)
    clear h0 hlg hlong
    go_enter Try.func7, Try.ntmps7
    go_wp2_with fail
    refine (new_err n _ HN.out).mono ?_; rintro e w1 ⟨rfl, rfl⟩
    go_wp2_with fail
    refine (rnew_err n _ HN.out).mono ?_; rintro e w1 ⟨rfl, rfl⟩
    go_wp2_with fail
    refine wp_loop_rounds 1 ?_
    rw [rounds_succ]
    go_wp2_with fail
    refine (works_ok _).mono ?_; rintro e w5 ⟨rfl, u5⟩
    go_wp2_with fail
    go_ret
    exact ⟨rfl, u5⟩

theorem plays_fr (w : World) (size : Int) (_ : (Lit.int .i64 size).wf = true) (v : Value) (css : List (List Value)) (hv : Recs w v 2 css ∧ ∀ cs ∈ css, IsStep cs) :
    Calls Try.prog 7 #[.int .i64 size, v] w fun e w' => e = .returned (.bool true) ∧ Upd [] w w' := by
  obtain ⟨hv, hF⟩ := hv
  by_cases hlong : css.length ≤ 200
  · by_cases hs : size < 1 ∨ 4 < size
    · exact plays_nil size hs v css w hv hlong
    · obtain ⟨n, rfl⟩ := Int.eq_ofNat_of_zero_le (show 0 ≤ size by omega)
      exact plays_val n (by omega) (by omega) v css w hv hF hlong
  · obtain ⟨a, cap, rfl, hcc, hcm, _⟩ := hv
    have hm : cap ≤ 9223372036854775807 := by unfold maxLen at hcm; omega
    have hlg : (200 : Int) < css.length := by omega
    go_enter Try.func7, Try.ntmps7
    go_wp2_with fail
    refine (works_ok _).mono ?_; rintro e w5 ⟨rfl, u5⟩
    go_wp2_with fail
    go_ret
    exact ⟨rfl, u5⟩

end Go.Proofs.Ytldladoccjlojaa
