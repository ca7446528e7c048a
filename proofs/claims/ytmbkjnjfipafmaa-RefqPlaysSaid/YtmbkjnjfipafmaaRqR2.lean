/-
  Contracts of the document's reference queue (estrayref30): set, Watches, Len, Copy. Conditions: it is as New and its own calls leave it.
-/
import Derived.Test.YtmbkjnjfipafmaaRqR
namespace Go.Proofs.Ytmbkjnjfipafmaa
open Go.RowKit Go.Maps

theorem setc_far {w : World} {b i b' j : Nat} {v : Value} (h : ¬ (b = b' ∧ i = j)) : (w.setCell ⟨b, i, none⟩ v).cell? ⟨b', j, none⟩ = w.cell? ⟨b', j, none⟩ :=
  World.cell?_setCell_other w ⟨b, i, none⟩ ⟨b', j, none⟩ v (by simpa using h)
set_option maxRecDepth 100000 in
theorem qqset {w : World} {rb N P gl cl : Nat} {F : Nat → Rf} {l : List Int} {vq : Value} (h : RqIn w rb N P F l gl cl vq) (i : Nat) (hi : i < N) (hN : N ≤ 256) (r : Rf) :
    Calls Try.prog 59 #[.pointer (some ⟨rb, 0, none⟩), .int .i64 i, .agg #[.int .i64 r.1, .int .u32 r.2]] w fun e w' => (∃ v, e = .returned v) ∧ (∃ gl' cl', RqIn w' rb N P (setR F i r) l gl' cl' vq) ∧ Upd [rb] w w' := by
  obtain ⟨r1, r2⟩ := r
  have u1 : Upd [] w (w.alloc (.cells #[.int .i64 r1, .int .u32 r2] 36)) := (Upd.refl _ _).alloc _
  have hX := new_of w (.cells #[.int .i64 r1, .int .u32 r2] 36)
  have H := Lib.hid (h.upd0 u1); have HU := Lib.hid u1
  obtain ⟨i0, hii, hz0, hz1, hz2⟩ := info_parts infoR
  have H0 := Lib.hid h
  clear h u1
  dsimp only
  have HX := Lib.hid hX
  have d2 : w.cell? ⟨rb, 2, none⟩ = some (.slice (some ⟨gl, 0, none⟩) N cl) := cell_of H0.out.blk 2
  have kl := lt_of_block H0.out.blk
  have kl2 : rb < w.heap.size + 1 := by omega
  have hS : SlAt ((w.alloc (.cells #[.int .i64 r1, .int .u32 r2] 36)).alloc (.cells #[] 36)) 36 2 (.slice (some ⟨gl, 0, none⟩) N cl) N (rcells F N) := (H.out.row.upd ((Upd.refl [] _).alloc _) (by simp)).sl H.out.c1 H.out.c2
  have HS := Lib.hid hS
  have hO : ((w.alloc (.cells #[.int .i64 r1, .int .u32 r2] 36)).alloc (.cells #[] 36)).ownsRow (w.heap.size + 1) 36 2 (.slice (some ⟨w.heap.size + 1, 0, none⟩) 0 0) 0 [] := by
    have := owns_lit0 (w.alloc (.cells #[.int .i64 r1, .int .u32 r2] 36)) 36 2
    rwa [World.size_alloc] at this
  have HO := Lib.hid hO
  clear hS hX hO
  go_enter Try.func59, Try.ntmps59
  go_wp2_with (at_builtin; refine wpList_append_any _ rfl _ _ 90 rfl (w.heap.size + 1) 36 i0 _ 2 16 Try.underlying90 hii hz0 hz1 hz2 rfl (by decide) _ 0 [] rfl HO.out _ N _ rfl HS.out ?c1 ?c2 ?c3 ?_)
  case c1 => unfold maxLen; omega
  case c2 => omega
  case c3 => simp
  intro g7 c7 w7 hown7 hgrow7
  have u7 : Upd [] (w.alloc (.cells #[.int .i64 r1, .int .u32 r2] 36)) w7 := ((Upd.refl _ _).alloc _).grown hgrow7 (fun g hg => by simp [Value.ownBlock] at hg; simp; omega)
  obtain ⟨g, c, he, hc1, hc2, hbg, hrow⟩ := RefRow.ofOwn (by simpa using hown7) (show 0 < N by omega)
  simp only [Value.slice.injEq, true_and] at he
  obtain ⟨rfl, rfl⟩ := he
  have HROW := Lib.hid hrow; have U7 := Lib.hid u7
  have hbg2 : w.heap.size ≤ g := by omega
  have x0 : w7.cell? ⟨w.heap.size, 0, none⟩ = some (.int .i64 r1) := cell_of (u7.keep HX.out (by simp)) 0
  have x1 : w7.cell? ⟨w.heap.size, 1, none⟩ = some (.int .u32 r2) := cell_of (u7.keep HX.out (by simp)) 1
  have k0 : w7.cell? ⟨g, i * 2, none⟩ = some (.int .i64 (F i).1) := hrow.cell0 hi
  have k1 : w7.cell? ⟨g, i * 2 + 1, none⟩ = some (.int .u32 (F i).2) := hrow.cell1 hi
  have f0 : w7.frozen? ⟨g, i * 2, none⟩ = false := hrow.free _
  have f1 : w7.frozen? ⟨g, i * 2 + 1, none⟩ = false := hrow.free _
  have B7 := Lib.hid (u7.keep H.out.blk (by simp))
  have hgr : g ≠ rb := by have := lt_of_block H0.out.blk; omega
  have us : Upd [g] w7 ((w7.setCell ⟨g, i * 2, none⟩ (.int .i64 r1)).setCell ⟨g, i * 2 + 1, none⟩ (.int .u32 r2)) := ((Upd.refl [g] w7).setCell (p := ⟨g, i * 2, none⟩) (by simp) _).setCell (p := ⟨g, i * 2 + 1, none⟩) (by simp) _
  have B8 := Lib.hid (us.keep B7.out (by simpa using Ne.symm hgr))
  have d2' : ((w7.setCell ⟨g, i * 2, none⟩ (.int .i64 r1)).setCell ⟨g, i * 2 + 1, none⟩ (.int .u32 r2)).cell? ⟨rb, 2, none⟩ = some (.slice (some ⟨gl, 0, none⟩) N cl) := cell_of B8.out 2
  have f2 : ((w7.setCell ⟨g, i * 2, none⟩ (.int .i64 r1)).setCell ⟨g, i * 2 + 1, none⟩ (.int .u32 r2)).frozen? ⟨rb, 2, none⟩ = false := free_of B8.out 2
  have RS := Lib.hid (hrow.set i (r1, r2) hi)
  have UF := Lib.hid (((HU.out.trans u7).nil (S := [rb])).after us (fun x hx => by simp at hx; subst hx; exact .inl hbg2))
  have Q8 := Lib.hid (show Ints ((w7.setCell ⟨g, i * 2, none⟩ (.int .i64 r1)).setCell ⟨g, i * 2 + 1, none⟩ (.int .u32 r2)) vq l from (by
    obtain ⟨cur, hcur⟩ := hrow.blk
    exact (H.out.q.upd0 u7).kb hcur (by decide) us))
  clear hown7 hgrow7 u7 hrow us d2 kl
  go_wp2_with fail
  refine bodyPost_end (v := .tuple #[]) (by simp [results, Try.results59, go_sem]) rfl ?_
  have ue : Upd [rb] ((w7.setCell ⟨g, i * 2, none⟩ (.int .i64 r1)).setCell ⟨g, i * 2 + 1, none⟩ (.int .u32 r2)) (((w7.setCell ⟨g, i * 2, none⟩ (.int .i64 r1)).setCell ⟨g, i * 2 + 1, none⟩ (.int .u32 r2)).setCell ⟨rb, 2, none⟩ (.slice (some ⟨g, 0, none⟩) N c7)) := (Upd.refl [rb] _).setCell (p := ⟨rb, 2, none⟩) (by simp) _
  exact ⟨⟨_, rfl⟩, ⟨g, c7, set_of B8.out 2 _, RS.out.upd ue (by simpa using hgr), Q8.out.kb B8.out (by decide) ue, hc1, hc2⟩, UF.out.trans ue⟩

/-! ### Watches -/
theorem qbyI_none {s : Rs} {r : Rf} (h : ∀ i, i < s.size → s.g i ≠ some r) : s.byI r = none := by
  unfold Rs.byI
  cases hb : s.pt.byI r with
  | none => rfl
  | some i =>
    have h1 := byI_some hb
    unfold Pt.byI at hb
    have h2 := List.mem_of_find?_eq_some hb
    exact absurd h1 (h i (by simpa [Rs.pt] using h2))
theorem gv_of {s : Rs} {i : Nat} {r : Rf} (h : s.g i = some r) : gv s.g i = r := by unfold gv; rw [h]; rfl
theorem of_gv {s : Rs} {i : Nat} {r : Rf} (h : gv s.g i = r) (hr : r ≠ (0, 0)) : s.g i = some r := by
  unfold gv at h
  cases hg : s.g i with
  | none => rw [hg] at h; exact absurd h.symm hr
  | some y => rw [hg] at h; simp at h; rw [h]
theorem good_ne {s : Rs} (ho : s.pt.ok) {i : Nat} {r : Rf} (h : s.g i = some r) : r ≠ (0, 0) := by
  have := (ho.good i r h).2.2.2.1
  rintro rfl
  simp at this
set_option maxRecDepth 100000 in
set_option maxHeartbeats 1000000 in
theorem qqwatches {w : World} {rb P gl cl : Nat} {s : Rs} {l : List Int} {vq : Value} (h : RqIn w rb s.size P (gv s.g) l gl cl vq) (ho : s.pt.ok) (r : Rf) :
    Calls Try.prog 57 #[.pointer (some ⟨rb, 0, none⟩), .agg #[.int .i64 r.1, .int .u32 r.2]] w fun e w' => e = .returned (.tuple #[.int .i64 ((s.byI r).getD 0 : Nat), .bool (s.byI r).isSome]) ∧ Upd [] w w' := by
  obtain ⟨r1, r2⟩ := r
  have u1 : Upd [] w (w.alloc (.cells #[.int .i64 r1, .int .u32 r2] 36)) := (Upd.refl _ _).alloc _
  have hX := new_of w (.cells #[.int .i64 r1, .int .u32 r2] 36)
  have H := Lib.hid (h.upd0 u1); have HU := Lib.hid u1
  have hN : s.size ≤ 256 := ho.le
  have hcl : cl ≤ 9223372036854775807 := by have := h.c2; unfold maxLen at this; omega
  have hc1 := h.c1
  have HO := Lib.hid ho
  clear h u1 ho
  have eR := eqR
  have nR := neR
  have gR := gdR
  have zR := zeroR
  dsimp only
  go_enter Try.func57, Try.ntmps57
  go_wp2_with fail
  generalize w.alloc (.cells #[.int .i64 r1, .int .u32 r2] 36) = V at *
  generalize w.heap.size = X at *
  have HX := Lib.hid hX; clear hX
  go_loopw [6] (fun x wr => ∃ i : Nat, i ≤ s.size ∧ x = .int .i64 i ∧ (∀ j, j < i → s.g j ≠ some (r1, r2)) ∧ Upd [] V wr) (fun x _ => s.size - (intOf x).toNat)
  case atStart => exact ⟨0, by omega, rfl, fun j hj => by omega, Upd.refl _ _⟩
  case round =>
    obtain ⟨i, hi, rfl, hno, hup⟩ := hrel
    have HNO := Lib.hid hno; have HUP := Lib.hid hup
    have HR := Lib.hid (H.out.upd0 hup)
    have d2 : wr.cell? ⟨rb, 2, none⟩ = some (.slice (some ⟨gl, 0, none⟩) s.size cl) := cell_of HR.out.blk 2
    have x0 : wr.cell? ⟨X, 0, none⟩ = some (.int .i64 r1) := cell_of (hup.keep HX.out (by simp)) 0
    have x1 : wr.cell? ⟨X, 1, none⟩ = some (.int .u32 r2) := cell_of (hup.keep HX.out (by simp)) 1
    clear hno hup
    by_cases hlt : i < s.size
    · have k0 := HR.out.row.cell0 hlt
      have k1 := HR.out.row.cell1 hlt
      obtain ⟨⟨o1, o2⟩, hov⟩ : ∃ x : Rf, gv s.g i = x := ⟨_, rfl⟩
      rw [hov] at k0 k1
      dsimp only at k0 k1
      have HOV := Lib.hid hov
      have hgl := HR.out.row.lt
      clear hov
      by_cases hit : (o1, o2) = (r1, r2) ∧ ((r1, r2) : Rf) ≠ (0, 0)
      · obtain ⟨he, hne⟩ := hit
        have hsg := of_gv (HOV.out.trans he) hne
        have hby : s.byI (r1, r2) = some i := byI_of (s := s.pt) HO.out hsg
        simp only [Prod.mk.injEq] at he
        obtain ⟨rfl, rfl⟩ := he
        have e1 : (o1 == o1 && o2 == o2) = true := by simp
        have e2 : (o1 == 0 && o2 == 0) = false := by
          cases h : (o1 == 0 && o2 == 0) with
          | false => rfl
          | true => simp at h; exact absurd (by rw [h.1, h.2]) hne
        have HBY := Lib.hid hby
        clear hne hsg hby
        go_wp2_with (go_at_call 56; refine (qqvalid HR.out).mono ?_; rintro e w' ⟨rfl, rfl⟩)
        go_quiet (fail)
        go_wp2_with fail
        go_ret2
        exact ⟨by rw [HBY.out]; rfl, (HU.out.trans HUP.out).drewN _⟩
      · have hng : s.g i ≠ some (r1, r2) := fun hg => hit ⟨by rw [← HOV.out]; exact gv_of hg, good_ne HO.out hg⟩
        have HNG := Lib.hid hng
        have he : (o1 == r1 && o2 == r2) = false ∨ (o1 == r1 && o2 == r2) = true ∧ (r1 == 0 && r2 == 0) = true := by
          cases h1 : (o1 == r1 && o2 == r2) with
          | false => exact .inl rfl
          | true =>
            refine .inr ⟨rfl, ?_⟩
            cases h2 : (r1 == 0 && r2 == 0) with
            | true => rfl
            | false =>
              simp at h1
              refine absurd ⟨by rw [h1.1, h1.2], ?_⟩ hit
              intro h3
              simp only [Prod.mk.injEq] at h3
              rw [h3.1, h3.2] at h2
              simp at h2
        clear hng hit
        rcases he with he | ⟨he, he2⟩
        · go_wp2_with (go_at_call 56; refine (qqvalid HR.out).mono ?_; rintro e w' ⟨rfl, rfl⟩)
          go_quiet (fail)
          go_wp2_with fail
          go_roundw
          case rel =>
            refine ⟨i + 1, by omega, by go_num, fun j hj => ?_, HUP.out.drewN _⟩
            by_cases e : j = i
            · subst e; exact HNG.out
            · exact HNO.out j (by omega)
          case measure => simp [intOf]; omega
        · simp only [Bool.and_eq_true, beq_iff_eq] at he he2
          obtain ⟨rfl, rfl⟩ := he
          obtain ⟨rfl, rfl⟩ := he2
          go_wp2_with (go_at_call 56; refine (qqvalid HR.out).mono ?_; rintro e w' ⟨rfl, rfl⟩)
          go_quiet (fail)
          go_wp2_with fail
          go_roundw
          case rel =>
            refine ⟨i + 1, by omega, by go_num, fun j hj => ?_, HUP.out.drewN _⟩
            by_cases e : j = i
            · subst e; exact HNG.out
            · exact HNO.out j (by omega)
          case measure => simp [intOf]; omega
    · have hb := qbyI_none (s := s) (r := (r1, r2)) (fun j hj => HNO.out j (by omega))
      have HB := Lib.hid hb; clear hb
      go_wp2_with (go_at_call 56; refine (qqvalid HR.out).mono ?_; rintro e w' ⟨rfl, rfl⟩)
      go_ret2
      exact ⟨by rw [HB.out]; rfl, HU.out.trans HUP.out⟩

/-! ### Len -/
theorem cntP_stop {p : Nat → Bool} {n : Nat} (h : ∀ i, n ≤ i → p i = false) : ∀ k, cntP p (n + k) = cntP p n
  | 0 => rfl
  | k + 1 => by rw [← Nat.add_assoc, cntP_succ, cntP_stop h k, h _ (by omega)]; simp
theorem card_size {s : Rs} (ho : s.pt.ok) : cntP (fun i => (s.g i).isSome) s.size = cardG s.g := by
  have hle : s.size ≤ 256 := ho.le
  have := cntP_stop (p := fun i => (s.g i).isSome) (n := s.size) (fun i hi => by
    cases hg : s.g i with
    | none => rfl
    | some r => have : i < s.size := (ho.good i r hg).1; omega) (256 - s.size)
  rw [show s.size + (256 - s.size) = 256 by omega] at this
  exact this.symm
set_option maxRecDepth 100000 in
set_option maxHeartbeats 1000000 in
theorem qqlen {w : World} {rb P gl cl : Nat} {s : Rs} {l : List Int} {vq : Value} (h : RqIn w rb s.size P (gv s.g) l gl cl vq) (ho : s.pt.ok) :
    Calls Try.prog 63 #[.pointer (some ⟨rb, 0, none⟩)] w fun e w' => e = .returned (.int .i64 (cardG s.g)) ∧ w = w' := by
  have HR := Lib.hid h
  have hN : s.size ≤ 256 := ho.le
  have hcl : cl ≤ 9223372036854775807 := by have := h.c2; unfold maxLen at this; omega
  have hc1 := h.c1
  have HO := Lib.hid ho
  have d2 : w.cell? ⟨rb, 2, none⟩ = some (.slice (some ⟨gl, 0, none⟩) s.size cl) := cell_of h.blk 2
  clear h ho
  have nR := neR
  have gR := gdR
  have zR := zeroR
  go_enter Try.func63, Try.ntmps63
  go_wp2_with fail
  go_loop [3, 4] (fun y x => ∃ i : Nat, i ≤ s.size ∧ x = .int .i64 i ∧ y = .int .i64 (cntP (fun i => (s.g i).isSome) i : Nat)) (fun _ x => s.size - (intOf x).toNat)
  case atStart => exact ⟨0, by omega, rfl, rfl⟩
  case round =>
    obtain ⟨i, hi, rfl, rfl⟩ := hrel
    by_cases hlt : i < s.size
    · have k0 := HR.out.row.cell0 hlt
      have k1 := HR.out.row.cell1 hlt
      obtain ⟨⟨o1, o2⟩, hov⟩ : ∃ x : Rf, gv s.g i = x := ⟨_, rfl⟩
      rw [hov] at k0 k1
      dsimp only at k0 k1
      have hgl := HR.out.row.lt
      have hcs := cntP_succ (fun i => (s.g i).isSome) i
      have hcb := cntP_le (fun i => (s.g i).isSome) i
      have hz := gv_zero HO.out i
      rw [show s.pt.g = s.g from rfl, hov] at hz
      cases hg : s.g i with
      | none =>
        obtain ⟨rfl, rfl⟩ : o1 = 0 ∧ o2 = 0 := by have := hz.2 hg; simpa using this
        rw [hg] at hcs
        have HCS := Lib.hid (show cntP (fun i => (s.g i).isSome) (i + 1) = cntP (fun i => (s.g i).isSome) i by simpa using hcs)
        clear hcs hz hg hov
        generalize cntP (fun i => (s.g i).isSome) i = q at *
        go_wp2_with (go_at_call 56; refine (qqvalid HR.out).mono ?_; rintro e w' ⟨rfl, rfl⟩)
        go_round
        case rel => exact ⟨i + 1, by omega, by go_num, by rw [HCS.out]⟩
        case measure => simp [intOf]; omega
      | some y =>
        have hne : (o1 == 0 && o2 == 0) = false := by
          cases h1 : (o1 == 0 && o2 == 0) with
          | false => rfl
          | true =>
            simp at h1
            have := hz.1 (by rw [h1.1, h1.2])
            rw [hg] at this; cases this
        rw [hg] at hcs
        have HCS := Lib.hid (show cntP (fun i => (s.g i).isSome) (i + 1) = cntP (fun i => (s.g i).isSome) i + 1 by simpa using hcs)
        clear hcs hz hg hov
        generalize cntP (fun i => (s.g i).isSome) i = q at *
        go_wp2_with (go_at_call 56; refine (qqvalid HR.out).mono ?_; rintro e w' ⟨rfl, rfl⟩)
        go_round
        case rel => exact ⟨i + 1, by omega, by go_num, by rw [HCS.out]; go_num⟩
        case measure => simp [intOf]; omega
    · obtain rfl : i = s.size := by omega
      rw [card_size HO.out]
      go_wp2_with (go_at_call 56; refine (qqvalid HR.out).mono ?_; rintro e w' ⟨rfl, rfl⟩)
      go_ret
      exact ⟨rfl, rfl⟩

end Go.Proofs.Ytmbkjnjfipafmaa
