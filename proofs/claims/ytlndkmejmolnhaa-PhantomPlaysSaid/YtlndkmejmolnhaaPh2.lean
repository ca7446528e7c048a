/-
  Contracts of the package phantom: Add. Conditions: the table is as New and its own calls leave it.
-/
import Derived.Test.YtlndkmejmolnhaaPh
namespace Go.Proofs.Ytlndkmejmolnhaa
open Go.RowKit Go.Maps

theorem padd_range {b m n : Nat} {s : Pt} {w : World} (h : PtAt w b m n s) (id : Int) (r : Rf) (hid : ¬ (0 ≤ id ∧ id < s.size)) :
    Calls Try.prog 12 #[.pointer (some ⟨b, 0, none⟩), .int .i64 id, .agg #[.int .i64 r.1, .int .u32 r.2]] w fun e w' => e = .returned (.int .i64 3) ∧ Upd [] w w' := by
  have u1 : Upd [] w (w.alloc (.cells #[.int .i64 r.1, .int .u32 r.2] 24)) := (Upd.refl _ _).alloc _
  have H := Lib.hid (h.upd0 u1)
  have hc : s.chkE id = 3 := if_neg hid
  have HC := Lib.hid hc
  clear h u1 hc hid
  obtain ⟨r1, r2⟩ := r
  dsimp only at H ⊢
  go_enter Try.func12, Try.ntmps12
  go_wp2_with (go_at_call 25; refine (pcheck H.out id).mono ?_; rw [HC.out]; rintro e w' ⟨rfl, rfl⟩)
  go_ret
  exact ⟨rfl, (Upd.refl _ _).alloc _⟩
theorem padd_bad {b m n : Nat} {s : Pt} {w : World} (h : PtAt w b m n s) (id : Int) (r : Rf) (hw : refWf r) (hid : 0 ≤ id ∧ id < s.size) (hr : ¬ goodR r) :
    Calls Try.prog 12 #[.pointer (some ⟨b, 0, none⟩), .int .i64 id, .agg #[.int .i64 r.1, .int .u32 r.2]] w fun e w' => e = .returned (.int .i64 2) ∧ Upd [] w w' := by
  have u1 : Upd [] w (w.alloc (.cells #[.int .i64 r.1, .int .u32 r.2] 24)) := (Upd.refl _ _).alloc _
  have H := Lib.hid (h.upd0 u1)
  have hc : s.chkE id = 0 := if_pos hid
  have HC := Lib.hid hc
  clear h u1 hc hid
  obtain ⟨r1, r2⟩ := r
  have hb2 := bounds_u32 hw.2
  unfold goodR at hr
  dsimp only at H hr hb2 ⊢
  clear hw
  by_cases h1 : r1 < 0
  · clear hr hb2
    go_enter Try.func12, Try.ntmps12
    go_wp2_with (go_at_call 25; refine (pcheck H.out id).mono ?_; rw [HC.out]; rintro e w' ⟨rfl, rfl⟩)
    go_ret
    exact ⟨rfl, (Upd.refl _ _).alloc _⟩
  · by_cases h2 : 256 ≤ r1
    · clear hr hb2
      go_enter Try.func12, Try.ntmps12
      go_wp2_with (go_at_call 25; refine (pcheck H.out id).mono ?_; rw [HC.out]; rintro e w' ⟨rfl, rfl⟩)
      go_ret
      exact ⟨rfl, (Upd.refl _ _).alloc _⟩
    · obtain rfl : r2 = 0 := by omega
      clear hr hb2
      go_enter Try.func12, Try.ntmps12
      go_wp2_with (go_at_call 25; refine (pcheck H.out id).mono ?_; rw [HC.out]; rintro e w' ⟨rfl, rfl⟩)
      go_ret
      exact ⟨rfl, (Upd.refl _ _).alloc _⟩
set_option maxRecDepth 100000 in
theorem padd_have {b m n : Nat} {s : Pt} {w : World} (h : PtAt w b m n s) (i : Nat) (r : Rf) (hid : i < s.size) (hr : goodR r) (hh : (s.g i).isSome ∨ (s.byI r).isSome) :
    Calls Try.prog 12 #[.pointer (some ⟨b, 0, none⟩), .int .i64 i, .agg #[.int .i64 r.1, .int .u32 r.2]] w fun e w' => e = .returned (.int .i64 6) ∧ Upd [] w w' := by
  have hs := h.ok.le
  have hwi : (Lit.int .i64 (i : Int)).wf = true := WalkArith.wf_i64 (by omega)
  have u1 : Upd [] w (w.alloc (.cells #[.int .i64 r.1, .int .u32 r.2] 24)) := (Upd.refl _ _).alloc _
  have H := Lib.hid (h.upd0 u1)
  have c1 := cell_of H.out.blk 1
  have c2 := cell_of H.out.blk 2
  have hbl := h.lt
  have hc : s.chkE i = 0 := if_pos ⟨by omega, by omega⟩
  have HC := Lib.hid hc
  have q1 := H.out.look1 i hwi
  rw [ofI_nat h.ok] at q1
  have q := fun o k => (H.out.upd0 (((Upd.refl [] _).alloc o).drewN k)).look2 r hr.wf
  have zR := zeroR
  clear h u1 hc
  generalize (s.byI r).isSome = y at *
  generalize (s.byI r).getD 0 = x at *
  generalize (s.g i).isSome = z at *
  generalize (s.g i).getD (0, 0) = v at *
  obtain ⟨v1, v2⟩ := v
  obtain ⟨r1, r2⟩ := r
  obtain ⟨hr0, hr1, hr2, hr3⟩ := hr
  unfold refV at q1
  dsimp only at q q1 H c1 c2 hr0 hr1 hr2 hr3 ⊢
  have hr4 : (r2 == 0) = false := by simp; omega
  have Q1 := Lib.hid q1; clear q1
  have HI := Lib.hid (show (0 : Int) ≤ (i : Int) by omega)
  cases z with
  | true =>
    clear hh
    go_enter Try.func12, Try.ntmps12
    go_wp2_with (first | (go_at_call 25; refine (pcheck H.out i).mono ?_; rw [HC.out]; rintro e w' ⟨rfl, rfl⟩) | (at_lookup; refine wpList_look rfl _ _ 26 rfl _ _ _ rfl rfl Q1.out ?_))
    go_quiet (fail)
    go_wp2
    go_ret
    exact ⟨rfl, (((Upd.refl _ _).alloc _).alloc _).drewN _⟩
  | false =>
    obtain rfl : y = true := by simpa using hh
    clear hh
    go_enter Try.func12, Try.ntmps12
    go_wp2_with (first | (go_at_call 25; refine (pcheck H.out i).mono ?_; rw [HC.out]; rintro e w' ⟨rfl, rfl⟩) | (at_lookup; refine wpList_look rfl _ _ 26 rfl _ _ _ rfl rfl Q1.out ?_))
    go_quiet (fail)
    go_wp2
    go_ret
    exact ⟨rfl, (((Upd.refl _ _).alloc _).alloc _).drewN _⟩
set_option maxRecDepth 100000 in
set_option maxHeartbeats 1000000 in
theorem padd_new {b m n : Nat} {s : Pt} {w : World} (h : PtAt w b m n s) (i : Nat) (r : Rf) (hid : i < s.size) (hr : goodR r) (hg : s.g i = none) (hh : s.byI r = none) :
    Calls Try.prog 12 #[.pointer (some ⟨b, 0, none⟩), .int .i64 i, .agg #[.int .i64 r.1, .int .u32 r.2]] w fun e w' => e = .returned (.int .i64 0) ∧ PtAt w' b m n (s.set i (some r)) ∧ Upd [m, n] w w' := by
  have hs := h.ok.le
  have hwi : (Lit.int .i64 (i : Int)).wf = true := WalkArith.wf_i64 (by omega)
  have u1 : Upd [] w (w.alloc (.cells #[.int .i64 r.1, .int .u32 r.2] 24)) := (Upd.refl _ _).alloc _
  have H := Lib.hid (h.upd0 u1)
  have c1 := cell_of H.out.blk 1
  have c2 := cell_of H.out.blk 2
  have hbl := h.lt
  have hc : s.chkE i = 0 := if_pos ⟨by omega, by omega⟩
  have HC := Lib.hid hc
  have q1 := H.out.look1 i hwi
  rw [ofI_nat h.ok, hg] at q1
  have q := fun o k => (H.out.upd0 (((Upd.refl [] _).alloc o).drewN k)).look2 r hr.wf
  rw [hh] at q
  have zR := zeroR
  have HN := Lib.hid (byI_none h.ok hh)
  have HG := Lib.hid hg
  have HRR := Lib.hid hr
  clear h u1 hc hh hg
  obtain ⟨r1, r2⟩ := r
  obtain ⟨hr0, hr1, hr2, hr3⟩ := hr
  unfold refV at q1
  dsimp only [Option.getD_none, Option.isSome_none] at q q1 H c1 c2 hr0 hr1 hr2 hr3 ⊢
  have hr4 : (r2 == 0) = false := by simp; omega
  have Q1 := Lib.hid q1; clear q1
  go_enter Try.func12, Try.ntmps12
  go_wp2_with (first | (go_at_call 25; refine (pcheck H.out i).mono ?_; rw [HC.out]; rintro e w' ⟨rfl, rfl⟩) | (at_lookup; refine wpList_look rfl _ _ 26 rfl _ _ _ rfl rfl Q1.out ?_))
  go_quiet (fail)
  go_wp2
  obtain ⟨V, hV⟩ : ∃ V, V = ((w.alloc (Obj.cells #[.int .i64 r1, .int .u32 r2] 24)).alloc (Obj.cells #[.int .i64 0, .int .u32 0] 24)).drewN nq := ⟨_, rfl⟩
  rw [← hV]
  have HP : PtAt V b m n s := by rw [hV]; exact H.out.upd0 (((Upd.refl _ _).alloc _).drewN _)
  have hN : V.heap[w.heap.size]? = some (.cells #[.int .i64 r1, .int .u32 r2] 24 (0, 0)) := by rw [hV]; exact drewN_of (alloc_of (new_of _ _)) _
  have uw : Upd [] w V := by rw [hV]; exact (((Upd.refl _ _).alloc _).alloc _).drewN _
  clear hV c1 c2 q Q1 H HC zR hr4 hbl
  generalize w.heap.size = N at hN ⊢
  obtain ⟨ho, hmn, hb, D, E, hD, hE, hR1, hR2⟩ := HP
  have hbm := ne_map hb hD
  have hbn := ne_map hb hE
  have hNm := ne_map hN hD
  have hNn := ne_map hN hE
  have hwr : refWf (r1, r2) := HRR.out.wf
  obtain ⟨st1, V1, e1, t1, f1⟩ := entry_new (w := V.drew) hD.drew law3 Try.underlying26 (by unfold maxLen; omega) zeroR (refElem_mk (0, 0)) (keyOf_int_mk Try.underlying3 hwi) (by rw [hR1.has (by omega), HG.out]; rfl)
  have u1 : Upd [m] V V1 := ((Upd.refl [m] V).drew).turned t1 (by simp)
  obtain ⟨V2, e2, o2, t2⟩ := f1 V1 (refV (r1, r2)) (refD (r1, r2)) [] rfl (refElem_mk _)
  have u2 : Upd [m] V V2 := u1.turned t2 (by simp)
  have hE2 := owns_upd_map hE u2 (by simpa using fun e : n = m => hmn e.symm)
  obtain ⟨st2, V3, e3, t3, f3⟩ := entry_new hE2 lawR Try.underlying27 (by unfold maxLen; omega) zeroI (plainElem_int Try.underlying3 (by decide)) (refK_key hwr) (hR2.no _ hwr HN.out)
  have u3 : Upd [m, n] V V3 := (u2.mono (by simp)).turned t3 (by simp)
  obtain ⟨V4, e4, o4, t4⟩ := f3 V3 (.int .i64 i) (.lit (.int .i64 i)) [] rfl (plainElem_int Try.underlying3 hwi)
  have u4 : Upd [m, n] V V4 := u3.turned t4 (by simp)
  have u34 : Upd [n] V2 V4 := ((Upd.refl [n] V2).turned t3 (by simp)).turned t4 (by simp)
  have r1' := hR1.put (r := (r1, r2)) (hD.tidy law3) (i := i) (by omega)
  have r2' := hR2.put refK_inj refK_lit (goodG ho) (hE.tidy lawR) (i := i) (by omega) hwr HG.out HN.out
  have o2' := owns_tight (owns_upd_map o2 u34 (by simpa using hmn)) (Nat.le_trans (Nat.le_of_eq r1'.size) (cardG_le _))
  have o4' := owns_tight o4 (Nat.le_trans (Nat.le_of_eq r2'.size) (cardG_le _))
  have hb4 := u4.keep hb (by simp; exact ⟨hbm, hbn⟩)
  have FIN := Lib.hid (show PtAt V4 b m n (s.set i (some (r1, r2))) ∧ Upd [m, n] w V4 from ⟨⟨ho.setSome hid HRR.out HN.out, hmn, hb4, _, _, o2', o4', r1', r2'⟩, (uw.mono (by simp)).trans u4⟩)
  have n1 := u1.keep hN (by simpa using hNm)
  have n2 := u2.keep hN (by simpa using hNm)
  have n3 := u3.keep hN (by simp; exact ⟨hNm, hNn⟩)
  have b1 := u1.keep hb (by simpa using hbm)
  have b2 := u2.keep hb (by simpa using hbm)
  have k0 := cell_of hN 0
  have k1 := cell_of hN 1
  have k10 := cell_of n1 0
  have k11 := cell_of n1 1
  have k20 := cell_of n2 0
  have k21 := cell_of n2 1
  have k30 := cell_of n3 0
  have k31 := cell_of n3 1
  have d1 := cell_of hb 1
  have d2 := cell_of hb 2
  have d11 := cell_of b1 1
  have d12 := cell_of b1 2
  have d21 := cell_of b2 1
  have d22 := cell_of b2 2
  unfold refV at e2 e3
  dsimp only at e2 e3
  clear hb4 o2' o4' r1' r2' u34 f1 f3 t1 t2 t3 t4 u1 u2 u3 u4 hE2 hD hE hR1 hR2 hb hN n1 n2 n3 b1 b2 o2 o4 hbm hbn hNm hNn hwr hmn uw ho HN HG HRR
  go_region
  all_goals
    go_wp2
    go_ret
    exact ⟨rfl, FIN.out⟩

end Go.Proofs.Ytlndkmejmolnhaa
