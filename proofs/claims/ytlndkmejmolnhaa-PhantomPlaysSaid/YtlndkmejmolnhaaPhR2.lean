/-
  Contracts of the document's reference table (estrayref27): Add, Clear. Conditions: it is as New and its own calls leave it.
-/
import Derived.Test.YtlndkmejmolnhaaPhR
namespace Go.Proofs.Ytlndkmejmolnhaa
open Go.RowKit Go.Maps

theorem PrIn.set {w : World} {rb gl cl N : Nat} {F : Nat → Rf} (h : PrIn w rb gl cl N F) (i : Nat) (r : Rf) (hi : i < N) : PrIn ((w.setCell ⟨gl, i * 2, none⟩ (.int .i64 r.1)).setCell ⟨gl, i * 2 + 1, none⟩ (.int .u32 r.2)) rb gl cl N (setR F i r) := by
  obtain ⟨d, hd⟩ := h.row.blk
  have us : Upd [gl] w ((w.setCell ⟨gl, i * 2, none⟩ (.int .i64 r.1)).setCell ⟨gl, i * 2 + 1, none⟩ (.int .u32 r.2)) := ((Upd.refl [gl] w).setCell (p := ⟨gl, i * 2, none⟩) (by simp) _).setCell (p := ⟨gl, i * 2 + 1, none⟩) (by simp) _
  exact ⟨us.keep h.blk (by simpa using ne_types h.blk hd (by decide)), h.row.set i r hi, h.c1, h.c2⟩
theorem upd_set (w : World) (gl i : Nat) (x y : Value) : Upd [gl] w ((w.setCell ⟨gl, i * 2, none⟩ x).setCell ⟨gl, i * 2 + 1, none⟩ y) :=
  ((Upd.refl [gl] w).setCell (p := ⟨gl, i * 2, none⟩) (by simp) _).setCell (p := ⟨gl, i * 2 + 1, none⟩) (by simp) _
set_option maxRecDepth 100000 in
set_option maxHeartbeats 1000000 in
theorem rclr {w : World} {rb gl : Nat} {s : Pt} (h : PrAt w rb gl s) (ho : s.ok) (id : Int) :
    Calls Try.prog 22 #[.pointer (some ⟨rb, 0, none⟩), .int .i64 id] w fun e w' => e = .returned (.tuple #[.agg #[.int .i64 (s.clrR id).1, .int .u32 (s.clrR id).2], .int .i64 (s.clrE id)]) ∧ PrAt w' rb gl (s.clrS id) ∧ Upd [gl] w w' := by
  obtain ⟨cl, h⟩ := h
  have u1 : Upd [] w (w.alloc (.cells #[.int .i64 0, .int .u32 0] 24)) := (Upd.refl _ _).alloc _
  have hM := new_of w (.cells #[.int .i64 0, .int .u32 0] 24)
  have H := Lib.hid (h.upd u1 (by simp) (by simp)); have HU := Lib.hid u1
  have hN0 : 0 < s.size := ho.pos
  have hN : s.size ≤ 256 := ho.le
  have hcl : cl ≤ 9223372036854775807 := by have := h.c2; unfold maxLen at this; omega
  have hc1 := h.c1
  have hglM : gl < w.heap.size := h.row.lt
  have hrbM : rb < w.heap.size := lt_of_block h.blk
  have HO := Lib.hid ho
  have zR := zeroR
  clear h u1
  unfold Pt.clrR Pt.clrE Pt.clrS
  by_cases hid : 0 ≤ id ∧ id < s.size
  · obtain ⟨i, rfl⟩ := Int.eq_ofNat_of_zero_le hid.1
    have hi : i < s.size := by omega
    have hd : decide ((0 : Int) ≤ (i : Int) ∧ (i : Int) < s.size) = true := decide_eq_true hid
    have HI : Hid (Calls Try.prog 32 #[.pointer (some ⟨rb, 0, none⟩), .int .i64 i] (w.alloc (.cells #[.int .i64 0, .int .u32 0] 24)) fun e w' => e = .returned (.bool true) ∧ (w.alloc (.cells #[.int .i64 0, .int .u32 0] 24)) = w') := Lib.hid ((rid H.out _).mono (fun e w' hh => by rw [hd] at hh; exact hh))
    have hof := rof ⟨cl, H.out⟩ ho (i : Int)
    rw [if_pos hid]
    rw [ofI_nat ho] at hof ⊢
    clear hid hd ho
    cases hg : s.g i with
    | none =>
      rw [hg] at hof
      unfold refV at hof
      dsimp only [Option.getD_none, Option.isSome_none] at hof ⊢
      have HOF := Lib.hid hof
      clear hof hg
      go_enter Try.func22, Try.ntmps22
      go_wp2_with (first | (go_at_call 31; refine (rvalid H.out hN0).mono ?_; rintro e w' ⟨rfl, e1⟩; obtain rfl := e1) | (go_at_call 32; refine HI.out.mono ?_; rintro e w' ⟨rfl, e1⟩; obtain rfl := e1))
      generalize w.alloc (.cells #[.int .i64 0, .int .u32 0] 24) = V at *
      generalize hMw : w.heap.size = M at *
      have HMW := Lib.hid (Nat.le_of_eq hMw); clear hMw
      refine HOF.out.mono ?_; rintro e w2 ⟨rfl, u2⟩
      have H2 := Lib.hid (H.out.upd u2 (by simp) (by simp)); have U2 := Lib.hid (HU.out.trans u2)
      have M2 := Lib.hid (u2.keep hM (by simp))
      have hM2 : M < w2.heap.size := lt_of_block M2.out
      have m0 : w2.cell? ⟨M, 0, none⟩ = some (.int .i64 0) := cell_of M2.out 0
      have m1 : w2.cell? ⟨M, 1, none⟩ = some (.int .u32 0) := cell_of M2.out 1
      have g0 : w2.frozen? ⟨M, 0, none⟩ = false := free_of M2.out 0
      have g1 : w2.frozen? ⟨M, 1, none⟩ = false := free_of M2.out 1
      clear u2 hM
      go_wp2_with fail
      have z0 : (((w2.setCell ⟨M, 0, none⟩ (.int .i64 0)).setCell ⟨M, 1, none⟩ (.int .u32 0)).alloc (.cells #[.int .i64 0, .int .u32 0] 24)).cell? ⟨M, 0, none⟩ = some (.int .i64 0) := cell_of (alloc_of (set_of (set_of M2.out 0 _) 1 _)) 0
      have z1 : (((w2.setCell ⟨M, 0, none⟩ (.int .i64 0)).setCell ⟨M, 1, none⟩ (.int .u32 0)).alloc (.cells #[.int .i64 0, .int .u32 0] 24)).cell? ⟨M, 1, none⟩ = some (.int .u32 0) := cell_of (alloc_of (set_of (set_of M2.out 0 _) 1 _)) 1
      have u5 : Upd [M] w2 (((w2.setCell ⟨M, 0, none⟩ (.int .i64 0)).setCell ⟨M, 1, none⟩ (.int .u32 0)).alloc (.cells #[.int .i64 0, .int .u32 0] 24)) := (((Upd.refl [M] w2).setCell (p := ⟨M, 0, none⟩) (by simp) _).setCell (p := ⟨M, 1, none⟩) (by simp) _).alloc _
      refine bodyPost_ret (by simp [results, Try.results22, go_sem, z0, z1, Result.andThen]; rfl) rfl ?_
      exact ⟨rfl, ⟨cl, H2.out.upd u5 (by simpa using Nat.ne_of_lt hrbM) (by simpa using Nat.ne_of_lt hglM)⟩, (U2.out.after u5 (fun x hx => by simp at hx; subst hx; exact .inl HMW.out)).nil⟩
    | some r =>
      obtain ⟨r1, r2⟩ := r
      rw [hg] at hof
      unfold refV at hof
      dsimp only [Option.getD_some, Option.isSome_some] at hof ⊢
      have HOF := Lib.hid hof
      have HG := Lib.hid hg
      clear hof hg
      go_enter Try.func22, Try.ntmps22
      go_wp2_with (first | (go_at_call 31; refine (rvalid H.out hN0).mono ?_; rintro e w' ⟨rfl, e1⟩; obtain rfl := e1) | (go_at_call 32; refine HI.out.mono ?_; rintro e w' ⟨rfl, e1⟩; obtain rfl := e1))
      generalize w.alloc (.cells #[.int .i64 0, .int .u32 0] 24) = V at *
      generalize hMw : w.heap.size = M at *
      have HMW := Lib.hid (Nat.le_of_eq hMw); clear hMw
      refine HOF.out.mono ?_; rintro e w2 ⟨rfl, u2⟩
      have H2 := Lib.hid (H.out.upd u2 (by simp) (by simp)); have U2 := Lib.hid (HU.out.trans u2)
      have M2 := Lib.hid (u2.keep hM (by simp))
      have e0 : w2.cell? ⟨rb, 0, none⟩ = some (.slice (some ⟨gl, 0, none⟩) s.size cl) := cell_of H2.out.blk 0
      have e1 : w2.cell? ⟨gl, i * 2, none⟩ = some (.int .i64 (gv s.g i).1) := H2.out.row.cell0 hi
      have e2 : w2.cell? ⟨gl, i * 2 + 1, none⟩ = some (.int .u32 (gv s.g i).2) := H2.out.row.cell1 hi
      have e3 : w2.frozen? ⟨gl, i * 2, none⟩ = false := H2.out.row.free _
      have e4 : w2.frozen? ⟨gl, i * 2 + 1, none⟩ = false := H2.out.row.free _
      have l0 := lt_of_block H2.out.blk
      have l1 := H2.out.row.lt
      have S4 := Lib.hid ((H2.out.set i (0, 0) hi).upd ((Upd.refl [] _).alloc (.cells #[.int .i64 r1, .int .u32 r2] 24)) (by simp) (by simp))
      have US := Lib.hid ((upd_set w2 gl i (.int .i64 0) (.int .u32 0)).alloc (.cells #[.int .i64 r1, .int .u32 r2] 24))
      have US4 := Lib.hid (upd_set w2 gl i (.int .i64 0) (.int .u32 0))
      have M5 := Lib.hid (US4.out.keep M2.out (by simpa using Nat.ne_of_gt hglM))
      have N4 : ((((w2.setCell ⟨gl, i * 2, none⟩ (.int .i64 0)).setCell ⟨gl, i * 2 + 1, none⟩ (.int .u32 0)).alloc (.cells #[.int .i64 r1, .int .u32 r2] 24)).heap[w2.heap.size]? = some (.cells #[.int .i64 r1, .int .u32 r2] 24 (0, 0))) := by
        have := new_of ((w2.setCell ⟨gl, i * 2, none⟩ (.int .i64 0)).setCell ⟨gl, i * 2 + 1, none⟩ (.int .u32 0)) (.cells #[.int .i64 r1, .int .u32 r2] 24)
        simpa using this
      have M4 := Lib.hid (US.out.keep M2.out (by simpa using Nat.ne_of_gt hglM))
      have m0 : (((w2.setCell ⟨gl, i * 2, none⟩ (.int .i64 0)).setCell ⟨gl, i * 2 + 1, none⟩ (.int .u32 0)).alloc (.cells #[.int .i64 r1, .int .u32 r2] 24)).cell? ⟨M, 0, none⟩ = some (.int .i64 0) := cell_of M4.out 0
      have m1 : (((w2.setCell ⟨gl, i * 2, none⟩ (.int .i64 0)).setCell ⟨gl, i * 2 + 1, none⟩ (.int .u32 0)).alloc (.cells #[.int .i64 r1, .int .u32 r2] 24)).cell? ⟨M, 1, none⟩ = some (.int .u32 0) := cell_of M4.out 1
      have g0 : (((w2.setCell ⟨gl, i * 2, none⟩ (.int .i64 0)).setCell ⟨gl, i * 2 + 1, none⟩ (.int .u32 0)).alloc (.cells #[.int .i64 r1, .int .u32 r2] 24)).frozen? ⟨M, 0, none⟩ = false := free_of M4.out 0
      have g1 : (((w2.setCell ⟨gl, i * 2, none⟩ (.int .i64 0)).setCell ⟨gl, i * 2 + 1, none⟩ (.int .u32 0)).alloc (.cells #[.int .i64 r1, .int .u32 r2] 24)).frozen? ⟨M, 1, none⟩ = false := free_of M4.out 1
      have o0 : w2.cell? ⟨M, 0, none⟩ = some (.int .i64 0) := cell_of M2.out 0
      have o1 : w2.cell? ⟨M, 1, none⟩ = some (.int .u32 0) := cell_of M2.out 1
      have o2 : w2.frozen? ⟨M, 0, none⟩ = false := free_of M2.out 0
      have o3 : w2.frozen? ⟨M, 1, none⟩ = false := free_of M2.out 1
      dsimp only at S4
      have lM := lt_of_block hM
      have lM2 : M < w2.heap.size := Nat.lt_of_lt_of_le lM u2.size
      clear hM u2 N4
      go_wp2_with fail
      have z0 : (((((w2.setCell ⟨gl, i * 2, none⟩ (.int .i64 0)).setCell ⟨gl, i * 2 + 1, none⟩ (.int .u32 0)).setCell ⟨M, 0, none⟩ (.int .i64 r1)).setCell ⟨M, 1, none⟩ (.int .u32 r2)).alloc (.cells #[.int .i64 r1, .int .u32 r2] 24)).cell? ⟨M, 0, none⟩ = some (.int .i64 r1) := cell_of (alloc_of (set_of (set_of M5.out 0 _) 1 _)) 0
      have z1 : (((((w2.setCell ⟨gl, i * 2, none⟩ (.int .i64 0)).setCell ⟨gl, i * 2 + 1, none⟩ (.int .u32 0)).setCell ⟨M, 0, none⟩ (.int .i64 r1)).setCell ⟨M, 1, none⟩ (.int .u32 r2)).alloc (.cells #[.int .i64 r1, .int .u32 r2] 24)).cell? ⟨M, 1, none⟩ = some (.int .u32 r2) := cell_of (alloc_of (set_of (set_of M5.out 0 _) 1 _)) 1
      have u5 : Upd [M] ((w2.setCell ⟨gl, i * 2, none⟩ (.int .i64 0)).setCell ⟨gl, i * 2 + 1, none⟩ (.int .u32 0)) (((((w2.setCell ⟨gl, i * 2, none⟩ (.int .i64 0)).setCell ⟨gl, i * 2 + 1, none⟩ (.int .u32 0)).setCell ⟨M, 0, none⟩ (.int .i64 r1)).setCell ⟨M, 1, none⟩ (.int .u32 r2)).alloc (.cells #[.int .i64 r1, .int .u32 r2] 24)) := (((Upd.refl [M] _).setCell (p := ⟨M, 0, none⟩) (by simp) _).setCell (p := ⟨M, 1, none⟩) (by simp) _).alloc _
      refine bodyPost_ret (by simp [results, Try.results22, go_sem, z0, z1, Result.andThen]; rfl) rfl ?_
      have h5 := (H2.out.set i (0, 0) hi).upd u5 (by simpa using Nat.ne_of_lt hrbM) (by simpa using Nat.ne_of_lt hglM)
      rw [show setR (gv s.g) i (0, 0) = gv (Go.Proofs.Ytlndkmejmolnhaa.setG s.g i none) from (gv_set s.g i none).symm] at h5
      exact ⟨rfl, ⟨cl, h5⟩, (U2.out.nil.trans US4.out).after u5 (fun x hx => by simp at hx; subst hx; exact .inl HMW.out)⟩
  · have hd : decide ((0 : Int) ≤ id ∧ id < s.size) = false := decide_eq_false hid
    have HI : Hid (Calls Try.prog 32 #[.pointer (some ⟨rb, 0, none⟩), .int .i64 id] (w.alloc (.cells #[.int .i64 0, .int .u32 0] 24)) fun e w' => e = .returned (.bool false) ∧ (w.alloc (.cells #[.int .i64 0, .int .u32 0] 24)) = w') := Lib.hid ((rid H.out _).mono (fun e w' hh => by rw [hd] at hh; exact hh))
    rw [if_neg hid, show s.ofI id = none from by unfold Pt.ofI; rw [if_neg hid]]
    clear hid hd ho
    dsimp only [Option.getD_none, Option.isSome_none]
    have m0 := cell_of hM 0
    have m1 := cell_of hM 1
    go_enter Try.func22, Try.ntmps22
    go_wp2_with (first | (go_at_call 31; refine (rvalid H.out hN0).mono ?_; rintro e w' ⟨rfl, e1⟩; obtain rfl := e1) | (go_at_call 32; refine HI.out.mono ?_; rintro e w' ⟨rfl, e1⟩; obtain rfl := e1))
    have z0 : (w.alloc (.cells #[.int .i64 0, .int .u32 0] 24)).cell? ⟨w.heap.size, 0, none⟩ = some (.int .i64 0) := m0
    have z1 : (w.alloc (.cells #[.int .i64 0, .int .u32 0] 24)).cell? ⟨w.heap.size, 1, none⟩ = some (.int .u32 0) := m1
    refine bodyPost_ret (by simp [results, Try.results22, go_sem, z0, z1, Result.andThen]; rfl) rfl ?_
    exact ⟨rfl, ⟨cl, H.out⟩, HU.out.nil⟩
set_option maxRecDepth 100000 in
set_option maxHeartbeats 1000000 in
theorem radd {w : World} {rb gl : Nat} {s : Pt} (h : PrAt w rb gl s) (ho : s.ok) (id : Int) (r : Rf) (hw : refWf r) :
    Calls Try.prog 21 #[.pointer (some ⟨rb, 0, none⟩), .int .i64 id, .agg #[.int .i64 r.1, .int .u32 r.2]] w fun e w' => e = .returned (.int .i64 (s.addE id r)) ∧ PrAt w' rb gl (s.addS id r) ∧ Upd [gl] w w' := by
  obtain ⟨cl, h⟩ := h
  obtain ⟨r1, r2⟩ := r
  have u1 : Upd [] w (w.alloc (.cells #[.int .i64 r1, .int .u32 r2] 24)) := (Upd.refl _ _).alloc _
  have hX := new_of w (.cells #[.int .i64 r1, .int .u32 r2] 24)
  have H := Lib.hid (h.upd u1 (by simp) (by simp)); have HU := Lib.hid u1
  have hN0 : 0 < s.size := ho.pos
  have hN : s.size ≤ 256 := ho.le
  have hcl : cl ≤ 9223372036854775807 := by have := h.c2; unfold maxLen at this; omega
  have hc1 := h.c1
  have hglX : gl < w.heap.size := h.row.lt
  have HO := Lib.hid ho
  have hb2 := bounds_u32 hw.2
  clear h u1 hw
  unfold Pt.addS
  dsimp only at hb2 ⊢
  by_cases hid : 0 ≤ id ∧ id < s.size
  · obtain ⟨i, rfl⟩ := Int.eq_ofNat_of_zero_le hid.1
    have hi : i < s.size := by omega
    have hd : decide ((0 : Int) ≤ (i : Int) ∧ (i : Int) < s.size) = true := decide_eq_true hid
    have HI : Hid (Calls Try.prog 32 #[.pointer (some ⟨rb, 0, none⟩), .int .i64 i] (w.alloc (.cells #[.int .i64 r1, .int .u32 r2] 24)) fun e w' => e = .returned (.bool true) ∧ (w.alloc (.cells #[.int .i64 r1, .int .u32 r2] 24)) = w') := Lib.hid ((rid H.out _).mono (fun e w' hh => by rw [hd] at hh; exact hh))
    by_cases hg : goodR (r1, r2)
    · have hof := rof ⟨cl, H.out⟩ ho (i : Int)
      have hE : s.addE i (r1, r2) = if (s.g i).isSome ∨ (s.byI (r1, r2)).isSome then 6 else 0 := by unfold Pt.addE; rw [if_pos hid, if_pos hg, ofI_nat ho]
      rw [hE]
      rw [ofI_nat ho] at hof
      have hgd := hg.2.2.2
      obtain ⟨hr0, hr1, hr2, -⟩ := hg
      obtain ⟨z, hz⟩ : ∃ x, (s.g i).isSome = x := ⟨_, rfl⟩
      obtain ⟨y, hy⟩ : ∃ x, (s.byI (r1, r2)).isSome = x := ⟨_, rfl⟩
      obtain ⟨⟨v1, v2⟩, hv⟩ : ∃ x, (s.g i).getD (0, 0) = x := ⟨_, rfl⟩
      obtain ⟨k, hk⟩ : ∃ x, (s.byI (r1, r2)).getD 0 = x := ⟨_, rfl⟩
      have hby := fun (w' : World) (hh : PrAt w' rb gl s) => rby hh ho (r1, r2)
      rw [hz, hv] at hof
      rw [hy, hk] at hby
      rw [hz, hy]
      obtain ⟨E, hE2⟩ : ∃ E : Int, (if z = true ∨ y = true then 6 else 0) = E := ⟨_, rfl⟩
      rw [hE2]
      obtain ⟨S2, hS2⟩ : ∃ S2, (if E = 0 then s.set (i : Int).toNat (some (r1, r2)) else s) = S2 := ⟨_, rfl⟩
      rw [hS2]
      have HE := Lib.hid hE2; have HS := Lib.hid hS2
      clear hE2 hS2
      unfold refV at hof
      dsimp only at hof hby hr0 hr1 hr2
      have HOF := Lib.hid hof; have HBY := Lib.hid hby
      have hr4 : (r2 == 0) = false := by simp; omega
      have HGV := Lib.hid (show ∀ w', PrIn w' rb gl cl s.size (setR (gv s.g) i (r1, r2)) → PrAt w' rb gl (s.set i (some (r1, r2))) from fun w' h5 => by
        rw [show setR (gv s.g) i (r1, r2) = gv (Go.Proofs.Ytlndkmejmolnhaa.setG s.g i (some (r1, r2))) from (gv_set s.g i (some (r1, r2))).symm] at h5
        exact ⟨cl, h5⟩)
      clear hof hby hz hy hv hk hE hid hd ho hgd
      go_enter Try.func21, Try.ntmps21
      have x0 := cell_of hX 0
      have x1 := cell_of hX 1
      go_wp2_with (first | (go_at_call 31; refine (rvalid H.out hN0).mono ?_; rintro e w' ⟨rfl, e1⟩; obtain rfl := e1) | (go_at_call 32; refine HI.out.mono ?_; rintro e w' ⟨rfl, e1⟩; obtain rfl := e1))
      clear x0 x1
      generalize w.alloc (.cells #[.int .i64 r1, .int .u32 r2] 24) = V at *
      generalize w.heap.size = X at *
      refine HOF.out.mono ?_; rintro e w2 ⟨rfl, u2⟩
      have X2 := u2.keep hX (by simp)
      have H2 := H.out.upd u2 (by simp) (by simp); have U2 := HU.out.trans u2
      have H3 := Lib.hid (H2.upd ((Upd.refl [] _).alloc (.cells #[.int .i64 v1, .int .u32 v2] 24)) (by simp) (by simp)); have U3 := Lib.hid (U2.alloc (.cells #[.int .i64 v1, .int .u32 v2] 24))
      have X3 := Lib.hid (((Upd.refl [] _).alloc (.cells #[.int .i64 v1, .int .u32 v2] 24)).keep X2 (by simp))
      have x0 : w2.cell? ⟨X, 0, none⟩ = some (.int .i64 r1) := cell_of X2 0
      have x1 : w2.cell? ⟨X, 1, none⟩ = some (.int .u32 r2) := cell_of X2 1
      have xl := lt_of_block X2
      clear u2 hX X2 H2 U2
      go_wp2_with fail
      clear x0 x1 xl
      generalize w2.alloc (.cells #[.int .i64 v1, .int .u32 v2] 24) = W at *
      refine (HBY.out _ ⟨cl, H3.out⟩).mono ?_; rintro e w3 ⟨rfl, u4⟩
      have H4 := Lib.hid (H3.out.upd u4 (by simp) (by simp)); have U4 := Lib.hid (U3.out.trans u4); have X4 := Lib.hid (u4.keep X3.out (by simp))
      clear u4 H3 U3 X3
      cases z with
      | true =>
        go_wp2_with fail
        go_ret
        have e6 : E = 6 := by rw [← HE.out]; simp
        exact ⟨by rw [e6]; rfl, by rw [← HS.out, e6]; exact ⟨cl, H4.out⟩, U4.out.nil⟩
      | false =>
        cases y with
        | true =>
          go_wp2_with fail
          go_ret
          have e6 : E = 6 := by rw [← HE.out]; simp
          exact ⟨by rw [e6]; rfl, by rw [← HS.out, e6]; exact ⟨cl, H4.out⟩, U4.out.nil⟩
        | false =>
          have d0 : w3.cell? ⟨rb, 0, none⟩ = some (.slice (some ⟨gl, 0, none⟩) s.size cl) := cell_of H4.out.blk 0
          have k0 : w3.cell? ⟨gl, i * 2, none⟩ = some (.int .i64 (gv s.g i).1) := H4.out.row.cell0 hi
          have k1 : w3.cell? ⟨gl, i * 2 + 1, none⟩ = some (.int .u32 (gv s.g i).2) := H4.out.row.cell1 hi
          have f0 : w3.frozen? ⟨gl, i * 2, none⟩ = false := H4.out.row.free _
          have f1 : w3.frozen? ⟨gl, i * 2 + 1, none⟩ = false := H4.out.row.free _
          have x0 : w3.cell? ⟨X, 0, none⟩ = some (.int .i64 r1) := cell_of X4.out 0
          have x1 : w3.cell? ⟨X, 1, none⟩ = some (.int .u32 r2) := cell_of X4.out 1
          have S4 := Lib.hid ((H4.out.set i (r1, r2) hi).upd ((Upd.refl [] _).drew) (by simp) (by simp))
          have US := Lib.hid ((upd_set w3 gl i (.int .i64 r1) (.int .u32 r2)).drew)
          dsimp only at S4
          go_wp2_with fail
          go_region
          all_goals
            go_wp2_with fail
            go_ret
            have e6 : E = 0 := by rw [← HE.out]; simp
            exact ⟨by rw [e6]; rfl, by rw [← HS.out, e6]; exact HGV.out _ S4.out, U4.out.nil.trans US.out⟩
    · have e : s.addE i (r1, r2) = 2 := by unfold Pt.addE; rw [if_pos hid, if_neg hg]
      rw [e, if_neg (by omega)]
      unfold goodR at hg
      dsimp only at hg
      clear hid hd ho e
      by_cases h1 : r1 < 0
      · clear hg hb2
        go_enter Try.func21, Try.ntmps21
        go_wp2_with (first | (go_at_call 31; refine (rvalid H.out hN0).mono ?_; rintro e w' ⟨rfl, e1⟩; obtain rfl := e1) | (go_at_call 32; refine HI.out.mono ?_; rintro e w' ⟨rfl, e1⟩; obtain rfl := e1))
        go_ret
        exact ⟨rfl, ⟨cl, H.out⟩, HU.out.nil⟩
      · by_cases h2 : 256 ≤ r1
        · clear hg hb2
          go_enter Try.func21, Try.ntmps21
          go_wp2_with (first | (go_at_call 31; refine (rvalid H.out hN0).mono ?_; rintro e w' ⟨rfl, e1⟩; obtain rfl := e1) | (go_at_call 32; refine HI.out.mono ?_; rintro e w' ⟨rfl, e1⟩; obtain rfl := e1))
          go_ret
          exact ⟨rfl, ⟨cl, H.out⟩, HU.out.nil⟩
        · obtain rfl : r2 = 0 := by omega
          clear hg hb2
          go_enter Try.func21, Try.ntmps21
          go_wp2_with (first | (go_at_call 31; refine (rvalid H.out hN0).mono ?_; rintro e w' ⟨rfl, e1⟩; obtain rfl := e1) | (go_at_call 32; refine HI.out.mono ?_; rintro e w' ⟨rfl, e1⟩; obtain rfl := e1))
          go_ret
          exact ⟨rfl, ⟨cl, H.out⟩, HU.out.nil⟩
  · have hd : decide ((0 : Int) ≤ id ∧ id < s.size) = false := decide_eq_false hid
    have HI : Hid (Calls Try.prog 32 #[.pointer (some ⟨rb, 0, none⟩), .int .i64 id] (w.alloc (.cells #[.int .i64 r1, .int .u32 r2] 24)) fun e w' => e = .returned (.bool false) ∧ (w.alloc (.cells #[.int .i64 r1, .int .u32 r2] 24)) = w') := Lib.hid ((rid H.out _).mono (fun e w' hh => by rw [hd] at hh; exact hh))
    have e : s.addE id (r1, r2) = 3 := by unfold Pt.addE; rw [if_neg hid]
    rw [e, if_neg (by omega)]
    clear hid hd ho e
    go_enter Try.func21, Try.ntmps21
    go_wp2_with (first | (go_at_call 31; refine (rvalid H.out hN0).mono ?_; rintro e w' ⟨rfl, e1⟩; obtain rfl := e1) | (go_at_call 32; refine HI.out.mono ?_; rintro e w' ⟨rfl, e1⟩; obtain rfl := e1))
    go_ret
    exact ⟨rfl, ⟨cl, H.out⟩, HU.out.nil⟩

end Go.Proofs.Ytlndkmejmolnhaa
