/-
  Contracts of the package phantom: New, By, Len, Add, Clear, Copy. Conditions: the table is as New and its own calls leave it.
-/
import Derived.Test.YtmbkjnjfipafmaaPhKit
import Derived.Laws.StructEq
namespace Go.Proofs.Ytmbkjnjfipafmaa
open Go.RowKit Go.Maps

/-- Block b is the table s, its maps in the blocks m and n. -/
def PtAt (w : World) (b m n : Nat) (s : Pt) : Prop :=
  s.ok ∧ m ≠ n ∧ w.heap[b]? = some (.cells #[.int .i64 s.size, .map (some m), .map (some n)] 97 (0, 0)) ∧
    ∃ D E, w.ownsMap Try.prog 3 refElem m 256 D ∧ w.ownsMap Try.prog 36 (plainElem Try.prog 3) n 256 E ∧ Reads1 D s.g ∧ Reads2 refK E s.g
theorem PtAt.ok {w : World} {b m n : Nat} {s : Pt} (h : PtAt w b m n s) : s.ok := h.1
theorem PtAt.blk {w : World} {b m n : Nat} {s : Pt} (h : PtAt w b m n s) : w.heap[b]? = some (.cells #[.int .i64 s.size, .map (some m), .map (some n)] 97 (0, 0)) := h.2.2.1
theorem PtAt.lt {w : World} {b m n : Nat} {s : Pt} (h : PtAt w b m n s) : b < w.heap.size := lt_of_block h.blk
theorem PtAt.ltm {w : World} {b m n : Nat} {s : Pt} (h : PtAt w b m n s) : m < w.heap.size := by
  obtain ⟨_, _, _, D, E, h1, _⟩ := h; exact h1.lt
theorem PtAt.ltn {w : World} {b m n : Nat} {s : Pt} (h : PtAt w b m n s) : n < w.heap.size := by
  obtain ⟨_, _, _, D, E, _, h1, _⟩ := h; exact h1.lt
theorem ne_map {w : World} {P : Program} {k : TypeId} {R : Value → Option (DataW Unit × List MemPlace)} {b m n : Nat} {D : DataW Unit} {c : Array Value} {t : TypeId} {f : Nat × Nat} (hb : w.heap[b]? = some (.cells c t f)) (h : w.ownsMap P k R m n D) : b ≠ m := by
  rintro rfl
  obtain ⟨es, c, hm, _⟩ := h
  rw [hb] at hm; simp at hm
theorem PtAt.nem {w : World} {b m n : Nat} {s : Pt} (h : PtAt w b m n s) {b' : Nat} {c : Array Value} {t : TypeId} {f : Nat × Nat} (hb : w.heap[b']? = some (.cells c t f)) : b' ≠ m := by
  obtain ⟨_, _, _, D, E, h1, _⟩ := h; exact ne_map hb h1
theorem PtAt.nen {w : World} {b m n : Nat} {s : Pt} (h : PtAt w b m n s) {b' : Nat} {c : Array Value} {t : TypeId} {f : Nat × Nat} (hb : w.heap[b']? = some (.cells c t f)) : b' ≠ n := by
  obtain ⟨_, _, _, D, E, _, h1, _⟩ := h; exact ne_map hb h1
theorem PtAt.upd {w w' : World} {b m n : Nat} {s : Pt} (h : PtAt w b m n s) {S : List Nat} (u : Upd S w w') (hb : b ∉ S) (hm : m ∉ S) (hn : n ∉ S) : PtAt w' b m n s := by
  obtain ⟨h0, h1, h2, D, E, h3, h4, h5, h6⟩ := h
  exact ⟨h0, h1, u.keep h2 hb, D, E, owns_upd_map h3 u hm, owns_upd_map h4 u hn, h5, h6⟩
theorem PtAt.upd0 {w w' : World} {b m n : Nat} {s : Pt} (h : PtAt w b m n s) (u : Upd [] w w') : PtAt w' b m n s := h.upd u (by simp) (by simp) (by simp)
theorem goodG {s : Pt} (ho : s.ok) (i : Nat) (r : Rf) (h : s.g i = some r) : refWf r := (ho.good i r h).2.wf

theorem pmade_at (b : Nat) (n : Int) (w : World) (h : w.cell? ⟨b, 0, none⟩ = some (.int .i64 n)) (hn : 0 < n) : Calls Try.prog 64 #[.pointer (some ⟨b, 0, none⟩)] w fun e w' => e = .returned (.bool true) ∧ w = w' := by
  go_enter Try.func64, Try.ntmps64
  go_wp2
  go_ret
  exact ⟨rfl, rfl⟩
theorem pmade {b m n : Nat} {s : Pt} {w : World} (h : PtAt w b m n s) : Calls Try.prog 64 #[.pointer (some ⟨b, 0, none⟩)] w fun e w' => e = .returned (.bool true) ∧ w = w' :=
  pmade_at b s.size w (cell_of h.blk 0) (by have := h.ok.pos; omega)
/-- What 'check' answers. -/
def Pt.chkE (s : Pt) (id : Int) : Int := if 0 ≤ id ∧ id < s.size then 0 else 3
theorem pcheck {b m n : Nat} {s : Pt} {w : World} (h : PtAt w b m n s) (id : Int) : Calls Try.prog 66 #[.pointer (some ⟨b, 0, none⟩), .int .i64 id] w fun e w' => e = .returned (.int .i64 (s.chkE id)) ∧ w = w' := by
  have H := Lib.hid h
  have c0 := cell_of h.blk 0
  clear h
  unfold Pt.chkE
  by_cases h0 : 0 ≤ id
  · by_cases h1 : id < s.size
    · rw [if_pos ⟨h0, h1⟩]
      go_enter Try.func66, Try.ntmps66
      go_wp2_with (go_at_call 64; refine (pmade H.out).mono ?_; rintro e w' ⟨rfl, rfl⟩)
      go_ret
      exact ⟨rfl, rfl⟩
    · rw [if_neg (fun h => h1 h.2)]
      go_enter Try.func66, Try.ntmps66
      go_wp2_with (go_at_call 64; refine (pmade H.out).mono ?_; rintro e w' ⟨rfl, rfl⟩)
      go_ret
      exact ⟨rfl, rfl⟩
  · rw [if_neg (fun h => h0 h.1)]
    go_enter Try.func66, Try.ntmps66
    go_wp2_with (go_at_call 64; refine (pmade H.out).mono ?_; rintro e w' ⟨rfl, rfl⟩)
    go_ret
    exact ⟨rfl, rfl⟩
theorem pnew_err (k : Int) (w : World) (h : k < 1 ∨ 256 < k) : Calls Try.prog 52 #[.int .i64 k] w fun e w' => e = .returned (.tuple #[.pointer none, .int .i64 2]) ∧ w = w' := by
  rcases h with h | h
  · go_enter Try.func52, Try.ntmps52
    go_wp2
    go_ret2
    exact ⟨rfl, rfl⟩
  · have h0 : ¬ k < 1 := by omega
    go_enter Try.func52, Try.ntmps52
    go_wp2
    go_ret2
    exact ⟨rfl, rfl⟩
theorem pnew_ok (k : Nat) (w : World) (h1 : 1 ≤ k) (h2 : k ≤ 256) :
    Calls Try.prog 52 #[.int .i64 k] w fun e w' => e = .returned (.tuple #[.pointer (some ⟨w.heap.size + 2, 0, none⟩), .int .i64 0]) ∧ PtAt w' (w.heap.size + 2) w.heap.size (w.heap.size + 1) ⟨k, fun _ => none⟩ ∧ Upd [] w w' := by
  have hmm := @run_makeMap Try.prog
  go_enter Try.func52, Try.ntmps52
  go_wp2
  go_ret2
  refine ⟨rfl, ⟨⟨h1, h2, by simp, by simp⟩, by omega, ?_, .map [], .map [], ?_, ?_, reads1_empty, reads2_empty _⟩, (((Upd.refl _ _).alloc _).alloc _).alloc _⟩
  · have := new_of ((w.alloc (.map #[] 0)).alloc (.map #[] 0)) (.cells #[.int .i64 k, .map (some w.heap.size), .map (some (w.heap.size + 1))] 97)
    simpa using this
  · exact (((World.ownsMap_made w _ _ _).mono (by omega)).alloc _).alloc _
  · have := (World.ownsMap_made (w.alloc (.map #[] 0)) Try.prog 36 (plainElem (H := Unit) Try.prog 3)).mono (n' := 256) (by omega)
    rw [World.size_alloc] at this
    exact this.alloc _
theorem plen {b m n : Nat} {s : Pt} {w : World} (h : PtAt w b m n s) : Calls Try.prog 55 #[.pointer (some ⟨b, 0, none⟩)] w fun e w' => e = .returned (.int .i64 s.card) ∧ w = w' := by
  have H := Lib.hid h
  obtain ⟨_, _, hb, D, E, hD, _, hR, _⟩ := h
  have c1 := cell_of hb 1
  have HD := Lib.hid hD
  have HS := Lib.hid hR.size
  clear hb hD hR
  go_enter Try.func55, Try.ntmps55
  go_wp2_with (first | (go_at_call 64; refine (pmade H.out).mono ?_; rintro e w' ⟨rfl, rfl⟩) | (at_len; refine wpList_len_own _ rfl _ 31 rfl 3 36 Try.underlying31 _ m 256 D rfl HD.out ?_; rw [HS.out]))
  go_ret
  exact ⟨rfl, rfl⟩
theorem ofI_nat {s : Pt} (ho : s.ok) (i : Nat) : s.ofI i = s.g i := by
  unfold Pt.ofI
  by_cases h : (0 : Int) ≤ (i : Int) ∧ (i : Int) < s.size
  · rw [if_pos h]; rfl
  · rw [if_neg h]
    cases hg : s.g i with
    | none => rfl
    | some r => exact absurd (ho.good i r hg).1 (by omega)
theorem ofI_out {s : Pt} (ho : s.ok) {id : Int} (h : id < 0 ∨ 256 ≤ id) : s.ofI id = none := by
  unfold Pt.ofI
  rw [if_neg]
  have := ho.le
  omega
theorem PtAt.look1 {b m n : Nat} {s : Pt} {w : World} (h : PtAt w b m n s) (id : Int) (hw : (Lit.int .i64 id).wf = true) :
    (Instr.lookup 31 (.map (some m)) (.int .i64 id) true).run Try.prog w = .ok (.tuple #[refV ((s.ofI id).getD (0, 0)), .bool (s.ofI id).isSome]) w := by
  obtain ⟨ho, _, _, D, E, hD, _, hR, _⟩ := h
  by_cases hid : 0 ≤ id ∧ id < 256
  · obtain ⟨i, rfl⟩ := Int.eq_ofNat_of_zero_le hid.1
    rw [ofI_nat ho]
    exact look_of hD hR i (by omega)
  · rw [ofI_out ho (by omega)]
    exact look_of_out hD hR id hw (by omega)
theorem PtAt.look2 {b m n : Nat} {s : Pt} {w : World} (h : PtAt w b m n s) (r : Rf) (hw : refWf r) :
    (Instr.lookup 95 (.map (some n)) (.agg #[.int .i64 r.1, .int .u32 r.2]) true).run Try.prog w = .ok (.tuple #[.int .i64 ((s.byI r).getD 0 : Nat), .bool (s.byI r).isSome]) w := by
  obtain ⟨ho, _, _, D, E, _, hE, _, hR⟩ := h
  exact look_by ho hE hR r hw
theorem pby {b m n : Nat} {s : Pt} {w : World} (h : PtAt w b m n s) (r : Rf) (hw : refWf r) :
    Calls Try.prog 35 #[.pointer (some ⟨b, 0, none⟩), .agg #[.int .i64 r.1, .int .u32 r.2]] w fun e w' => e = .returned (.tuple #[.int .i64 ((s.byI r).getD 0 : Nat), .bool (s.byI r).isSome]) ∧ Upd [] w w' := by
  have u1 : Upd [] w (w.alloc (.cells #[.int .i64 r.1, .int .u32 r.2] 36)) := (Upd.refl _ _).alloc _
  have H := Lib.hid (h.upd0 u1)
  have c2 := cell_of H.out.blk 2
  have hbl := h.lt
  have q := fun k => (H.out.upd0 ((Upd.refl [] _).drewN k)).look2 r hw
  clear h u1
  generalize (s.byI r).isSome = y at *
  generalize (s.byI r).getD 0 = x at *
  obtain ⟨r1, r2⟩ := r
  dsimp only at q H c2 ⊢
  clear hw
  go_enter Try.func35, Try.ntmps35
  go_wp2_with (go_at_call 64; refine (pmade H.out).mono ?_; rintro e w' ⟨rfl, rfl⟩)
  go_quiet (fail)
  go_wp2
  go_ret2
  exact ⟨rfl, ((Upd.refl _ _).alloc _).drewN _⟩


theorem padd_range {b m n : Nat} {s : Pt} {w : World} (h : PtAt w b m n s) (id : Int) (r : Rf) (hid : ¬ (0 ≤ id ∧ id < s.size)) :
    Calls Try.prog 37 #[.pointer (some ⟨b, 0, none⟩), .int .i64 id, .agg #[.int .i64 r.1, .int .u32 r.2]] w fun e w' => e = .returned (.int .i64 3) ∧ Upd [] w w' := by
  have u1 : Upd [] w (w.alloc (.cells #[.int .i64 r.1, .int .u32 r.2] 36)) := (Upd.refl _ _).alloc _
  have H := Lib.hid (h.upd0 u1)
  have hc : s.chkE id = 3 := if_neg hid
  have HC := Lib.hid hc
  clear h u1 hc hid
  obtain ⟨r1, r2⟩ := r
  dsimp only at H ⊢
  go_enter Try.func37, Try.ntmps37
  go_wp2_with (go_at_call 66; refine (pcheck H.out id).mono ?_; rw [HC.out]; rintro e w' ⟨rfl, rfl⟩)
  go_ret
  exact ⟨rfl, (Upd.refl _ _).alloc _⟩
theorem padd_bad {b m n : Nat} {s : Pt} {w : World} (h : PtAt w b m n s) (id : Int) (r : Rf) (hw : refWf r) (hid : 0 ≤ id ∧ id < s.size) (hr : ¬ goodR r) :
    Calls Try.prog 37 #[.pointer (some ⟨b, 0, none⟩), .int .i64 id, .agg #[.int .i64 r.1, .int .u32 r.2]] w fun e w' => e = .returned (.int .i64 2) ∧ Upd [] w w' := by
  have u1 : Upd [] w (w.alloc (.cells #[.int .i64 r.1, .int .u32 r.2] 36)) := (Upd.refl _ _).alloc _
  have H := Lib.hid (h.upd0 u1)
  have hc : s.chkE id = 0 := if_pos hid
  have HC := Lib.hid hc
  clear h u1 hc hid
  obtain ⟨r1, r2⟩ := r
  have hb2 := bounds_u32 hw.2
  unfold goodR at hr
  dsimp only at H hr hb2 ⊢
  clear hw
  by_cases h1 : r1 < 0
  · clear hr hb2
    go_enter Try.func37, Try.ntmps37
    go_wp2_with (go_at_call 66; refine (pcheck H.out id).mono ?_; rw [HC.out]; rintro e w' ⟨rfl, rfl⟩)
    go_ret
    exact ⟨rfl, (Upd.refl _ _).alloc _⟩
  · by_cases h2 : 256 ≤ r1
    · clear hr hb2
      go_enter Try.func37, Try.ntmps37
      go_wp2_with (go_at_call 66; refine (pcheck H.out id).mono ?_; rw [HC.out]; rintro e w' ⟨rfl, rfl⟩)
      go_ret
      exact ⟨rfl, (Upd.refl _ _).alloc _⟩
    · obtain rfl : r2 = 0 := by omega
      clear hr hb2
      go_enter Try.func37, Try.ntmps37
      go_wp2_with (go_at_call 66; refine (pcheck H.out id).mono ?_; rw [HC.out]; rintro e w' ⟨rfl, rfl⟩)
      go_ret
      exact ⟨rfl, (Upd.refl _ _).alloc _⟩
set_option maxRecDepth 100000 in
theorem padd_have {b m n : Nat} {s : Pt} {w : World} (h : PtAt w b m n s) (i : Nat) (r : Rf) (hid : i < s.size) (hr : goodR r) (hh : (s.g i).isSome ∨ (s.byI r).isSome) :
    Calls Try.prog 37 #[.pointer (some ⟨b, 0, none⟩), .int .i64 i, .agg #[.int .i64 r.1, .int .u32 r.2]] w fun e w' => e = .returned (.int .i64 6) ∧ Upd [] w w' := by
  have hs := h.ok.le
  have hwi : (Lit.int .i64 (i : Int)).wf = true := WalkArith.wf_i64 (by omega)
  have u1 : Upd [] w (w.alloc (.cells #[.int .i64 r.1, .int .u32 r.2] 36)) := (Upd.refl _ _).alloc _
  have H := Lib.hid (h.upd0 u1)
  have c1 := cell_of H.out.blk 1
  have c2 := cell_of H.out.blk 2
  have hbl := h.lt
  have hc : s.chkE i = 0 := if_pos ⟨by omega, by omega⟩
  have HC := Lib.hid hc
  have q1 := H.out.look1 i hwi
  rw [ofI_nat h.ok] at q1
  have q := fun o k => (H.out.upd0 (((Upd.refl [] _).alloc o).drewN k)).look2 r hr.wf
  have zR := zeroR
  clear h u1 hc
  generalize (s.byI r).isSome = y at *
  generalize (s.byI r).getD 0 = x at *
  generalize (s.g i).isSome = z at *
  generalize (s.g i).getD (0, 0) = v at *
  obtain ⟨v1, v2⟩ := v
  obtain ⟨r1, r2⟩ := r
  obtain ⟨hr0, hr1, hr2, hr3⟩ := hr
  unfold refV at q1
  dsimp only at q q1 H c1 c2 hr0 hr1 hr2 hr3 ⊢
  have hr4 : (r2 == 0) = false := by simp; omega
  have Q1 := Lib.hid q1; clear q1
  have HI := Lib.hid (show (0 : Int) ≤ (i : Int) by omega)
  cases z with
  | true =>
    clear hh
    go_enter Try.func37, Try.ntmps37
    go_wp2_with (first | (go_at_call 66; refine (pcheck H.out i).mono ?_; rw [HC.out]; rintro e w' ⟨rfl, rfl⟩) | (at_lookup; refine wpList_look rfl _ _ 31 rfl _ _ _ rfl rfl Q1.out ?_))
    go_quiet (fail)
    go_wp2
    go_ret
    exact ⟨rfl, (((Upd.refl _ _).alloc _).alloc _).drewN _⟩
  | false =>
    obtain rfl : y = true := by simpa using hh
    clear hh
    go_enter Try.func37, Try.ntmps37
    go_wp2_with (first | (go_at_call 66; refine (pcheck H.out i).mono ?_; rw [HC.out]; rintro e w' ⟨rfl, rfl⟩) | (at_lookup; refine wpList_look rfl _ _ 31 rfl _ _ _ rfl rfl Q1.out ?_))
    go_quiet (fail)
    go_wp2
    go_ret
    exact ⟨rfl, (((Upd.refl _ _).alloc _).alloc _).drewN _⟩
set_option maxRecDepth 100000 in
set_option maxHeartbeats 1000000 in
theorem padd_new {b m n : Nat} {s : Pt} {w : World} (h : PtAt w b m n s) (i : Nat) (r : Rf) (hid : i < s.size) (hr : goodR r) (hg : s.g i = none) (hh : s.byI r = none) :
    Calls Try.prog 37 #[.pointer (some ⟨b, 0, none⟩), .int .i64 i, .agg #[.int .i64 r.1, .int .u32 r.2]] w fun e w' => e = .returned (.int .i64 0) ∧ PtAt w' b m n (s.set i (some r)) ∧ Upd [m, n] w w' := by
  have hs := h.ok.le
  have hwi : (Lit.int .i64 (i : Int)).wf = true := WalkArith.wf_i64 (by omega)
  have u1 : Upd [] w (w.alloc (.cells #[.int .i64 r.1, .int .u32 r.2] 36)) := (Upd.refl _ _).alloc _
  have H := Lib.hid (h.upd0 u1)
  have c1 := cell_of H.out.blk 1
  have c2 := cell_of H.out.blk 2
  have hbl := h.lt
  have hc : s.chkE i = 0 := if_pos ⟨by omega, by omega⟩
  have HC := Lib.hid hc
  have q1 := H.out.look1 i hwi
  rw [ofI_nat h.ok, hg] at q1
  have q := fun o k => (H.out.upd0 (((Upd.refl [] _).alloc o).drewN k)).look2 r hr.wf
  rw [hh] at q
  have zR := zeroR
  have HN := Lib.hid (byI_none h.ok hh)
  have HG := Lib.hid hg
  have HRR := Lib.hid hr
  clear h u1 hc hh hg
  obtain ⟨r1, r2⟩ := r
  obtain ⟨hr0, hr1, hr2, hr3⟩ := hr
  unfold refV at q1
  dsimp only [Option.getD_none, Option.isSome_none] at q q1 H c1 c2 hr0 hr1 hr2 hr3 ⊢
  have hr4 : (r2 == 0) = false := by simp; omega
  have Q1 := Lib.hid q1; clear q1
  go_enter Try.func37, Try.ntmps37
  go_wp2_with (first | (go_at_call 66; refine (pcheck H.out i).mono ?_; rw [HC.out]; rintro e w' ⟨rfl, rfl⟩) | (at_lookup; refine wpList_look rfl _ _ 31 rfl _ _ _ rfl rfl Q1.out ?_))
  go_quiet (fail)
  go_wp2
  obtain ⟨V, hV⟩ : ∃ V, V = ((w.alloc (Obj.cells #[.int .i64 r1, .int .u32 r2] 36)).alloc (Obj.cells #[.int .i64 0, .int .u32 0] 36)).drewN nq := ⟨_, rfl⟩
  rw [← hV]
  have HP : PtAt V b m n s := by rw [hV]; exact H.out.upd0 (((Upd.refl _ _).alloc _).drewN _)
  have hN : V.heap[w.heap.size]? = some (.cells #[.int .i64 r1, .int .u32 r2] 36 (0, 0)) := by rw [hV]; exact drewN_of (alloc_of (new_of _ _)) _
  have uw : Upd [] w V := by rw [hV]; exact (((Upd.refl _ _).alloc _).alloc _).drewN _
  clear hV c1 c2 q Q1 H HC zR hr4 hbl
  generalize w.heap.size = N at hN ⊢
  obtain ⟨ho, hmn, hb, D, E, hD, hE, hR1, hR2⟩ := HP
  have hbm := ne_map hb hD
  have hbn := ne_map hb hE
  have hNm := ne_map hN hD
  have hNn := ne_map hN hE
  have hwr : refWf (r1, r2) := HRR.out.wf
  obtain ⟨st1, V1, e1, t1, f1⟩ := entry_new (w := V.drew) hD.drew law3 Try.underlying31 (by unfold maxLen; omega) zeroR (refElem_mk (0, 0)) (keyOf_int_mk Try.underlying3 hwi) (by rw [hR1.has (by omega), HG.out]; rfl)
  have u1 : Upd [m] V V1 := ((Upd.refl [m] V).drew).turned t1 (by simp)
  obtain ⟨V2, e2, o2, t2⟩ := f1 V1 (refV (r1, r2)) (refD (r1, r2)) [] rfl (refElem_mk _)
  have u2 : Upd [m] V V2 := u1.turned t2 (by simp)
  have hE2 := owns_upd_map hE u2 (by simpa using fun e : n = m => hmn e.symm)
  obtain ⟨st2, V3, e3, t3, f3⟩ := entry_new hE2 lawR Try.underlying95 (by unfold maxLen; omega) zeroI (plainElem_int Try.underlying3 (by decide)) (refK_key hwr) (hR2.no _ hwr HN.out)
  have u3 : Upd [m, n] V V3 := (u2.mono (by simp)).turned t3 (by simp)
  obtain ⟨V4, e4, o4, t4⟩ := f3 V3 (.int .i64 i) (.lit (.int .i64 i)) [] rfl (plainElem_int Try.underlying3 hwi)
  have u4 : Upd [m, n] V V4 := u3.turned t4 (by simp)
  have u34 : Upd [n] V2 V4 := ((Upd.refl [n] V2).turned t3 (by simp)).turned t4 (by simp)
  have r1' := hR1.put (r := (r1, r2)) (hD.tidy law3) (i := i) (by omega)
  have r2' := hR2.put refK_inj refK_lit (goodG ho) (hE.tidy lawR) (i := i) (by omega) hwr HG.out HN.out
  have o2' := owns_tight (owns_upd_map o2 u34 (by simpa using hmn)) (Nat.le_trans (Nat.le_of_eq r1'.size) (cardG_le _))
  have o4' := owns_tight o4 (Nat.le_trans (Nat.le_of_eq r2'.size) (cardG_le _))
  have hb4 := u4.keep hb (by simp; exact ⟨hbm, hbn⟩)
  have FIN := Lib.hid (show PtAt V4 b m n (s.set i (some (r1, r2))) ∧ Upd [m, n] w V4 from ⟨⟨ho.setSome hid HRR.out HN.out, hmn, hb4, _, _, o2', o4', r1', r2'⟩, (uw.mono (by simp)).trans u4⟩)
  have n1 := u1.keep hN (by simpa using hNm)
  have n2 := u2.keep hN (by simpa using hNm)
  have n3 := u3.keep hN (by simp; exact ⟨hNm, hNn⟩)
  have b1 := u1.keep hb (by simpa using hbm)
  have b2 := u2.keep hb (by simpa using hbm)
  have k0 := cell_of hN 0
  have k1 := cell_of hN 1
  have k10 := cell_of n1 0
  have k11 := cell_of n1 1
  have k20 := cell_of n2 0
  have k21 := cell_of n2 1
  have k30 := cell_of n3 0
  have k31 := cell_of n3 1
  have d1 := cell_of hb 1
  have d2 := cell_of hb 2
  have d11 := cell_of b1 1
  have d12 := cell_of b1 2
  have d21 := cell_of b2 1
  have d22 := cell_of b2 2
  unfold refV at e2 e3
  dsimp only at e2 e3
  clear hb4 o2' o4' r1' r2' u34 f1 f3 t1 t2 t3 t4 u1 u2 u3 u4 hE2 hD hE hR1 hR2 hb hN n1 n2 n3 b1 b2 o2 o4 hbm hbn hNm hNn hwr hmn uw ho HN HG HRR
  go_region
  all_goals
    go_wp2
    go_ret
    exact ⟨rfl, FIN.out⟩


/-- delete as a step of a region that draws. -/
theorem step_delete_own {P : Program} {w : World} {ops : Array Oper} {o : Oper} {a : Act} {K : Act → World → Prop} {Q : Exit → Act → World → Prop} {E : Prop} (hg : o.guard = none) (m x : Operand) (t k : TypeId)
    (hop : o.op = Op.call { callee := Callee.builtin Builtin.delete, args := #[m, x], argTypes := #[t, k] })
    (e : TypeId) (K' : Keyed P k) (ht : P.underlying t = some (.map k e)) (R : Value → Option (DataW Unit × List MemPlace)) (b n : Nat) (D : DataW Unit)
    (hm : a.eval m = .map (some b)) (hown : w.ownsMap P k R b n D) (key : Value) (kl : Lit) (hx : a.eval x = key) (hkey : keyOf P k key = some kl)
    (hK : ∀ w', w'.ownsMap P k R b n (D.del kl) → w.mapTurned w' b → K (a.put o.dst (.tuple #[])) w') :
    if Region.wanted o (yielded ops a.tmps) = true then Oper.wp P o a w K Q else E := by
  have hw : Region.wanted o (yielded ops a.tmps) = true := by simp [Region.wanted, hg]
  rw [if_pos hw]
  obtain ⟨w', hrun, r1, r2⟩ := hown.drop K' ht hkey o.type
  unfold Oper.wp
  simp [execOp, hop, resolve, invoke, builtin, hm, hx, hrun, Result.andThen]
  exact hK w' r1 r2

theorem pclr_range {b m n : Nat} {s : Pt} {w : World} (h : PtAt w b m n s) (id : Int) (hid : ¬ (0 ≤ id ∧ id < s.size)) :
    Calls Try.prog 41 #[.pointer (some ⟨b, 0, none⟩), .int .i64 id] w fun e w' => e = .returned (.tuple #[.agg #[.int .i64 0, .int .u32 0], .int .i64 3]) ∧ Upd [] w w' := by
  have u1 : Upd [] w (w.alloc (.cells #[.int .i64 0, .int .u32 0] 36)) := (Upd.refl _ _).alloc _
  have H := Lib.hid (h.upd0 u1)
  have hc : s.chkE id = 3 := if_neg hid
  have HC := Lib.hid hc
  have zR := zeroR
  clear h u1 hc hid
  go_enter Try.func41, Try.ntmps41
  go_wp2_with (go_at_call 66; refine (pcheck H.out id).mono ?_; rw [HC.out]; rintro e w' ⟨rfl, rfl⟩)
  go_returns
  exact ⟨rfl, (Upd.refl _ _).alloc _⟩
theorem pclr_none {b m n : Nat} {s : Pt} {w : World} (h : PtAt w b m n s) (i : Nat) (hid : i < s.size) (hg : s.g i = none) :
    Calls Try.prog 41 #[.pointer (some ⟨b, 0, none⟩), .int .i64 i] w fun e w' => e = .returned (.tuple #[.agg #[.int .i64 0, .int .u32 0], .int .i64 5]) ∧ Upd [] w w' := by
  have hs := h.ok.le
  have hwi : (Lit.int .i64 (i : Int)).wf = true := WalkArith.wf_i64 (by omega)
  have u1 : Upd [] w (w.alloc (.cells #[.int .i64 0, .int .u32 0] 36)) := (Upd.refl _ _).alloc _
  have H := Lib.hid (h.upd0 u1)
  have c1 := cell_of H.out.blk 1
  have hbl := h.lt
  have hc : s.chkE i = 0 := if_pos ⟨by omega, by omega⟩
  have HC := Lib.hid hc
  have q1 := H.out.look1 i hwi
  rw [ofI_nat h.ok, hg] at q1
  unfold refV at q1
  dsimp only [Option.getD_none, Option.isSome_none] at q1
  have Q1 := Lib.hid q1; clear q1
  have zR := zeroR
  clear h u1 hc hid hg
  go_enter Try.func41, Try.ntmps41
  go_wp2_with (first | (go_at_call 66; refine (pcheck H.out i).mono ?_; rw [HC.out]; rintro e w' ⟨rfl, rfl⟩) | (at_lookup; refine wpList_look rfl _ _ 31 rfl _ _ _ rfl rfl Q1.out ?_))
  go_returns
  exact ⟨rfl, ((Upd.refl _ _).alloc _).alloc _⟩
set_option maxRecDepth 100000 in
set_option maxHeartbeats 1000000 in
theorem pclr_some {b m n : Nat} {s : Pt} {w : World} (h : PtAt w b m n s) (i : Nat) (r : Rf) (hid : i < s.size) (hg : s.g i = some r) :
    Calls Try.prog 41 #[.pointer (some ⟨b, 0, none⟩), .int .i64 i] w fun e w' => e = .returned (.tuple #[.agg #[.int .i64 r.1, .int .u32 r.2], .int .i64 0]) ∧ PtAt w' b m n (s.set i none) ∧ Upd [m, n] w w' := by
  have hs := h.ok.le
  have hwi : (Lit.int .i64 (i : Int)).wf = true := WalkArith.wf_i64 (by omega)
  have u1 : Upd [] w (w.alloc (.cells #[.int .i64 0, .int .u32 0] 36)) := (Upd.refl _ _).alloc _
  have H := Lib.hid (h.upd0 u1)
  have c1 := cell_of H.out.blk 1
  have hbl := h.lt
  have hc : s.chkE i = 0 := if_pos ⟨by omega, by omega⟩
  have HC := Lib.hid hc
  have q1 := H.out.look1 i hwi
  rw [ofI_nat h.ok, hg] at q1
  have HG := Lib.hid hg
  have hwr := goodG h.ok i r hg
  have HO := Lib.hid h.ok
  clear h hc hg
  obtain ⟨r1, r2⟩ := r
  unfold refV at q1
  dsimp only [Option.getD_some, Option.isSome_some] at q1 ⊢
  have Q1 := Lib.hid q1; clear q1
  have zR := zeroR
  have u2 : Upd [] w ((w.alloc (.cells #[.int .i64 0, .int .u32 0] 36)).alloc (.cells #[.int .i64 r1, .int .u32 r2] 36)) := u1.alloc _
  have HU := Lib.hid u2
  obtain ⟨ho, hmn, hb, D, E, hD, hE, hR1, hR2⟩ := H.out.upd0 (((Upd.refl [] _).alloc (.cells #[.int .i64 r1, .int .u32 r2] 36)))
  have hN : ((w.alloc (.cells #[.int .i64 0, .int .u32 0] 36)).alloc (.cells #[.int .i64 r1, .int .u32 r2] 36)).heap[w.heap.size + 1]? = some (.cells #[.int .i64 r1, .int .u32 r2] 36 (0, 0)) := by
    have := new_of (w.alloc (.cells #[.int .i64 0, .int .u32 0] 36)) (.cells #[.int .i64 r1, .int .u32 r2] 36)
    rwa [World.size_alloc] at this
  have hM : ((w.alloc (.cells #[.int .i64 0, .int .u32 0] 36)).alloc (.cells #[.int .i64 r1, .int .u32 r2] 36)).heap[w.heap.size]? = some (.cells #[.int .i64 0, .int .u32 0] 36 (0, 0)) := alloc_of (new_of _ _)
  have HDD := Lib.hid hD; clear hD
  go_enter Try.func41, Try.ntmps41
  go_wp2_with (first | (go_at_call 66; refine (pcheck H.out i).mono ?_; rw [HC.out]; rintro e w' ⟨rfl, rfl⟩) | (at_lookup; refine wpList_look rfl _ _ 31 rfl _ _ _ rfl rfl Q1.out ?_) | (at_delete; refine wpList_delete_own _ rfl _ _ 31 3 rfl 36 law3 Try.underlying31 refElem m 256 D rfl HDD.out _ _ rfl (keyOf_int_mk Try.underlying3 hwi) ?_; intro V hown1 hturn1))
  have hNm := ne_map hN HDD.out
  have hMm := ne_map hM HDD.out
  have hNn := ne_map hN hE
  have hMn := ne_map hM hE
  have hbm := ne_map hb HDD.out
  have hbn := ne_map hb hE
  have u3 : Upd [m] _ V := (Upd.refl [m] _).turned hturn1 (by simp)
  have hE1 := owns_upd_map hE u3 (by simpa using fun e : n = m => hmn e.symm)
  have hN1 := u3.keep hN (by simpa using hNm)
  have hM1 := u3.keep hM (by simpa using hMm)
  have hb1 := u3.keep hb (by simpa using hbm)
  have hr1' := hR1.del (HDD.out.tidy law3) (i := i) (by omega)
  have hr2' := hR2.del refK_inj (goodG ho) ho.inj (hE.tidy lawR) (i := i) (by omega) HG.out
  have d2 := cell_of hb1 2
  have n0 := cell_of hN1 0
  have n1 := cell_of hN1 1
  have HE := Lib.hid hE1.drew
  have X1 := Lib.hid hown1
  have X2 := Lib.hid hr1'
  have X3 := Lib.hid hr2'
  have U3 := Lib.hid ((u2.mono (T := [m, n]) (by simp)).trans (u3.mono (by simp)))
  have HN := Lib.hid hN1
  have HM := Lib.hid hM1
  have HB := Lib.hid hb1
  clear hE hE1 hN hN1 hM hM1 hb hb1 hR1 hR2 hr1' hr2' hown1 hturn1 u1 u2 u3 H c1 Q1 HC HDD HU zR
  have hMw : w.heap.size ≤ w.heap.size := Nat.le_refl _
  generalize w.heap.size + 1 = N at *
  generalize hMe : w.heap.size = M at *
  have HMW := Lib.hid (Nat.le_of_eq hMe); clear hMe hMw
  go_frame
  go_region_law (refine step_delete_own rfl (.tmp 36) (.tmp 37) 95 36 rfl 3 lawR Try.underlying95 (plainElem Try.prog 3) n 256 E (by first | (simp [Act.eval]; done) | simp [Act.eval, Act.put]) HE.out (.agg #[.int .i64 r1, .int .u32 r2]) _ (by first | (simp [Act.eval]; done) | simp [Act.eval, Act.put]) (refK_key hwr) ?_; intro V2 hown2 hturn2)
  all_goals
    have u4 : Upd [n] V V2 := ((Upd.refl [n] V).drew).turned hturn2 (by simp)
    have hN2 := u4.keep HN.out (by simpa using hNn)
    have hM2 := u4.keep HM.out (by simpa using hMn)
    have hb2 := u4.keep HB.out (by simpa using hbn)
    have o1 := owns_tight (owns_upd_map X1.out u4 (by simpa using hmn)) (Nat.le_trans (Nat.le_of_eq X2.out.size) (cardG_le _))
    have o2 := owns_tight hown2 (Nat.le_trans (Nat.le_of_eq X3.out.size) (cardG_le _))
    have n20 := cell_of hN2 0
    have n21 := cell_of hN2 1
    have m20 := cell_of hM2 0
    have m21 := cell_of hM2 1
    have f20 : V2.frozen? ⟨M, 0, none⟩ = false := free_of hM2 0
    have f21 : V2.frozen? ⟨M, 1, none⟩ = false := free_of hM2 1
    have FIN := Lib.hid (show PtAt V2 b m n (s.set i none) ∧ Upd [m, n] w V2 from ⟨⟨HO.out.setNone i, hmn, hb2, _, _, o1, o2, X2.out, X3.out⟩, U3.out.trans (u4.mono (by simp))⟩)
    clear hown2 hturn2 o1 o2 u4 hN2
    have z0 : (V2.setCell ⟨M, 0, none⟩ (.int .i64 r1)).cell? ⟨M, 0, none⟩ = some (.int .i64 r1) := cell_of (set_of hM2 0 _) 0
    have z1 : ((V2.setCell ⟨M, 0, none⟩ (.int .i64 r1)).setCell ⟨M, 1, none⟩ (.int .u32 r2)).cell? ⟨M, 1, none⟩ = some (.int .u32 r2) := cell_of (set_of (set_of hM2 0 _) 1 _) 1
    have u5 : Upd [M] V2 ((V2.setCell ⟨M, 0, none⟩ (.int .i64 r1)).setCell ⟨M, 1, none⟩ (.int .u32 r2)) := ((Upd.refl [M] V2).setCell (by simp) _).setCell (by simp) _
    have FIN5 := Lib.hid (show PtAt _ b m n (s.set i none) ∧ Upd [m, n] w _ from ⟨FIN.out.1.upd u5 (by simp; omega) (by simpa using fun e : m = M => hMm e.symm) (by simpa using fun e : n = M => hMn e.symm), FIN.out.2.after u5 (by simp; exact .inl HMW.out)⟩)
    clear hM2 u5 FIN
    go_wp2
    try simp only [Exit.inBlock, Exit.then]
    refine bodyPost_ret (by simp [results, Try.results41, go_sem, z0, z1, Result.andThen]; rfl) rfl ?_
    exact ⟨rfl, FIN5.out⟩

set_option maxRecDepth 100000 in
theorem pclone1 (m k : Nat) (D : DataW Unit) (w : World) (hown : w.ownsMap (H := Unit) Try.prog 3 refElem m k D) :
    Calls Try.prog 78 #[.map (some m)] w fun e w' => e = .returned (.map (some w.heap.size)) ∧ w'.ownsMap (H := Unit) Try.prog 3 refElem w.heap.size k D ∧ Upd [] w w' := by
  obtain ⟨es, clock, hb, F, hs, hD⟩ := hown
  have hq := fun (w : World) => run_eql_map_nil (P := Try.prog) w 31 3 36 (some m) Try.underlying31
  go_enter Try.func78, Try.ntmps78
  go_wp2
  rw [run_callFunc_extern Try.func81 (by kernel_rfl) (by kernel_rfl) (by kernel_rfl) (e := Extern.MapsClone.clone) (by kernel_rfl), run_maps_clone_sl w 31 hb]
  simp only [Result.andThen]
  rw [Oper.upon_value]
  go_wp2
  rw [run_typeAssert_map_sl _ 31 20 _ _ _ Try.underlying31]
  simp only [Result.andThen]
  rw [Oper.upon_value]
  go_wp2
  go_ret
  exact ⟨rfl, ⟨es, clock, new_of _ _, F, hs, hD⟩, (Upd.refl _ _).alloc _⟩
set_option maxRecDepth 100000 in
theorem pclone2 (m k : Nat) (D : DataW Unit) (w : World) (hown : w.ownsMap (H := Unit) Try.prog 36 (plainElem Try.prog 3) m k D) :
    Calls Try.prog 79 #[.map (some m)] w fun e w' => e = .returned (.map (some w.heap.size)) ∧ w'.ownsMap (H := Unit) Try.prog 36 (plainElem Try.prog 3) w.heap.size k D ∧ Upd [] w w' := by
  obtain ⟨es, clock, hb, F, hs, hD⟩ := hown
  have hq := fun (w : World) => run_eql_map_nil (P := Try.prog) w 95 36 3 (some m) Try.underlying95
  go_enter Try.func79, Try.ntmps79
  go_wp2
  rw [run_callFunc_extern Try.func81 (by kernel_rfl) (by kernel_rfl) (by kernel_rfl) (e := Extern.MapsClone.clone) (by kernel_rfl), run_maps_clone_sl w 95 hb]
  simp only [Result.andThen]
  rw [Oper.upon_value]
  go_wp2
  rw [run_typeAssert_map_sl _ 95 20 _ _ _ Try.underlying95]
  simp only [Result.andThen]
  rw [Oper.upon_value]
  go_wp2
  go_ret
  exact ⟨rfl, ⟨es, clock, new_of _ _, F, hs, hD⟩, (Upd.refl _ _).alloc _⟩
set_option maxHeartbeats 1000000 in
theorem pcopy {b m n : Nat} {s : Pt} {w : World} (h : PtAt w b m n s) :
    Calls Try.prog 74 #[.pointer (some ⟨b, 0, none⟩)] w fun e w' => ∃ b2 m2 n2, e = .returned (.pointer (some ⟨b2, 0, none⟩)) ∧ PtAt w' b2 m2 n2 s ∧ Upd [] w w' ∧ w.heap.size ≤ b2 ∧ w.heap.size ≤ m2 ∧ w.heap.size ≤ n2 := by
  have H := Lib.hid h
  obtain ⟨ho, hmn, hb, D, E, hD, hE, hR1, hR2⟩ := h
  have c0 := cell_of hb 0
  have c1 := cell_of hb 1
  have c2 := cell_of hb 2
  have HB := Lib.hid hb
  have HD := Lib.hid hD.drew
  have HE := Lib.hid hE
  have HR1 := Lib.hid hR1
  have HR2 := Lib.hid hR2
  have HO := Lib.hid ho
  clear hb hD hE hR1 hR2 ho hmn
  go_enter Try.func74, Try.ntmps74
  go_wp2_with (go_at_call 64; refine (pmade H.out).mono ?_; rintro e w' ⟨rfl, rfl⟩)
  go_region_held3 (fun w' => w'.cell? ⟨b, 0, none⟩ = some (.int .i64 s.size) ∧ w'.cell? ⟨b, 1, none⟩ = some (.map (some m)) ∧ w'.cell? ⟨b, 2, none⟩ = some (.map (some n))) (first | go_keep | exact ⟨c0, c1, c2⟩ | exact x1 | exact x2) (first | (go_at_call 78; refine (pclone1 m 256 D _ HD.out).mono ?_; rintro e w1 ⟨rfl, o1, u1⟩; have u2 : Upd [] w w1 := ((Upd.refl _ _).drew).trans u1; have x10 : w1.cell? ⟨b, 0, none⟩ = some (.int .i64 s.size) := cell_of (u2.keep HB.out (by simp)) 0; have x11 : w1.cell? ⟨b, 1, none⟩ = some (.map (some m)) := cell_of (u2.keep HB.out (by simp)) 1; have x12 : w1.cell? ⟨b, 2, none⟩ = some (.map (some n)) := cell_of (u2.keep HB.out (by simp)) 2; have x1 := And.intro x10 (And.intro x11 x12); have O1 := Lib.hid o1; have E1 := Lib.hid (owns_upd_map HE.out u2 (by simp))) | (go_at_call 79; refine (pclone2 n 256 E _ E1.out).mono ?_; rintro e w2 ⟨rfl, o2, u3⟩; have u4 : Upd [] w w2 := u2.trans u3; have x20 : w2.cell? ⟨b, 0, none⟩ = some (.int .i64 s.size) := cell_of (u4.keep HB.out (by simp)) 0; have x21 : w2.cell? ⟨b, 1, none⟩ = some (.map (some m)) := cell_of (u4.keep HB.out (by simp)) 1; have x22 : w2.cell? ⟨b, 2, none⟩ = some (.map (some n)) := cell_of (u4.keep HB.out (by simp)) 2; have x2 := And.intro x20 (And.intro x21 x22)))
  all_goals
    go_wp2
    go_ret
    have hlt := O1.out.lt
    have o1' := (owns_upd_map O1.out u3 (by simp)).alloc (.cells #[.int .i64 s.size, .map (some w.drew.heap.size), .map (some w1.heap.size)] 97)
    refine ⟨_, _, _, rfl, ⟨HO.out, Nat.ne_of_lt hlt, new_of _ _, _, _, o1', o2.alloc _, HR1.out, HR2.out⟩, u4.alloc _, u4.size, Nat.le_refl _, u2.size⟩


theorem eqR (a b c d : Int) (w : World) : (binOp .eql 36 (.agg #[.int .i64 a, .int .u32 b]) (.agg #[.int .i64 c, .int .u32 d])).run Try.prog w = .ok (.bool (a == c && b == d)) w := by
  have hS : Try.prog.underlying 36 = some (.struct (Try.prog.fieldsOf 36)) := by kernel_rfl
  have hp : Try.prog.stoodInHeld 36 = false := by kernel_rfl
  have u3 := Try.underlying3
  have a3 := Try.isAgg3
  have z3 := Try.sizeOf3
  have uu := Try.underlying34
  have au := Try.isAgg34
  have zu := Try.sizeOf34
  rw [run_eql_struct, show (10000 : Nat) = 9999 + 1 from rfl, run_equalIn_agg w 9999 36 _ _ hS hp]
  simp only [Program.fieldsOf, Try.underlying36]
  go_simp
  by_cases h1 : a = c <;> by_cases h2 : b = d <;> simp [h1, h2]
theorem neR (a b c d : Int) (w : World) : (binOp .neq 36 (.agg #[.int .i64 a, .int .u32 b]) (.agg #[.int .i64 c, .int .u32 d])).run Try.prog w = .ok (.bool (!(a == c && b == d))) w := by
  have h := eqR a b c d w
  rw [run_eql_struct] at h
  rw [run_neq_struct]
  cases hr : (Op.equalIn 10000 36 (.agg #[.int .i64 a, .int .u32 b]) (.agg #[.int .i64 c, .int .u32 d])).run Try.prog w with
  | ok r w1 =>
    rw [hr] at h
    simp [Result.andThen] at h ⊢
    rw [← h.1, ← h.2]
    simp
  | halt x w1 =>
    rw [hr] at h
    simp [Result.andThen] at h
theorem gdR : Try.prog.eqGuardType Try.prog.depth 36 = false := by kernel_rfl

def AddPost (b m n : Nat) (s : Pt) (id : Int) (r : Rf) (w : World) (e : Ending) (w' : World) : Prop := e = .returned (.int .i64 (s.addE id r)) ∧ PtAt w' b m n (s.addS id r) ∧ Upd [m, n] w w'
theorem padd {b m n : Nat} {s : Pt} {w : World} (h : PtAt w b m n s) (id : Int) (r : Rf) (hw : refWf r) :
    Calls Try.prog 37 #[.pointer (some ⟨b, 0, none⟩), .int .i64 id, .agg #[.int .i64 r.1, .int .u32 r.2]] w (AddPost b m n s id r w) := by
  have ho := h.ok
  unfold AddPost Pt.addS
  by_cases hid : 0 ≤ id ∧ id < s.size
  · obtain ⟨i, rfl⟩ := Int.eq_ofNat_of_zero_le hid.1
    have hi : i < s.size := by omega
    by_cases hg : goodR r
    · by_cases hh : (s.ofI i).isSome ∨ (s.byI r).isSome
      · have e : s.addE i r = 6 := by unfold Pt.addE; rw [if_pos hid, if_pos hg, if_pos hh]
        rw [e, if_neg (by omega)]
        rw [ofI_nat ho] at hh
        exact (padd_have h i r hi hg hh).mono fun _ _ ⟨h1, u⟩ => ⟨h1, h.upd0 u, u.nil⟩
      · have e : s.addE i r = 0 := by unfold Pt.addE; rw [if_pos hid, if_pos hg, if_neg hh]
        rw [e, if_pos rfl]
        rw [ofI_nat ho] at hh
        have h1 : s.g i = none := by cases hx : s.g i <;> simp [hx] at hh ⊢
        have h2 : s.byI r = none := by cases hx : s.byI r <;> simp [hx] at hh ⊢
        exact padd_new h i r hi hg h1 h2
    · have e : s.addE i r = 2 := by unfold Pt.addE; rw [if_pos hid, if_neg hg]
      rw [e, if_neg (by omega)]
      exact (padd_bad h i r hw hid hg).mono fun _ _ ⟨h1, u⟩ => ⟨h1, h.upd0 u, u.nil⟩
  · have e : s.addE id r = 3 := by unfold Pt.addE; rw [if_neg hid]
    rw [e, if_neg (by omega)]
    exact (padd_range h id r hid).mono fun _ _ ⟨h1, u⟩ => ⟨h1, h.upd0 u, u.nil⟩
theorem pclr {b m n : Nat} {s : Pt} {w : World} (h : PtAt w b m n s) (id : Int) :
    Calls Try.prog 41 #[.pointer (some ⟨b, 0, none⟩), .int .i64 id] w fun e w' => e = .returned (.tuple #[.agg #[.int .i64 (s.clrR id).1, .int .u32 (s.clrR id).2], .int .i64 (s.clrE id)]) ∧ PtAt w' b m n (s.clrS id) ∧ Upd [m, n] w w' := by
  have ho := h.ok
  unfold Pt.clrR Pt.clrE Pt.clrS
  by_cases hid : 0 ≤ id ∧ id < s.size
  · obtain ⟨i, rfl⟩ := Int.eq_ofNat_of_zero_le hid.1
    have hi : i < s.size := by omega
    rw [if_pos hid, ofI_nat ho]
    cases hg : s.g i with
    | none => exact (pclr_none h i hi hg).mono fun _ _ ⟨h1, u⟩ => ⟨h1, h.upd0 u, u.nil⟩
    | some r => exact pclr_some h i r hi hg
  · rw [if_neg hid, show s.ofI id = none from by unfold Pt.ofI; rw [if_neg hid]]
    exact (pclr_range h id hid).mono fun _ _ ⟨h1, u⟩ => ⟨h1, h.upd0 u, u.nil⟩

end Go.Proofs.Ytmbkjnjfipafmaa
