/-
  Contracts of the package phantom: a table in memory; New, Of, By, Len. Conditions: the table is as New and its own calls leave it.
-/
import Derived.Test.YtlndkmejmolnhaaPhKit
namespace Go.Proofs.Ytlndkmejmolnhaa
open Go.RowKit Go.Maps

/-- Block b is the table s, its maps in the blocks m and n. -/
def PtAt (w : World) (b m n : Nat) (s : Pt) : Prop :=
  s.ok ∧ m ≠ n ∧ w.heap[b]? = some (.cells #[.int .i64 s.size, .map (some m), .map (some n)] 29 (0, 0)) ∧
    ∃ D E, w.ownsMap Try.prog 3 refElem m 256 D ∧ w.ownsMap Try.prog 24 (plainElem Try.prog 3) n 256 E ∧ Reads1 D s.g ∧ Reads2 refK E s.g
theorem PtAt.ok {w : World} {b m n : Nat} {s : Pt} (h : PtAt w b m n s) : s.ok := h.1
theorem PtAt.blk {w : World} {b m n : Nat} {s : Pt} (h : PtAt w b m n s) : w.heap[b]? = some (.cells #[.int .i64 s.size, .map (some m), .map (some n)] 29 (0, 0)) := h.2.2.1
theorem PtAt.lt {w : World} {b m n : Nat} {s : Pt} (h : PtAt w b m n s) : b < w.heap.size := lt_of_block h.blk
theorem PtAt.ltm {w : World} {b m n : Nat} {s : Pt} (h : PtAt w b m n s) : m < w.heap.size := by
  obtain ⟨_, _, _, D, E, h1, _⟩ := h; exact h1.lt
theorem PtAt.ltn {w : World} {b m n : Nat} {s : Pt} (h : PtAt w b m n s) : n < w.heap.size := by
  obtain ⟨_, _, _, D, E, _, h1, _⟩ := h; exact h1.lt
theorem ne_map {w : World} {P : Program} {k : TypeId} {R : Value → Option (DataW Unit × List MemPlace)} {b m n : Nat} {D : DataW Unit} {c : Array Value} {t : TypeId} {f : Nat × Nat} (hb : w.heap[b]? = some (.cells c t f)) (h : w.ownsMap P k R m n D) : b ≠ m := by
  rintro rfl
  obtain ⟨es, c, hm, _⟩ := h
  rw [hb] at hm; simp at hm
theorem PtAt.nem {w : World} {b m n : Nat} {s : Pt} (h : PtAt w b m n s) {b' : Nat} {c : Array Value} {t : TypeId} {f : Nat × Nat} (hb : w.heap[b']? = some (.cells c t f)) : b' ≠ m := by
  obtain ⟨_, _, _, D, E, h1, _⟩ := h; exact ne_map hb h1
theorem PtAt.nen {w : World} {b m n : Nat} {s : Pt} (h : PtAt w b m n s) {b' : Nat} {c : Array Value} {t : TypeId} {f : Nat × Nat} (hb : w.heap[b']? = some (.cells c t f)) : b' ≠ n := by
  obtain ⟨_, _, _, D, E, _, h1, _⟩ := h; exact ne_map hb h1
theorem PtAt.upd {w w' : World} {b m n : Nat} {s : Pt} (h : PtAt w b m n s) {S : List Nat} (u : Upd S w w') (hb : b ∉ S) (hm : m ∉ S) (hn : n ∉ S) : PtAt w' b m n s := by
  obtain ⟨h0, h1, h2, D, E, h3, h4, h5, h6⟩ := h
  exact ⟨h0, h1, u.keep h2 hb, D, E, owns_upd_map h3 u hm, owns_upd_map h4 u hn, h5, h6⟩
theorem PtAt.upd0 {w w' : World} {b m n : Nat} {s : Pt} (h : PtAt w b m n s) (u : Upd [] w w') : PtAt w' b m n s := h.upd u (by simp) (by simp) (by simp)
theorem goodG {s : Pt} (ho : s.ok) (i : Nat) (r : Rf) (h : s.g i = some r) : refWf r := (ho.good i r h).2.wf

theorem pmade_at (b : Nat) (n : Int) (w : World) (h : w.cell? ⟨b, 0, none⟩ = some (.int .i64 n)) (hn : 0 < n) : Calls Try.prog 26 #[.pointer (some ⟨b, 0, none⟩)] w fun e w' => e = .returned (.bool true) ∧ w = w' := by
  go_enter Try.func26, Try.ntmps26
  go_wp2
  go_ret
  exact ⟨rfl, rfl⟩
theorem pmade {b m n : Nat} {s : Pt} {w : World} (h : PtAt w b m n s) : Calls Try.prog 26 #[.pointer (some ⟨b, 0, none⟩)] w fun e w' => e = .returned (.bool true) ∧ w = w' :=
  pmade_at b s.size w (cell_of h.blk 0) (by have := h.ok.pos; omega)
/-- What 'check' answers. -/
def Pt.chkE (s : Pt) (id : Int) : Int := if 0 ≤ id ∧ id < s.size then 0 else 3
theorem pcheck {b m n : Nat} {s : Pt} {w : World} (h : PtAt w b m n s) (id : Int) : Calls Try.prog 25 #[.pointer (some ⟨b, 0, none⟩), .int .i64 id] w fun e w' => e = .returned (.int .i64 (s.chkE id)) ∧ w = w' := by
  have H := Lib.hid h
  have c0 := cell_of h.blk 0
  clear h
  unfold Pt.chkE
  by_cases h0 : 0 ≤ id
  · by_cases h1 : id < s.size
    · rw [if_pos ⟨h0, h1⟩]
      go_enter Try.func25, Try.ntmps25
      go_wp2_with (go_at_call 26; refine (pmade H.out).mono ?_; rintro e w' ⟨rfl, rfl⟩)
      go_ret
      exact ⟨rfl, rfl⟩
    · rw [if_neg (fun h => h1 h.2)]
      go_enter Try.func25, Try.ntmps25
      go_wp2_with (go_at_call 26; refine (pmade H.out).mono ?_; rintro e w' ⟨rfl, rfl⟩)
      go_ret
      exact ⟨rfl, rfl⟩
  · rw [if_neg (fun h => h0 h.1)]
    go_enter Try.func25, Try.ntmps25
    go_wp2_with (go_at_call 26; refine (pmade H.out).mono ?_; rintro e w' ⟨rfl, rfl⟩)
    go_ret
    exact ⟨rfl, rfl⟩
theorem pnew_err (k : Int) (w : World) (h : k < 1 ∨ 256 < k) : Calls Try.prog 19 #[.int .i64 k] w fun e w' => e = .returned (.tuple #[.pointer none, .int .i64 2]) ∧ w = w' := by
  rcases h with h | h
  · go_enter Try.func19, Try.ntmps19
    go_wp2
    go_ret2
    exact ⟨rfl, rfl⟩
  · have h0 : ¬ k < 1 := by omega
    go_enter Try.func19, Try.ntmps19
    go_wp2
    go_ret2
    exact ⟨rfl, rfl⟩
theorem pnew_ok (k : Nat) (w : World) (h1 : 1 ≤ k) (h2 : k ≤ 256) :
    Calls Try.prog 19 #[.int .i64 k] w fun e w' => e = .returned (.tuple #[.pointer (some ⟨w.heap.size + 2, 0, none⟩), .int .i64 0]) ∧ PtAt w' (w.heap.size + 2) w.heap.size (w.heap.size + 1) ⟨k, fun _ => none⟩ ∧ Upd [] w w' := by
  have hmm := @run_makeMap Try.prog
  go_enter Try.func19, Try.ntmps19
  go_wp2
  go_ret2
  refine ⟨rfl, ⟨⟨h1, h2, by simp, by simp⟩, by omega, ?_, .map [], .map [], ?_, ?_, reads1_empty, reads2_empty _⟩, (((Upd.refl _ _).alloc _).alloc _).alloc _⟩
  · have := new_of ((w.alloc (.map #[] 0)).alloc (.map #[] 0)) (.cells #[.int .i64 k, .map (some w.heap.size), .map (some (w.heap.size + 1))] 29)
    simpa using this
  · exact (((World.ownsMap_made w _ _ _).mono (by omega)).alloc _).alloc _
  · have := (World.ownsMap_made (w.alloc (.map #[] 0)) Try.prog 24 (plainElem (H := Unit) Try.prog 3)).mono (n' := 256) (by omega)
    rw [World.size_alloc] at this
    exact this.alloc _
theorem plen {b m n : Nat} {s : Pt} {w : World} (h : PtAt w b m n s) : Calls Try.prog 14 #[.pointer (some ⟨b, 0, none⟩)] w fun e w' => e = .returned (.int .i64 s.card) ∧ w = w' := by
  have H := Lib.hid h
  obtain ⟨_, _, hb, D, E, hD, _, hR, _⟩ := h
  have c1 := cell_of hb 1
  have HD := Lib.hid hD
  have HS := Lib.hid hR.size
  clear hb hD hR
  go_enter Try.func14, Try.ntmps14
  go_wp2_with (first | (go_at_call 26; refine (pmade H.out).mono ?_; rintro e w' ⟨rfl, rfl⟩) | (at_len; refine wpList_len_own _ rfl _ 26 rfl 3 24 Try.underlying26 _ m 256 D rfl HD.out ?_; rw [HS.out]))
  go_ret
  exact ⟨rfl, rfl⟩
theorem ofI_nat {s : Pt} (ho : s.ok) (i : Nat) : s.ofI i = s.g i := by
  unfold Pt.ofI
  by_cases h : (0 : Int) ≤ (i : Int) ∧ (i : Int) < s.size
  · rw [if_pos h]; rfl
  · rw [if_neg h]
    cases hg : s.g i with
    | none => rfl
    | some r => exact absurd (ho.good i r hg).1 (by omega)
theorem ofI_out {s : Pt} (ho : s.ok) {id : Int} (h : id < 0 ∨ 256 ≤ id) : s.ofI id = none := by
  unfold Pt.ofI
  rw [if_neg]
  have := ho.le
  omega
theorem PtAt.look1 {b m n : Nat} {s : Pt} {w : World} (h : PtAt w b m n s) (id : Int) (hw : (Lit.int .i64 id).wf = true) :
    (Instr.lookup 26 (.map (some m)) (.int .i64 id) true).run Try.prog w = .ok (.tuple #[refV ((s.ofI id).getD (0, 0)), .bool (s.ofI id).isSome]) w := by
  obtain ⟨ho, _, _, D, E, hD, _, hR, _⟩ := h
  by_cases hid : 0 ≤ id ∧ id < 256
  · obtain ⟨i, rfl⟩ := Int.eq_ofNat_of_zero_le hid.1
    rw [ofI_nat ho]
    exact look_of hD hR i (by omega)
  · rw [ofI_out ho (by omega)]
    exact look_of_out hD hR id hw (by omega)
theorem PtAt.look2 {b m n : Nat} {s : Pt} {w : World} (h : PtAt w b m n s) (r : Rf) (hw : refWf r) :
    (Instr.lookup 27 (.map (some n)) (.agg #[.int .i64 r.1, .int .u32 r.2]) true).run Try.prog w = .ok (.tuple #[.int .i64 ((s.byI r).getD 0 : Nat), .bool (s.byI r).isSome]) w := by
  obtain ⟨ho, _, _, D, E, _, hE, _, hR⟩ := h
  exact look_by ho hE hR r hw
theorem pof {b m n : Nat} {s : Pt} {w : World} (h : PtAt w b m n s) (id : Int) (hw : (Lit.int .i64 id).wf = true) :
    Calls Try.prog 10 #[.pointer (some ⟨b, 0, none⟩), .int .i64 id] w fun e w' => e = .returned (.tuple #[refV ((s.ofI id).getD (0, 0)), .bool (s.ofI id).isSome]) ∧ Upd [] w w' := by
  have u1 : Upd [] w (w.alloc (.cells #[.int .i64 0, .int .u32 0] 24)) := (Upd.refl _ _).alloc _
  have H := Lib.hid (h.upd0 u1)
  have c1 := cell_of H.out.blk 1
  have hbl := h.lt
  clear h u1
  generalize hx : (s.ofI id).getD (0, 0) = x
  generalize hy : (s.ofI id).isSome = y
  obtain ⟨x1, x2⟩ := x
  have HX := Lib.hid hx; clear hx
  have HY := Lib.hid hy; clear hy
  have zR := zeroR
  go_enter Try.func10, Try.ntmps10
  go_wp2_with (first | (go_at_call 26; refine (pmade H.out).mono ?_; rintro e w' ⟨rfl, rfl⟩) | (at_lookup; refine wpList_look rfl _ _ 26 rfl _ _ _ rfl rfl (H.out.look1 id hw) ?_; rw [HX.out, HY.out]; unfold refV; dsimp only))
  go_returns
  exact ⟨rfl, ((Upd.refl _ _).alloc _).alloc _⟩
theorem pby {b m n : Nat} {s : Pt} {w : World} (h : PtAt w b m n s) (r : Rf) (hw : refWf r) :
    Calls Try.prog 11 #[.pointer (some ⟨b, 0, none⟩), .agg #[.int .i64 r.1, .int .u32 r.2]] w fun e w' => e = .returned (.tuple #[.int .i64 ((s.byI r).getD 0 : Nat), .bool (s.byI r).isSome]) ∧ Upd [] w w' := by
  have u1 : Upd [] w (w.alloc (.cells #[.int .i64 r.1, .int .u32 r.2] 24)) := (Upd.refl _ _).alloc _
  have H := Lib.hid (h.upd0 u1)
  have c2 := cell_of H.out.blk 2
  have hbl := h.lt
  have q := fun k => (H.out.upd0 ((Upd.refl [] _).drewN k)).look2 r hw
  clear h u1
  generalize (s.byI r).isSome = y at *
  generalize (s.byI r).getD 0 = x at *
  obtain ⟨r1, r2⟩ := r
  dsimp only at q H c2 ⊢
  clear hw
  go_enter Try.func11, Try.ntmps11
  go_wp2_with (go_at_call 26; refine (pmade H.out).mono ?_; rintro e w' ⟨rfl, rfl⟩)
  go_quiet (fail)
  go_wp2
  go_ret2
  exact ⟨rfl, ((Upd.refl _ _).alloc _).drewN _⟩

end Go.Proofs.Ytlndkmejmolnhaa
