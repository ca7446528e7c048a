/-
  'shows': a table shows what that of the document shows. Conditions: both are in the same state, or nil.
-/
import Derived.Test.YtlndkmejmolnhaaPhR3
namespace Go.Proofs.Ytlndkmejmolnhaa
open Go.RowKit Go.Maps

set_option maxRecDepth 100000 in
set_option maxHeartbeats 2000000 in
theorem shows_ok {w : World} {b m n rb gl : Nat} {s : Pt} (P : PtAt w b m n s) (Q : PrAt w rb gl s) (id : Int) (x : Rf) (hi : (Lit.int .i64 id).wf = true) (hw : refWf x) :
    Calls Try.prog 24 #[.pointer (some ⟨b, 0, none⟩), .pointer (some ⟨rb, 0, none⟩), .int .i64 id, .agg #[.int .i64 x.1, .int .u32 x.2]] w fun e w' => e = .returned (.bool true) ∧ Upd [] w w' := by
  obtain ⟨r1, r2⟩ := x
  have u1 : Upd [] w (w.alloc (.cells #[.int .i64 r1, .int .u32 r2] 24)) := (Upd.refl _ _).alloc _
  have hX := new_of w (.cells #[.int .i64 r1, .int .u32 r2] 24)
  have P1 := Lib.hid (P.upd0 u1); have Q1 := Lib.hid (Q.upd0 u1); have U1 := Lib.hid u1
  have HO := Lib.hid P.ok
  have HI := Lib.hid hi; have HW := Lib.hid hw
  clear P Q u1 hi hw
  have eR := eqR
  have gR := gdR
  have zR := zeroR
  dsimp only
  obtain ⟨⟨a1, a2⟩, ha⟩ : ∃ y : Rf, (s.ofI id).getD (0, 0) = y := ⟨_, rfl⟩
  obtain ⟨ab, hab⟩ : ∃ y, (s.ofI id).isSome = y := ⟨_, rfl⟩
  obtain ⟨k, hk⟩ : ∃ y, (s.byI (r1, r2)).getD 0 = y := ⟨_, rfl⟩
  obtain ⟨kb, hkb⟩ : ∃ y, (s.byI (r1, r2)).isSome = y := ⟨_, rfl⟩
  have hpo := pof P1.out id HI.out
  rw [ha, hab] at hpo
  have hro := fun (w' : World) (h : PrAt w' rb gl s) => rof h HO.out id
  rw [ha, hab] at hro
  have hpb := fun (w' : World) (h : PtAt w' b m n s) => pby h (r1, r2) HW.out
  rw [hk, hkb] at hpb
  have hrb := fun (w' : World) (h : PrAt w' rb gl s) => rby h HO.out (r1, r2)
  rw [hk, hkb] at hrb
  unfold refV at hpo hro
  dsimp only at hpo hro hpb hrb
  have HPO := Lib.hid hpo; have HRO := Lib.hid hro; have HPB := Lib.hid hpb; have HRB := Lib.hid hrb
  have e1 : (a1 == a1 && a2 == a2) = true := by simp
  have e2 : (ab == ab) = true := by simp
  have e3 : ((k : Int) == (k : Int)) = true := by simp
  have e4 : (kb == kb) = true := by simp
  clear hpo hro hpb hrb ha hab hk hkb
  go_enter Try.func24, Try.ntmps24
  go_wp2_with fail
  generalize w.alloc (.cells #[.int .i64 r1, .int .u32 r2] 24) = V at *
  generalize w.heap.size = X at *
  refine HPO.out.mono ?_; rintro e w2 ⟨rfl, u2⟩
  have A := new_of w2 (.cells #[.int .i64 a1, .int .u32 a2] 24)
  have u3 : Upd [] V (w2.alloc (.cells #[.int .i64 a1, .int .u32 a2] 24)) := u2.alloc _
  have P2 := Lib.hid (P1.out.upd0 u3); have Q2 := Lib.hid (Q1.out.upd0 u3); have U2 := Lib.hid (U1.out.trans u3); have X2 := u3.keep hX (by simp)
  clear u2 u3 hX
  go_wp2_with fail
  generalize w2.alloc (.cells #[.int .i64 a1, .int .u32 a2] 24) = V2 at *
  generalize w2.heap.size = AA at *
  refine (HRO.out _ Q2.out).mono ?_; rintro e w3 ⟨rfl, u2⟩
  have B := new_of w3 (.cells #[.int .i64 a1, .int .u32 a2] 24)
  have u3 : Upd [] V2 (w3.alloc (.cells #[.int .i64 a1, .int .u32 a2] 24)) := u2.alloc _
  have P3 := Lib.hid (P2.out.upd0 u3); have Q3 := Lib.hid (Q2.out.upd0 u3); have U3 := Lib.hid (U2.out.trans u3); have X3 := u3.keep X2 (by simp); have A3 := u3.keep A (by simp)
  have x0 : w3.cell? ⟨X, 0, none⟩ = some (.int .i64 r1) := cell_of (u2.keep X2 (by simp)) 0
  have x1 : w3.cell? ⟨X, 1, none⟩ = some (.int .u32 r2) := cell_of (u2.keep X2 (by simp)) 1
  have xl := lt_of_block (u2.keep X2 (by simp))
  clear u2 u3 X2 A
  go_wp2_with fail
  clear x0 x1 xl
  generalize w3.alloc (.cells #[.int .i64 a1, .int .u32 a2] 24) = V3 at *
  generalize w3.heap.size = BB at *
  refine (HPB.out _ P3.out).mono ?_; rintro e w4 ⟨rfl, u2⟩
  have P4 := Lib.hid (P3.out.upd0 u2); have Q4 := Lib.hid (Q3.out.upd0 u2); have U4 := Lib.hid (U3.out.trans u2); have X4 := u2.keep X3 (by simp); have A4 := u2.keep A3 (by simp); have B4 := u2.keep B (by simp)
  have x0 : w4.cell? ⟨X, 0, none⟩ = some (.int .i64 r1) := cell_of X4 0
  have x1 : w4.cell? ⟨X, 1, none⟩ = some (.int .u32 r2) := cell_of X4 1
  clear u2 X3 A3 B X4
  go_wp2_with fail
  clear x0 x1
  refine (HRB.out _ Q4.out).mono ?_; rintro e w5 ⟨rfl, u2⟩
  have P5 := Lib.hid (P4.out.upd0 u2); have Q5 := Lib.hid (Q4.out.upd0 u2); have U5 := Lib.hid (U4.out.trans u2); have A5 := u2.keep A4 (by simp); have B5 := u2.keep B4 (by simp)
  have y0 : w5.cell? ⟨AA, 0, none⟩ = some (.int .i64 a1) := cell_of A5 0
  have y1 : w5.cell? ⟨AA, 1, none⟩ = some (.int .u32 a2) := cell_of A5 1
  have y2 : w5.cell? ⟨BB, 0, none⟩ = some (.int .i64 a1) := cell_of B5 0
  have y3 : w5.cell? ⟨BB, 1, none⟩ = some (.int .u32 a2) := cell_of B5 1
  clear u2 A4 B4 A5 B5
  go_wp2_with fail
  clear y0 y1 y2 y3
  refine (pids P5.out).mono ?_; rintro e w6 ⟨v6, rfl, o6, u6⟩
  have I6 := Lib.hid (Ints.ofOwn o6)
  have P6 := Lib.hid (P5.out.upd0 u6); have Q6 := Lib.hid (Q5.out.upd0 u6); have U6 := Lib.hid (U5.out.trans u6)
  clear u6 o6
  go_wp2_with fail
  refine (rids Q6.out HO.out).mono ?_; rintro e w7 ⟨v7, rfl, hI7, u7⟩
  have I7 := Lib.hid hI7
  have P7 := Lib.hid (P6.out.upd0 u7); have Q7 := Lib.hid (Q6.out.upd0 u7); have U7 := Lib.hid (U6.out.trans u7); have J7 := Lib.hid (I6.out.upd0 u7)
  clear u7 hI7 I6
  go_wp2_with fail
  refine (equal_ok _ _ (idsG s.g) _ J7.out I7.out).mono ?_; rintro e w8 ⟨rfl, u8⟩
  have P8 := Lib.hid (P7.out.upd0 u8); have Q8 := Lib.hid (Q7.out.upd0 u8); have U8 := Lib.hid (U7.out.trans u8)
  clear u8 I7 J7
  obtain ⟨C, hC⟩ : ∃ C, s.card = C := ⟨_, rfl⟩
  have hl := plen P8.out
  have hq := rlen Q8.out HO.out
  rw [hC] at hl hq
  have HL := Lib.hid hl; have HQ := Lib.hid hq
  have h4 : ((C : Int) == (C : Int)) = true := by simp
  clear hl hq hC
  go_wp2_with fail
  refine HL.out.mono ?_; rintro e w9 ⟨rfl, e9⟩
  obtain rfl := e9
  go_wp2_with fail
  refine HQ.out.mono ?_; rintro e w9 ⟨rfl, u9⟩
  go_wp2_with fail
  go_ret
  exact ⟨rfl, U8.out.trans u9⟩
set_option maxRecDepth 100000 in
set_option maxHeartbeats 2000000 in
theorem shows_nil (w : World) (id : Int) (x : Rf) :
    Calls Try.prog 24 #[.pointer none, .pointer none, .int .i64 id, .agg #[.int .i64 x.1, .int .u32 x.2]] w fun e w' => e = .returned (.bool true) ∧ Upd [] w w' := by
  obtain ⟨r1, r2⟩ := x
  have u1 : Upd [] w (w.alloc (.cells #[.int .i64 r1, .int .u32 r2] 24)) := (Upd.refl _ _).alloc _
  have hX := new_of w (.cells #[.int .i64 r1, .int .u32 r2] 24)
  have U1 := Lib.hid u1
  clear u1
  have eR := eqR
  have gR := gdR
  have zR := zeroR
  dsimp only
  go_enter Try.func24, Try.ntmps24
  go_wp2_with fail
  generalize w.alloc (.cells #[.int .i64 r1, .int .u32 r2] 24) = V at *
  generalize w.heap.size = X at *
  refine (nof none id _ (.inl rfl)).mono ?_; rintro e w2 ⟨rfl, u2⟩
  have A := new_of w2 (.cells #[.int .i64 0, .int .u32 0] 24)
  have u3 : Upd [] V (w2.alloc (.cells #[.int .i64 0, .int .u32 0] 24)) := u2.alloc _
  have U2 := Lib.hid (U1.out.trans u3); have X2 := u3.keep hX (by simp)
  clear u2 u3 hX
  go_wp2_with fail
  generalize w2.alloc (.cells #[.int .i64 0, .int .u32 0] 24) = V2 at *
  generalize w2.heap.size = AA at *
  refine (rnof id _).mono ?_; rintro e w3 ⟨rfl, u2⟩
  have B := new_of w3 (.cells #[.int .i64 0, .int .u32 0] 24)
  have u3 : Upd [] V2 (w3.alloc (.cells #[.int .i64 0, .int .u32 0] 24)) := u2.alloc _
  have U3 := Lib.hid (U2.out.trans u3); have X3 := u3.keep X2 (by simp); have A3 := u3.keep A (by simp)
  have x0 : w3.cell? ⟨X, 0, none⟩ = some (.int .i64 r1) := cell_of (u2.keep X2 (by simp)) 0
  have x1 : w3.cell? ⟨X, 1, none⟩ = some (.int .u32 r2) := cell_of (u2.keep X2 (by simp)) 1
  have xl := lt_of_block (u2.keep X2 (by simp))
  clear u2 u3 X2 A
  go_wp2_with fail
  clear x0 x1 xl
  generalize w3.alloc (.cells #[.int .i64 0, .int .u32 0] 24) = V3 at *
  generalize w3.heap.size = BB at *
  refine (nby none r1 r2 _ (.inl rfl)).mono ?_; rintro e w4 ⟨rfl, u2⟩
  have U4 := Lib.hid (U3.out.trans u2); have X4 := u2.keep X3 (by simp); have A4 := u2.keep A3 (by simp); have B4 := u2.keep B (by simp)
  have x0 : w4.cell? ⟨X, 0, none⟩ = some (.int .i64 r1) := cell_of X4 0
  have x1 : w4.cell? ⟨X, 1, none⟩ = some (.int .u32 r2) := cell_of X4 1
  clear u2 X3 A3 B X4
  go_wp2_with fail
  clear x0 x1
  refine (rnby r1 r2 _).mono ?_; rintro e w5 ⟨rfl, u2⟩
  have U5 := Lib.hid (U4.out.trans u2); have A5 := u2.keep A4 (by simp); have B5 := u2.keep B4 (by simp)
  have y0 : w5.cell? ⟨AA, 0, none⟩ = some (.int .i64 0) := cell_of A5 0
  have y1 : w5.cell? ⟨AA, 1, none⟩ = some (.int .u32 0) := cell_of A5 1
  have y2 : w5.cell? ⟨BB, 0, none⟩ = some (.int .i64 0) := cell_of B5 0
  have y3 : w5.cell? ⟨BB, 1, none⟩ = some (.int .u32 0) := cell_of B5 1
  clear u2 A4 B4 A5 B5
  go_wp2_with fail
  clear y0 y1 y2 y3
  refine (nids none _ (.inl rfl)).mono ?_; rintro e w6 ⟨rfl, e6⟩
  obtain rfl := e6
  go_wp2_with fail
  refine (rnids _).mono ?_; rintro e w6 ⟨rfl, e6⟩
  obtain rfl := e6
  go_wp2_with fail
  refine (equal_ok _ _ [] _ (Ints.ofOwn (l := []) (World.ownsRow_nil _ 0 _ _)) (Ints.ofOwn (l := []) (World.ownsRow_nil _ 0 _ _))).mono ?_; rintro e w8 ⟨rfl, u8⟩
  have U8 := Lib.hid (U5.out.trans u8)
  clear u8
  go_wp2_with fail
  refine (nlen none _ (.inl rfl)).mono ?_; rintro e w6 ⟨rfl, e6⟩
  obtain rfl := e6
  go_wp2_with fail
  refine (rnlen _).mono ?_; rintro e w6 ⟨rfl, e6⟩
  obtain rfl := e6
  go_wp2_with fail
  go_ret
  exact ⟨rfl, U8.out⟩

/-- What was copied: nothing yet, or a pair. -/
def Old (w : World) (o ws : Value) (m n gl : Nat) : Prop := o = .pointer none ∧ ws = .pointer none ∨ ∃ bo mo no ro lo so, o = .pointer (some ⟨bo, 0, none⟩) ∧ ws = .pointer (some ⟨ro, 0, none⟩) ∧ PtAt w bo mo no so ∧ PrAt w ro lo so ∧ (mo ≠ m ∧ mo ≠ n ∧ no ≠ m ∧ no ≠ n) ∧ lo ≠ gl
theorem Old.upd0 {w w' : World} {o ws : Value} {m n gl : Nat} (h : Old w o ws m n gl) (u : Upd [] w w') : Old w' o ws m n gl := by
  rcases h with h | ⟨bo, mo, no, ro, lo, so, h1, h2, h3, h4, h5, h6⟩
  · exact .inl h
  · exact .inr ⟨bo, mo, no, ro, lo, so, h1, h2, h3.upd0 u, h4.upd0 u, h5, h6⟩
theorem Old.go {w w' : World} {o ws : Value} {b m n rb gl : Nat} {s s2 : Pt} (h : Old w o ws m n gl) (p : PtAt w b m n s) (q : PrAt w rb gl s2) (u : Upd [m, n, gl] w w') : Old w' o ws m n gl := by
  obtain ⟨d, hd⟩ := q.row.blk
  rcases h with h | ⟨bo, mo, no, ro, lo, so, h1, h2, h3, h4, h5, h6⟩
  · exact .inl h
  · obtain ⟨e, he⟩ := h4.blk
    obtain ⟨f, hf⟩ := h4.row.blk
    exact .inr ⟨bo, mo, no, ro, lo, so, h1, h2, h3.upd u (by simp; exact ⟨p.nem h3.blk, p.nen h3.blk, ne_types h3.blk hd (by decide)⟩) (by simp; exact ⟨h5.1, h5.2.1, Ne.symm (h3.nem hd)⟩) (by simp; exact ⟨h5.2.2.1, h5.2.2.2, Ne.symm (h3.nen hd)⟩),
      h4.upd u (by simp; exact ⟨p.nem he, p.nen he, ne_types he hd (by decide)⟩) (by simp; exact ⟨p.nem hf, p.nen hf, h6⟩), h5, h6⟩

end Go.Proofs.Ytlndkmejmolnhaa
