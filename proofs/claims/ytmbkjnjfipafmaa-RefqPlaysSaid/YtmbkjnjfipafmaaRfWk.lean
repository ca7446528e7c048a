/-
  The examples of the chapter hold; lists compared. Conditions: none.
-/
import Derived.Test.YtmbkjnjfipafmaaRf6
namespace Go.Proofs.Ytmbkjnjfipafmaa
open Go.RowKit Go.Maps

set_option maxHeartbeats 1000000 in
theorem ints_ok (v v2 : Value) (l : List Int) (w : World) (h : Ints w v l) (h2 : Ints w v2 l) : Calls Try.prog 32 #[v, v2] w fun e w' => e = .returned (.bool true) ∧ Upd [] w w' := by
  obtain ⟨a, c, rfl, hac, hcm⟩ := h.form
  obtain ⟨a2, c2, rfl, hac2, hcm2⟩ := h2.form
  have H := Lib.hid h; have H2 := Lib.hid h2
  clear h h2
  go_enter Try.func32, Try.ntmps32
  go_wp2_with fail
  go_loopw [5] (fun x wr => ∃ i : Nat, i ≤ l.length ∧ x = .int .i64 i ∧ Upd [] w wr) (fun x _ => l.length - (intOf x).toNat)
  case atStart => exact ⟨0, by omega, rfl, Upd.refl _ _⟩
  case round =>
    obtain ⟨i, hi, rfl, hup⟩ := hrel
    by_cases hlt : i < l.length
    · obtain ⟨g, off, rfl, hg, _, hc⟩ := (H.out.upd0 hup).at hlt
      obtain ⟨g2, off2, rfl, hg2, _, hc2⟩ := (H2.out.upd0 hup).at hlt
      generalize l[i] = x at *
      go_wp2_with fail
      go_quiet (fail)
      go_wp2
      go_roundw
      case rel => exact ⟨i + 1, by omega, by go_num, hup.drewN _⟩
      case measure => simp [intOf]; omega
    · go_wp2
      go_ret
      exact ⟨rfl, hup⟩

theorem Ints.rf {w w' : World} {v : Value} {l : List Int} {B : RfB} {s : Rs} (h : Ints w v l) (hr : RfAt w B s) (u : Upd B.S w w') : Ints w' v l :=
  SlAt.upd h u (fun x hx c hc => hr.notIn hc (by decide) hx)
def rx : Rf := (5, 1)
def ry : Rf := (6, 1)
def rz : Rf := (7, 1)
def t0 : Rs := rs0 4 2
def t1 : Rs := t0.regS' 0 rx
def t2 : Rs := t1.regS' 1 ry
def t3 : Rs := t2.regS' 2 rz
def t4 : Rs := t3.fndS ry
def t5 : Rs := t4.fndS rx
def t6 : Rs := t5.pollS
def t7 : Rs := t6.canS 0
theorem e1 : t0.regE' 0 rx = 0 := by decide
theorem e2 : t1.regE' 1 rx = 6 := by decide
theorem e2s : t1.regS' 1 rx = t1 := by unfold Rs.regS'; rw [if_pos (by decide)]; exact if_neg (by decide)
theorem e3 : t1.regE' 1 ry = 0 := by decide
theorem e4 : t2.regE' 2 rz = 0 := by decide
theorem e5 : t3.fndB ry = true := by decide
theorem e5e : t3.fndE ry = 0 := by decide
theorem e6 : t4.fndB ry = false := by decide
theorem e6e : t4.fndE ry = 0 := by decide
theorem e6b : t4.byI ry = none := by decide
theorem e6s : t4.fndS ry = t4 := by unfold Rs.fndS; rw [e6b]
theorem e7 : t4.fndB rx = true := by decide
theorem e7e : t4.fndE rx = 0 := by decide
theorem e8 : t5.fndE rz = 4 := by decide
theorem e8b : t5.byI rz = some 2 := by decide
theorem e8s : t5.fndS rz = t5 := by unfold Rs.fndS; rw [e8b]; exact if_pos (by decide)
theorem e9 : t5.l = [1, 0] := by decide
theorem e10 : t5.pollX = 1 := by decide
theorem e10b : t5.pollB = true := by decide
theorem e11 : t6.canB 0 = true := by decide
theorem e11e : t6.canE 0 = 0 := by decide
theorem e12 : t7.pollX = 0 := by decide
theorem e12b : t7.pollB = false := by decide
theorem wx : refWf rx := ⟨by decide, by decide⟩
theorem wy : refWf ry := ⟨by decide, by decide⟩
theorem wz : refWf rz := ⟨by decide, by decide⟩
set_option maxRecDepth 100000 in
set_option maxHeartbeats 4000000 in
theorem works_ok (w : World) : Calls Try.prog 10 #[] w fun e w' => e = .returned (.bool true) ∧ Upd [] w w' := by
  go_enter Try.func10, Try.ntmps10
  go_wp2_with fail
  refine (rfnew_ok 4 2 _ (by omega) (by omega) (by omega) (by omega)).mono ?_; rintro e w1 ⟨B, rfl, a1, hsc, u1⟩
  go_wp2_with fail
  have hX : (((w1.alloc (.cells #[.int .i64 5, .int .u32 1] 36)).alloc (.cells #[.int .i64 6, .int .u32 1] 36)).alloc (.cells #[.int .i64 7, .int .u32 1] 36)).heap[w1.heap.size]? = some (.cells #[.int .i64 5, .int .u32 1] 36 (0, 0)) := alloc_of (alloc_of (new_of _ _))
  have hY : (((w1.alloc (.cells #[.int .i64 5, .int .u32 1] 36)).alloc (.cells #[.int .i64 6, .int .u32 1] 36)).alloc (.cells #[.int .i64 7, .int .u32 1] 36)).heap[w1.heap.size + 1]? = some (.cells #[.int .i64 6, .int .u32 1] 36 (0, 0)) := by
    have := new_of (w1.alloc (.cells #[.int .i64 5, .int .u32 1] 36)) (.cells #[.int .i64 6, .int .u32 1] 36)
    rw [World.size_alloc] at this
    exact alloc_of this
  have hZ : (((w1.alloc (.cells #[.int .i64 5, .int .u32 1] 36)).alloc (.cells #[.int .i64 6, .int .u32 1] 36)).alloc (.cells #[.int .i64 7, .int .u32 1] 36)).heap[w1.heap.size + 1 + 1]? = some (.cells #[.int .i64 7, .int .u32 1] 36 (0, 0)) := by
    have := new_of ((w1.alloc (.cells #[.int .i64 5, .int .u32 1] 36)).alloc (.cells #[.int .i64 6, .int .u32 1] 36)) (.cells #[.int .i64 7, .int .u32 1] 36)
    simpa using this
  have uV : Upd [] w1 (((w1.alloc (.cells #[.int .i64 5, .int .u32 1] 36)).alloc (.cells #[.int .i64 6, .int .u32 1] 36)).alloc (.cells #[.int .i64 7, .int .u32 1] 36)) := (((Upd.refl _ _).alloc _).alloc _).alloc _
  have A := Lib.hid (show RfAt _ B t0 from a1.upd0 uV)
  have UP := Lib.hid (u1.trans uV)
  have SC := Lib.hid hsc
  clear a1 u1 hsc uV
  generalize (((w1.alloc (.cells #[.int .i64 5, .int .u32 1] 36)).alloc (.cells #[.int .i64 6, .int .u32 1] 36)).alloc (.cells #[.int .i64 7, .int .u32 1] 36)) = V at *
  generalize w1.heap.size + 1 + 1 = Z at *
  generalize w1.heap.size + 1 = Y at *
  generalize w1.heap.size = X at *
  have HK := Lib.hid (show ∀ w', Upd B.S V w' → w'.cell? ⟨X, 0, none⟩ = some (.int .i64 5) ∧ w'.cell? ⟨X, 1, none⟩ = some (.int .u32 1) ∧ w'.cell? ⟨Y, 0, none⟩ = some (.int .i64 6) ∧ w'.cell? ⟨Y, 1, none⟩ = some (.int .u32 1) ∧ w'.cell? ⟨Z, 0, none⟩ = some (.int .i64 7) ∧ w'.cell? ⟨Z, 1, none⟩ = some (.int .u32 1) from fun w' u => by
    have x1 := u.keep hX (A.out.notIn hX (by decide))
    have x2 := u.keep hY (A.out.notIn hY (by decide))
    have x3 := u.keep hZ (A.out.notIn hZ (by decide))
    exact ⟨cell_of x1 0, cell_of x1 1, cell_of x2 0, cell_of x2 1, cell_of x3 0, cell_of x3 1⟩)
  clear hX hY hZ
  obtain ⟨x0, x1, y0, y1, z0, z1⟩ := HK.out V (Upd.refl _ _)
  have D := Lib.hid (A.out.upd0 ((Upd.refl _ _).drew))
  have r1 := rfreg D.out 0 rx wx
  rw [e1] at r1
  have R1 := Lib.hid r1; clear r1
  have R2 := Lib.hid (show ∀ w2, RfAt w2 B t1 → Calls Try.prog 13 #[.pointer (some ⟨B.b, 0, none⟩), .int .i64 1, .agg #[.int .i64 5, .int .u32 1]] w2 fun e w' => e = .returned (.int .i64 6) ∧ RfAt w' B t1 ∧ Upd B.S w2 w' from fun w2 h => by
    have := rfreg h 1 rx wx
    rw [e2, e2s] at this
    exact this)
  have R3 := Lib.hid (show ∀ w2, RfAt w2 B t1 → Calls Try.prog 13 #[.pointer (some ⟨B.b, 0, none⟩), .int .i64 1, .agg #[.int .i64 6, .int .u32 1]] w2 fun e w' => e = .returned (.int .i64 0) ∧ RfAt w' B t2 ∧ Upd B.S w2 w' from fun w2 h => by
    have := rfreg h 1 ry wy
    rw [e3] at this
    exact this)
  go_region_held3 (fun w' => w'.cell? ⟨X, 0, none⟩ = some (.int .i64 5) ∧ w'.cell? ⟨X, 1, none⟩ = some (.int .u32 1) ∧ w'.cell? ⟨Y, 0, none⟩ = some (.int .i64 6) ∧ w'.cell? ⟨Y, 1, none⟩ = some (.int .u32 1) ∧ w'.cell? ⟨Z, 0, none⟩ = some (.int .i64 7) ∧ w'.cell? ⟨Z, 1, none⟩ = some (.int .u32 1)) (first | go_keep | exact ⟨x0, x1, y0, y1, z0, z1⟩ | exact KC | exact KB | exact KA) (first | (go_at_call 13; refine R1.out.mono ?_; rintro e w2 ⟨rfl, a2, v2⟩; have u2 : Upd B.S V w2 := ((Upd.refl _ _).drew).trans v2; have KA := HK.out _ u2) | (go_at_call 13; refine (R2.out _ a2).mono ?_; rintro e w3 ⟨rfl, a3, v3⟩; have u3 : Upd B.S V w3 := u2.trans v3; have KB := HK.out _ u3) | (go_at_call 13; refine (R3.out _ a3).mono ?_; rintro e w4 ⟨rfl, a4, v4⟩; have u4 : Upd B.S V w4 := u3.trans v4; have KC := HK.out _ u4))
  have A4 := Lib.hid a4; have U4 := Lib.hid u4
  clear x0 x1 y0 y1 z0 z1 a2 a3 a4 u2 u3 u4 v2 v3 v4 KA KB KC R1 R2 R3 D
  obtain ⟨x0, x1, y0, y1, z0, z1⟩ := HK.out _ U4.out
  have r5 := rfreg A4.out 2 rz wz
  rw [e4] at r5
  go_wp2_with fail
  refine r5.mono ?_; rintro e w5 ⟨rfl, a5, u5⟩
  have A5 := Lib.hid (show RfAt _ B t3 from a5); have U5 := Lib.hid (U4.out.trans u5)
  clear x0 x1 y0 y1 z0 z1 a5 u5 r5
  obtain ⟨x0, x1, y0, y1, z0, z1⟩ := HK.out _ U5.out
  have r6 := rffound A5.out ry wy
  rw [e5, e5e] at r6
  go_wp2_with fail
  refine r6.mono ?_; rintro e w6 ⟨rfl, a6, u6⟩
  have A6 := Lib.hid (show RfAt _ B t4 from a6); have U6 := Lib.hid (U5.out.trans u6)
  clear x0 x1 y0 y1 z0 z1 a6 u6 r6
  obtain ⟨x0, x1, y0, y1, z0, z1⟩ := HK.out _ U6.out
  have r7 := rffound A6.out ry wy
  rw [e6, e6e, e6s] at r7
  go_wp2_with fail
  refine r7.mono ?_; rintro e w7 ⟨rfl, a7, u7⟩
  have A7 := Lib.hid (show RfAt _ B t4 from a7); have U7 := Lib.hid (U6.out.trans u7)
  clear x0 x1 y0 y1 z0 z1 a7 u7 r7
  obtain ⟨x0, x1, y0, y1, z0, z1⟩ := HK.out _ U7.out
  have r8 := rffound A7.out rx wx
  rw [e7, e7e] at r8
  go_wp2_with fail
  refine r8.mono ?_; rintro e w8 ⟨rfl, a8, u8⟩
  have A8 := Lib.hid (show RfAt _ B t5 from a8); have U8 := Lib.hid (U7.out.trans u8)
  clear x0 x1 y0 y1 z0 z1 a8 u8 r8
  obtain ⟨x0, x1, y0, y1, z0, z1⟩ := HK.out _ U8.out
  have r9 := rffound A8.out rz wz
  rw [e8, e8s] at r9
  go_wp2_with fail
  refine r9.mono ?_; rintro e w9 ⟨rfl, a9, u9⟩
  have A9 := Lib.hid (show RfAt _ B t5 from a9); have U9 := Lib.hid (U8.out.trans u9)
  clear x0 x1 y0 y1 z0 z1 a9 u9 r9
  have r10 := rfwaiting A9.out
  rw [e9] at r10
  go_wp2_with fail
  refine r10.mono ?_; rintro e w10 ⟨vi, rfl, ⟨hsl, -⟩, u10⟩
  have hI : Ints w10 vi [1, 0] := hsl
  have A10 := Lib.hid (A9.out.upd0 u10); have U10 := Lib.hid (U9.out.trans u10.nil)
  clear r10 u10 hsl
  obtain ⟨va, vc, rfl, hvc1, hvc2⟩ := hI.form
  have HI := Lib.hid hI; clear hI
  have r11 := rfpoll A10.out
  rw [e10, e10b] at r11
  go_wp2_with fail
  refine r11.mono ?_; rintro e w11 ⟨rfl, a11, u11⟩
  have A11 := Lib.hid (show RfAt _ B t6 from a11); have U11 := Lib.hid (U10.out.trans u11)
  have I11 := Lib.hid (HI.out.rf A10.out u11)
  clear r11 a11 u11
  have r12 := rfcancel A11.out 0
  rw [e11, e11e] at r12
  go_wp2_with fail
  refine r12.mono ?_; rintro e w12 ⟨rfl, a12, u12⟩
  have A12 := Lib.hid (show RfAt _ B t7 from a12); have U12 := Lib.hid (U11.out.trans u12)
  have I12 := Lib.hid (I11.out.rf A11.out u12)
  clear r12 a12 u12
  have r13 := rfpoll A12.out
  rw [e12, e12b] at r13
  go_wp2_with fail
  refine r13.mono ?_; rintro e w13 ⟨rfl, a13, u13⟩
  have A13 := Lib.hid a13; have U13 := Lib.hid (U12.out.trans u13)
  have I13 := Lib.hid (I12.out.rf A12.out u13)
  clear r13 a13 u13
  rw [show t5.fndB rz = false from by decide]
  go_wp2_with fail
  have hl : Ints (w13.alloc (.cells #[.int .i64 1, .int .i64 0] 3)) (.slice (some ⟨w13.heap.size, 0, none⟩) 2 2) [1, 0] := sl_lit w13 3 [.int .i64 1, .int .i64 0] (by simp [Value.oneCell']) (by simp)
  have u14 : Upd [] w13 (w13.alloc (.cells #[.int .i64 1, .int .i64 0] 3)) := (Upd.refl _ _).alloc _
  refine (ints_ok _ _ [1, 0] _ (I13.out.upd0 u14) hl).mono ?_; rintro e w14 ⟨rfl, u15⟩
  go_wp2_with fail
  go_ret
  exact ⟨rfl, (UP.out.sinceS U13.out SC.out).trans (u14.trans u15)⟩

end Go.Proofs.Ytmbkjnjfipafmaa
