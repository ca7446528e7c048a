/-
  The examples of the chapter hold; lists compared. Conditions: none.
-/
import Derived.Test.YtlndkmejmolnhaaPhAny
import Derived.Test.YtlndkmejmolnhaaPhIds
namespace Go.Proofs.Ytlndkmejmolnhaa
open Go.RowKit Go.Maps

set_option maxHeartbeats 1000000 in
theorem equal_ok (v v2 : Value) (l : List Int) (w : World) (h : Ints w v l) (h2 : Ints w v2 l) : Calls Try.prog 18 #[v, v2] w fun e w' => e = .returned (.bool true) ∧ Upd [] w w' := by
  obtain ⟨a, c, rfl, hac, hcm⟩ := h.form
  obtain ⟨a2, c2, rfl, hac2, hcm2⟩ := h2.form
  have H := Lib.hid h; have H2 := Lib.hid h2
  clear h h2
  go_enter Try.func18, Try.ntmps18
  go_wp2_with fail
  go_loopw [13] (fun x wr => ∃ i : Nat, i ≤ l.length ∧ x = .int .i64 i ∧ Upd [] w wr) (fun x _ => l.length - (intOf x).toNat)
  case atStart => exact ⟨0, by omega, rfl, Upd.refl _ _⟩
  case round =>
    obtain ⟨i, hi, rfl, hup⟩ := hrel
    by_cases hlt : i < l.length
    · obtain ⟨g, off, rfl, hg, _, hc⟩ := (H.out.upd0 hup).at hlt
      obtain ⟨g2, off2, rfl, hg2, _, hc2⟩ := (H2.out.upd0 hup).at hlt
      generalize l[i] = x at *
      go_wp2_with fail
      go_quiet (fail)
      go_wp2
      go_roundw
      case rel => exact ⟨i + 1, by omega, by go_num, hup.drewN _⟩
      case measure => simp [intOf]; omega
    · go_wp2
      go_ret
      exact ⟨rfl, hup⟩

/-- Blocks that were made since. -/
theorem Upd.fresh2 {a b c : World} {k j : Nat} (h : Upd [] a b) (g : Upd [k, j] b c) (hk : a.heap.size ≤ k) (hj : a.heap.size ≤ j) : Upd [] a c :=
  h.after g (fun x hx => by
    simp at hx
    rcases hx with rfl | rfl
    · exact .inl hk
    · exact .inl hj)
def ra : Rf := (7, 1)
def rb : Rf := (7, 2)
def s0 : Pt := ⟨3, fun _ => none⟩
def s1 : Pt := s0.set 2 (some ra)
def s2 : Pt := s1.set 0 (some rb)
def s3 : Pt := s2.set 2 none
def s4 : Pt := s3.set 1 (some ra)
theorem addS_ok {s : Pt} {id : Int} {r : Rf} (h : s.addE id r = 0) : s.addS id r = s.set id.toNat (some r) := if_pos h
theorem addS_no {s : Pt} {id : Int} {r : Rf} (h : s.addE id r ≠ 0) : s.addS id r = s := if_neg h
theorem q1 : s0.addE 2 ra = 0 := by decide
theorem q2 : s1.addE 0 rb = 0 := by decide
theorem q3 : s2.addE 1 ra = 6 := by decide
theorem q4 : s2.addE 2 (8, 1) = 6 := by decide
theorem q5 : s2.addE 3 (8, 1) = 3 := by decide
theorem q6 : s2.addE 1 (0, 0) = 2 := by decide
theorem q7 : idsG s2.g = [0, 2] := by kernel_rfl
theorem q8 : s2.byI rb = some 0 := by decide
theorem q9 : s2.clrE 2 = 0 := by decide
theorem q10 : s2.clrR 2 = ra := by decide
theorem q11 : s2.clrS 2 = s3 := rfl
theorem q12 : s3.clrE 2 = 5 := by decide
theorem q13 : s3.clrR 2 = (0, 0) := by decide
theorem q14 : s3.clrS 2 = s3 := rfl
theorem q15 : s3.addE 1 ra = 0 := by decide
theorem q16 : s4.card = 2 := by kernel_rfl
theorem wra : refWf ra := ⟨by decide, by decide⟩
theorem wrb : refWf rb := ⟨by decide, by decide⟩
set_option maxRecDepth 100000 in
set_option maxHeartbeats 2000000 in
theorem works_ok (w : World) : Calls Try.prog 16 #[] w fun e w' => e = .returned (.bool true) ∧ Upd [] w w' := by
  have eR := eqR
  have gR := gdR
  have zR := zeroR
  go_enter Try.func16, Try.ntmps16
  go_wp2_with fail
  refine (pnew_ok 3 _ (by omega) (by omega)).mono ?_; rintro e w1 ⟨rfl, a1, u1⟩
  obtain ⟨b, hb⟩ : ∃ b, b = w.heap.size + 2 := ⟨_, rfl⟩
  obtain ⟨m, hm⟩ : ∃ m, m = w.heap.size := ⟨_, rfl⟩
  obtain ⟨n, hn⟩ : ∃ n, n = w.heap.size + 1 := ⟨_, rfl⟩
  rw [← hb, ← hn, ← hm] at a1
  rw [← hb]
  have hm' : w.heap.size ≤ m := by omega
  have hn' : w.heap.size ≤ n := by omega
  clear hb hm hn
  go_wp2_with fail
  have hA : ((w1.alloc (.cells #[.int .i64 7, .int .u32 1] 24)).alloc (.cells #[.int .i64 7, .int .u32 2] 24)).heap[w1.heap.size]? = some (.cells #[.int .i64 7, .int .u32 1] 24 (0, 0)) := alloc_of (new_of _ _)
  have hB : ((w1.alloc (.cells #[.int .i64 7, .int .u32 1] 24)).alloc (.cells #[.int .i64 7, .int .u32 2] 24)).heap[w1.heap.size + 1]? = some (.cells #[.int .i64 7, .int .u32 2] 24 (0, 0)) := by
    have := new_of (w1.alloc (.cells #[.int .i64 7, .int .u32 1] 24)) (.cells #[.int .i64 7, .int .u32 2] 24)
    rwa [World.size_alloc] at this
  have a2 := a1.upd0 (((Upd.refl _ _).alloc (.cells #[.int .i64 7, .int .u32 1] 24)).alloc (.cells #[.int .i64 7, .int .u32 2] 24))
  have up := (u1.alloc (.cells #[.int .i64 7, .int .u32 1] 24)).alloc (.cells #[.int .i64 7, .int .u32 2] 24)
  clear a1 u1
  generalize (w1.alloc (.cells #[.int .i64 7, .int .u32 1] 24)).alloc (.cells #[.int .i64 7, .int .u32 2] 24) = V at *
  generalize w1.heap.size + 1 = B at *
  generalize w1.heap.size = A at *
  have HK := Lib.hid (show ∀ w', Upd [m, n] V w' → w'.cell? ⟨A, 0, none⟩ = some (.int .i64 7) ∧ w'.cell? ⟨A, 1, none⟩ = some (.int .u32 1) ∧ w'.cell? ⟨B, 0, none⟩ = some (.int .i64 7) ∧ w'.cell? ⟨B, 1, none⟩ = some (.int .u32 2) ∧ A < w'.heap.size ∧ B < w'.heap.size from fun w' u => by
    have x1 := u.keep hA (by simp; exact ⟨a2.nem hA, a2.nen hA⟩)
    have x2 := u.keep hB (by simp; exact ⟨a2.nem hB, a2.nen hB⟩)
    exact ⟨cell_of x1 0, cell_of x1 1, cell_of x2 0, cell_of x2 1, lt_of_block x1, lt_of_block x2⟩)
  have UP := Lib.hid up
  clear up hA hB
  change PtAt V b m n s0 at a2
  refine (padd a2 2 ra wra).mono ?_; rintro e w2 ⟨rfl, a3, u3⟩
  rw [q1]
  rw [addS_ok q1] at a3
  change PtAt w2 b m n s1 at a3
  obtain ⟨ka0, ka1, kb0, kb1, kA, kB⟩ := HK.out _ u3
  clear a2
  go_wp2_with fail
  refine (padd a3 0 rb wrb).mono ?_; rintro e w3 ⟨rfl, a4, u4⟩
  rw [q2]
  rw [addS_ok q2] at a4
  change PtAt w3 b m n s2 at a4
  replace u4 := u3.trans u4
  clear a3 u3 ka0 ka1 kb0 kb1 kA kB
  obtain ⟨ka0, ka1, kb0, kb1, kA, kB⟩ := HK.out _ u4
  go_wp2_with fail
  refine (padd a4 1 ra wra).mono ?_; rintro e w4 ⟨rfl, a5, u5⟩
  rw [q3]
  rw [addS_no (by rw [q3]; decide)] at a5
  replace u5 := u4.trans u5
  clear a4 u4 ka0 ka1 kb0 kb1 kA kB
  go_wp2_with fail
  refine (padd a5 2 (8, 1) ⟨by decide, by decide⟩).mono ?_; rintro e w5 ⟨rfl, a6, u6⟩
  rw [q4]
  rw [addS_no (by rw [q4]; decide)] at a6
  replace u6 := u5.trans u6
  clear a5 u5
  go_wp2_with fail
  refine (padd a6 3 (8, 1) ⟨by decide, by decide⟩).mono ?_; rintro e w6 ⟨rfl, a7, u7⟩
  rw [q5]
  rw [addS_no (by rw [q5]; decide)] at a7
  replace u7 := u6.trans u7
  clear a6 u6
  go_wp2_with fail
  refine (padd a7 1 (0, 0) ⟨by decide, by decide⟩).mono ?_; rintro e w7 ⟨rfl, a8, u8⟩
  rw [q6]
  rw [addS_no (by rw [q6]; decide)] at a8
  replace u8 := u7.trans u8
  clear a7 u7
  go_wp2_with fail
  refine (pids a8).mono ?_; rintro e w8 ⟨v8, rfl, o8, u9⟩
  rw [q7] at o8
  have i8 : Ints w8 v8 [0, 2] := Ints.ofOwn (l := [0, 2]) o8
  replace a8 := a8.upd0 u9
  replace u9 := u8.trans u9.nil
  clear u8 o8
  obtain ⟨va, vc, rfl, _, _⟩ := i8.form
  go_wp2_with fail
  have hl : Ints (w8.alloc (.cells #[.int .i64 0, .int .i64 2] 3)) (.slice (some ⟨w8.heap.size, 0, none⟩) 2 2) [0, 2] := sl_lit w8 3 [.int .i64 0, .int .i64 2] (by simp [Value.oneCell']) (by simp)
  have u10 : Upd [] w8 (w8.alloc (.cells #[.int .i64 0, .int .i64 2] 3)) := (Upd.refl _ _).alloc _
  refine (equal_ok _ _ [0, 2] _ (i8.upd0 u10) hl).mono ?_; rintro e w9 ⟨rfl, u11⟩
  replace a8 := a8.upd0 (u10.trans u11)
  replace u11 := u9.trans (u10.trans u11).nil
  clear u9 u10 hl i8
  obtain ⟨ka0, ka1, kb0, kb1, kA, kB⟩ := HK.out _ u11
  go_wp2_with fail
  refine (pby a8 rb wrb).mono ?_; rintro e w10 ⟨rfl, u12⟩
  rw [q8]
  replace a8 := a8.upd0 u12
  replace u12 := u11.trans u12.nil
  clear u11 ka0 ka1 kb0 kb1 kA kB
  go_wp2_with fail
  refine (pclr a8 2).mono ?_; rintro e w11 ⟨rfl, a9, u13⟩
  rw [q9, q10]
  rw [q11] at a9
  replace u13 := u12.trans u13
  clear a8 u12
  rw [show ra.1 = (7 : Int) from rfl, show ra.2 = (1 : Int) from rfl]
  go_wp2_with fail
  have hC := new_of w11 (.cells #[.int .i64 7, .int .u32 1] 24)
  have a10 := a9.upd0 ((Upd.refl _ _).alloc (.cells #[.int .i64 7, .int .u32 1] 24))
  have u14 := u13.alloc (.cells #[.int .i64 7, .int .u32 1] 24)
  clear a9 u13
  generalize w11.alloc (.cells #[.int .i64 7, .int .u32 1] 24) = W at *
  generalize w11.heap.size = C at *
  refine (pclr a10 2).mono ?_; rintro e w12 ⟨rfl, a11, u15⟩
  rw [q12, q13]
  rw [q14] at a11
  have hC2 := u15.keep hC (by simp; exact ⟨a10.nem hC, a10.nen hC⟩)
  replace u15 := u14.trans u15
  have kc0 := cell_of hC2 0
  have kc1 := cell_of hC2 1
  have kC := lt_of_block hC2
  clear u14 a10 hC hC2
  obtain ⟨ka0, ka1, -, -, kA, -⟩ := HK.out _ u15
  dsimp only
  have a12 := a11.upd0 ((Upd.refl _ _).alloc (.cells #[.int .i64 0, .int .u32 0] 24))
  replace u15 := u15.alloc (.cells #[.int .i64 0, .int .u32 0] 24)
  clear a11
  go_wp2_with fail
  refine (padd a12 1 ra wra).mono ?_; rintro e w13 ⟨rfl, a13, u16⟩
  rw [q15]
  rw [addS_ok q15] at a13
  change PtAt w13 b m n s4 at a13
  replace u16 := u15.trans u16
  clear a12 u15 ka0 ka1 kA kc0 kc1 kC
  go_wp2_with fail
  refine (plen a13).mono ?_; rintro e w14 ⟨rfl, rfl⟩
  rw [q16]
  go_wp2_with fail
  go_ret
  exact ⟨rfl, UP.out.fresh2 u16 hm' hn'⟩

end Go.Proofs.Ytlndkmejmolnhaa
