/-
  'shows': a reference queue shows what that of the document shows. Conditions: both are in the same state.
-/
import Derived.Test.YtmbkjnjfipafmaaRqR5
namespace Go.Proofs.Ytmbkjnjfipafmaa
open Go.RowKit Go.Maps

set_option maxRecDepth 100000 in
set_option maxHeartbeats 2000000 in
theorem shows_ok {w : World} {B : RfB} {s : Rs} {rb : Nat} (R : RfAt w B s) (Q : RqAt w rb s) (x : Rf) (hw : refWf x) :
    Calls Try.prog 31 #[.pointer (some ⟨B.b, 0, none⟩), .pointer (some ⟨rb, 0, none⟩), .agg #[.int .i64 x.1, .int .u32 x.2]] w fun e w' => e = .returned (.bool true) ∧ Upd [] w w' := by
  obtain ⟨r1, r2⟩ := x
  have u1 : Upd [] w (w.alloc (.cells #[.int .i64 r1, .int .u32 r2] 36)) := (Upd.refl _ _).alloc _
  have hX := new_of w (.cells #[.int .i64 r1, .int .u32 r2] 36)
  have R1 := Lib.hid (R.upd0 u1)
  obtain ⟨gl, cl, vq, q1⟩ := Q.upd0 u1
  have Q1 := Lib.hid q1; have HU := Lib.hid u1
  have HK := Lib.hid R.okk
  have HW := Lib.hid hw
  clear R Q u1 q1 hw
  dsimp only
  go_enter Try.func31, Try.ntmps31
  go_wp2_with fail
  generalize w.alloc (.cells #[.int .i64 r1, .int .u32 r2] 36) = V at *
  generalize w.heap.size = X at *
  have HX := Lib.hid hX; clear hX
  refine (rfwatches R1.out (r1, r2) HW.out).mono ?_; rintro e w2 ⟨rfl, u2⟩
  have R2 := Lib.hid (R1.out.upd0 u2); have Q2 := Lib.hid (Q1.out.upd0 u2); have U2 := Lib.hid (HU.out.trans u2)
  have x0 : w2.cell? ⟨X, 0, none⟩ = some (.int .i64 r1) := cell_of (u2.keep HX.out (by simp)) 0
  have x1 : w2.cell? ⟨X, 1, none⟩ = some (.int .u32 r2) := cell_of (u2.keep HX.out (by simp)) 1
  obtain ⟨wi, hwi⟩ : ∃ y, (s.byI (r1, r2)).getD 0 = y := ⟨_, rfl⟩
  obtain ⟨wb, hwb⟩ : ∃ y, (s.byI (r1, r2)).isSome = y := ⟨_, rfl⟩
  have hqw := qqwatches Q2.out HK.out.p (r1, r2)
  rw [hwi, hwb] at hqw ⊢
  have HQW := Lib.hid hqw
  clear hqw hwi hwb u2 R1 Q1
  go_wp2_with fail
  clear x0 x1
  refine HQW.out.mono ?_; rintro e w3 ⟨rfl, u3⟩
  have R3 := Lib.hid (R2.out.upd0 u3); have Q3 := Lib.hid (Q2.out.upd0 u3); have U3 := Lib.hid (U2.out.trans u3)
  have h1 : ((wi : Int) == (wi : Int)) = true := by simp
  have h2 : (wb == wb) = true := by simp
  clear u3 R2 Q2 HQW
  go_wp2_with fail
  refine (rfroom R3.out).mono ?_; rintro e w4 ⟨rfl, u4⟩
  have R4 := Lib.hid (R3.out.upd0 u4); have Q4 := Lib.hid (Q3.out.upd0 u4); have U4 := Lib.hid (U3.out.trans u4)
  clear u4 R3 Q3 h1 h2
  obtain ⟨E, hE⟩ : ∃ E, s.places - s.l.length = E := ⟨_, rfl⟩
  have hqr := qqroom Q4.out HK.out.l HK.out.b
  rw [hE] at hqr ⊢
  have HQR := Lib.hid hqr
  clear hqr hE
  go_wp2_with fail
  refine HQR.out.mono ?_; rintro e w5 ⟨rfl, u5⟩
  have R5 := Lib.hid (R4.out.upd0 u5); have Q5 := Lib.hid (Q4.out.upd0 u5); have U5 := Lib.hid (U4.out.trans u5)
  have h3 : ((E : Int) == (E : Int)) = true := by simp
  clear u5 R4 Q4 HQR
  go_wp2_with fail
  clear h3
  refine (rfwaiting R5.out).mono ?_; rintro e w6 ⟨v6, rfl, ⟨hsl, -⟩, u6⟩
  have I6 := Lib.hid (show Ints w6 v6 s.l from hsl)
  have R6 := Lib.hid (R5.out.upd0 u6); have Q6 := Lib.hid (Q5.out.upd0 u6); have U6 := Lib.hid (U5.out.trans u6)
  clear u6 R5 Q5 hsl
  go_wp2_with fail
  refine (qqwaiting Q6.out (by have := HK.out.l; have := HK.out.b; omega)).mono ?_; rintro e w7 ⟨v7, rfl, hI7, u7⟩
  have I7 := Lib.hid hI7
  have R7 := Lib.hid (R6.out.upd0 u7); have Q7 := Lib.hid (Q6.out.upd0 u7); have U7 := Lib.hid (U6.out.trans u7); have J7 := Lib.hid (I6.out.upd0 u7)
  clear u7 R6 Q6 hI7 I6
  go_wp2_with fail
  refine (ints_ok _ _ s.l _ J7.out I7.out).mono ?_; rintro e w8 ⟨rfl, u8⟩
  have R8 := Lib.hid (R7.out.upd0 u8); have Q8 := Lib.hid (Q7.out.upd0 u8); have U8 := Lib.hid (U7.out.trans u8)
  clear u8 R7 Q7 I7 J7
  obtain ⟨C, hC⟩ : ∃ C, cardG s.g = C := ⟨_, rfl⟩
  have hl := rflen R8.out
  have hq := qqlen Q8.out HK.out.p
  rw [hC] at hl hq
  have HL := Lib.hid hl; have HQ := Lib.hid hq
  have h4 : ((C : Int) == (C : Int)) = true := by simp
  clear hl hq hC
  go_wp2_with fail
  refine HL.out.mono ?_; rintro e w9 ⟨rfl, e9⟩
  obtain rfl := e9
  go_wp2_with fail
  refine HQ.out.mono ?_; rintro e w9 ⟨rfl, e9⟩
  obtain rfl := e9
  go_wp2_with fail
  go_ret
  exact ⟨rfl, U8.out⟩

/-- What was copied: nothing yet, or a pair. -/
def Old (w : World) (o ws : Value) (B : RfB) (rb : Nat) : Prop := o = .pointer none ∧ ws = .pointer none ∨ ∃ Bo ro so, o = .pointer (some ⟨Bo.b, 0, none⟩) ∧ ws = .pointer (some ⟨ro, 0, none⟩) ∧ RfAt w Bo so ∧ RqAt w ro so ∧ (∀ x, x ∈ Bo.all → x ∉ B.all) ∧ rb ≠ ro
theorem Old.upd0 {w w' : World} {o ws : Value} {B : RfB} {rb : Nat} (h : Old w o ws B rb) (u : Upd [] w w') : Old w' o ws B rb := by
  rcases h with h | ⟨Bo, ro, so, h1, h2, h3, h4, h5, h6⟩
  · exact .inl h
  · exact .inr ⟨Bo, ro, so, h1, h2, h3.upd0 u, h4.upd0 u, h5, h6⟩
theorem Old.goQ {w w' : World} {o ws : Value} {B : RfB} {rb : Nat} {s : Rs} (h : Old w o ws B rb) (R : RfAt w B s) (u : Upd B.S w w') : Old w' o ws B rb := by
  rcases h with h | ⟨Bo, ro, so, h1, h2, h3, h4, h5, h6⟩
  · exact .inl h
  · exact .inr ⟨Bo, ro, so, h1, h2, h3.updA u (fun x hx hm => h5 x hx (RfB.S_all hm)), h4.go R u, h5, h6⟩
theorem Old.goR {w w' : World} {o ws : Value} {B : RfB} {rb : Nat} {s : Rs} (h : Old w o ws B rb) (Q : RqAt w rb s) (u : Upd [rb] w w') : Old w' o ws B rb := by
  rcases h with h | ⟨Bo, ro, so, h1, h2, h3, h4, h5, h6⟩
  · exact .inl h
  · exact .inr ⟨Bo, ro, so, h1, h2, h3.ref Q u, h4.other Q h6 u, h5, h6⟩

end Go.Proofs.Ytmbkjnjfipafmaa
