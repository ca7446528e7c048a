/-
  'shows': a table and the document's table with the same states show the same. Conditions: none.
-/
import Derived.Test.YtphpimbhhmkdkaaClnRef3
namespace Go.Proofs.Ytphpimbhhmkdkaa
open Go.RowKit Go.Maps

def gA (f : Nat → Nat) (id : Int) : Int := if 0 ≤ id ∧ id < 256 then gI f id.toNat else 0
def gB (f : Nat → Nat) (id : Int) : Int := if 0 ≤ id ∧ id < 256 then f id.toNat else 0
def gE (f : Nat → Nat) (id : Int) : Int := if 0 ≤ id ∧ id < 256 then findE f id.toNat else 3
theorem get_any (b m : Nat) (f : Nat → Nat) (id : Int) (w : World) (h : ClAt w b m f) :
    Calls Try.prog 12 #[.pointer (some ⟨b, 0, none⟩), .int .i64 id] w fun e w' => e = .returned (.tuple #[.agg #[.int .i64 (gA f id), .int .i64 (gB f id)], .int .i64 (gE f id)]) ∧ Upd [] w w' := by
  by_cases hi : 0 ≤ id ∧ id < 256
  · unfold gA gB gE
    rw [if_pos hi, if_pos hi, if_pos hi]
    obtain ⟨i, rfl⟩ : ∃ i : Nat, id = i := ⟨id.toNat, by omega⟩
    rw [Int.toNat_natCast]
    exact get_at b m f i w h (by omega)
  · unfold gA gB gE
    rw [if_neg hi, if_neg hi, if_neg hi]
    exact get_beyond b m f id w h (by omega)
theorem rget_any (r : Nat) (f : Nat → Nat) (id : Int) (w : World) (h : RAt w r f) :
    Calls Try.prog 33 #[.pointer (some ⟨r, 0, none⟩), .int .i64 id] w fun e w' => e = .returned (.tuple #[.agg #[.int .i64 (gA f id), .int .i64 (gB f id)], .int .i64 (gE f id)]) ∧ Upd [] w w' := by
  by_cases hi : 0 ≤ id ∧ id < 256
  · unfold gA gB gE
    rw [if_pos hi, if_pos hi, if_pos hi]
    obtain ⟨i, rfl⟩ : ∃ i : Nat, id = i := ⟨id.toNat, by omega⟩
    rw [Int.toNat_natCast]
    exact rget_at r f i w h (by omega)
  · unfold gA gB gE
    rw [if_neg hi, if_neg hi, if_neg hi]
    exact rget_beyond r id w (by omega)

set_option maxRecDepth 100000 in
set_option maxHeartbeats 1000000 in
theorem shows_at (b m r : Nat) (f : Nat → Nat) (id : Int) (w : World) (h : ClAt w b m f) (hr : RAt w r f) :
    Calls Try.prog 27 #[.pointer (some ⟨b, 0, none⟩), .pointer (some ⟨r, 0, none⟩), .int .i64 id] w fun e w' => e = .returned (.bool true) ∧ Upd [] w w' := by
  have HS := Lib.hid h.small
  go_enter Try.func27, Try.ntmps27
  go_wp2_with fail
  refine (get_any b m f id _ h).mono ?_; rintro e w1 ⟨rfl, u1⟩
  go_wp2_with fail
  have hX : (w1.alloc (Obj.cells #[.int .i64 (gA f id), .int .i64 (gB f id)] 31)).heap[w1.heap.size]? = some (.cells #[.int .i64 (gA f id), .int .i64 (gB f id)] 31 (0, 0)) := new_of _ _
  have ux : Upd [] w (w1.alloc (Obj.cells #[.int .i64 (gA f id), .int .i64 (gB f id)] 31)) := u1.alloc _
  generalize w1.alloc (Obj.cells #[.int .i64 (gA f id), .int .i64 (gB f id)] 31) = w2 at *
  generalize w1.heap.size = X at *
  refine (rget_any r f id _ (hr.upd ux (by simp))).mono ?_; rintro e w3 ⟨rfl, u3⟩
  go_wp2_with fail
  have hX3 := (u3.alloc (Obj.cells #[.int .i64 (gA f id), .int .i64 (gB f id)] 70)).keep hX (by simp)
  have hY : (w3.alloc (Obj.cells #[.int .i64 (gA f id), .int .i64 (gB f id)] 70)).heap[w3.heap.size]? = some (.cells #[.int .i64 (gA f id), .int .i64 (gB f id)] 70 (0, 0)) := new_of _ _
  have uy : Upd [] w (w3.alloc (Obj.cells #[.int .i64 (gA f id), .int .i64 (gB f id)] 70)) := (ux.trans u3).alloc _
  generalize w3.alloc (Obj.cells #[.int .i64 (gA f id), .int .i64 (gB f id)] 70) = w4 at *
  generalize w3.heap.size = Y at *
  refine (counts_at b m f _ (h.upd uy (by simp) (by simp))).mono ?_; rintro e w5 ⟨rfl, u5⟩
  go_wp2_with fail
  refine (rcounts_at r f _ (hr.upd (uy.trans u5) (by simp)) HS.out).mono ?_; rintro e w6 ⟨rfl, u6⟩
  have u56 := u5.trans u6
  have u7 := uy.trans u56
  have hX6 := u56.keep hX3 (by simp)
  have hY6 := u56.keep hY (by simp)
  have x0 : w6.cell? ⟨X, 0, none⟩ = some (.int .i64 (gA f id)) := cell_of hX6 0
  have x1 : w6.cell? ⟨X, 1, none⟩ = some (.int .i64 (gB f id)) := cell_of hX6 1
  have y0 : w6.cell? ⟨Y, 0, none⟩ = some (.int .i64 (gA f id)) := cell_of hY6 0
  have y1 : w6.cell? ⟨Y, 1, none⟩ = some (.int .i64 (gB f id)) := cell_of hY6 1
  clear hX hX3 hX6 hY hY6 u1 ux u3 uy u5 u6 u56
  go_wp2_with fail
  refine (len_at b m f _ (h.upd u7 (by simp) (by simp))).mono ?_; rintro e wx ⟨rfl, rfl⟩
  go_wp2_with fail
  refine (rlen_at r f _ (hr.upd u7 (by simp)) HS.out).mono ?_; rintro e w8 ⟨rfl, u8⟩
  go_wp2_with fail
  go_ret
  exact ⟨rfl, u7.trans u8⟩

end Go.Proofs.Ytphpimbhhmkdkaa
