/-
  The table's calls in one word each; objects compared; lists compared. Conditions: the table is as New and its own calls leave it.
-/
import Derived.Test.YtlndkmejmolnhaaPh3
import Derived.Laws.StructEq
namespace Go.Proofs.Ytlndkmejmolnhaa
open Go.RowKit Go.Maps

theorem eqR (a b c d : Int) (w : World) : (binOp .eql 24 (.agg #[.int .i64 a, .int .u32 b]) (.agg #[.int .i64 c, .int .u32 d])).run Try.prog w = .ok (.bool (a == c && b == d)) w := by
  have hS : Try.prog.underlying 24 = some (.struct (Try.prog.fieldsOf 24)) := by kernel_rfl
  have hp : Try.prog.stoodInHeld 24 = false := by kernel_rfl
  have u3 := Try.underlying3
  have a3 := Try.isAgg3
  have z3 := Try.sizeOf3
  have uu := Try.underlying22
  have au := Try.isAgg22
  have zu := Try.sizeOf22
  rw [run_eql_struct, show (10000 : Nat) = 9999 + 1 from rfl, run_equalIn_agg w 9999 24 _ _ hS hp]
  simp only [Program.fieldsOf, Try.underlying24]
  go_simp
  by_cases h1 : a = c <;> by_cases h2 : b = d <;> simp [h1, h2]
theorem neR (a b c d : Int) (w : World) : (binOp .neq 24 (.agg #[.int .i64 a, .int .u32 b]) (.agg #[.int .i64 c, .int .u32 d])).run Try.prog w = .ok (.bool (!(a == c && b == d))) w := by
  have h := eqR a b c d w
  rw [run_eql_struct] at h
  rw [run_neq_struct]
  cases hr : (Op.equalIn 10000 24 (.agg #[.int .i64 a, .int .u32 b]) (.agg #[.int .i64 c, .int .u32 d])).run Try.prog w with
  | ok r w1 =>
    rw [hr] at h
    simp [Result.andThen] at h ⊢
    rw [← h.1, ← h.2]
    simp
  | halt x w1 =>
    rw [hr] at h
    simp [Result.andThen] at h
theorem gdR : Try.prog.eqGuardType Try.prog.depth 24 = false := by kernel_rfl

def AddPost (b m n : Nat) (s : Pt) (id : Int) (r : Rf) (w : World) (e : Ending) (w' : World) : Prop := e = .returned (.int .i64 (s.addE id r)) ∧ PtAt w' b m n (s.addS id r) ∧ Upd [m, n] w w'
theorem padd {b m n : Nat} {s : Pt} {w : World} (h : PtAt w b m n s) (id : Int) (r : Rf) (hw : refWf r) :
    Calls Try.prog 12 #[.pointer (some ⟨b, 0, none⟩), .int .i64 id, .agg #[.int .i64 r.1, .int .u32 r.2]] w (AddPost b m n s id r w) := by
  have ho := h.ok
  unfold AddPost Pt.addS
  by_cases hid : 0 ≤ id ∧ id < s.size
  · obtain ⟨i, rfl⟩ := Int.eq_ofNat_of_zero_le hid.1
    have hi : i < s.size := by omega
    by_cases hg : goodR r
    · by_cases hh : (s.ofI i).isSome ∨ (s.byI r).isSome
      · have e : s.addE i r = 6 := by unfold Pt.addE; rw [if_pos hid, if_pos hg, if_pos hh]
        rw [e, if_neg (by omega)]
        rw [ofI_nat ho] at hh
        exact (padd_have h i r hi hg hh).mono fun _ _ ⟨h1, u⟩ => ⟨h1, h.upd0 u, u.nil⟩
      · have e : s.addE i r = 0 := by unfold Pt.addE; rw [if_pos hid, if_pos hg, if_neg hh]
        rw [e, if_pos rfl]
        rw [ofI_nat ho] at hh
        have h1 : s.g i = none := by cases hx : s.g i <;> simp [hx] at hh ⊢
        have h2 : s.byI r = none := by cases hx : s.byI r <;> simp [hx] at hh ⊢
        exact padd_new h i r hi hg h1 h2
    · have e : s.addE i r = 2 := by unfold Pt.addE; rw [if_pos hid, if_neg hg]
      rw [e, if_neg (by omega)]
      exact (padd_bad h i r hw hid hg).mono fun _ _ ⟨h1, u⟩ => ⟨h1, h.upd0 u, u.nil⟩
  · have e : s.addE id r = 3 := by unfold Pt.addE; rw [if_neg hid]
    rw [e, if_neg (by omega)]
    exact (padd_range h id r hid).mono fun _ _ ⟨h1, u⟩ => ⟨h1, h.upd0 u, u.nil⟩
theorem pclr {b m n : Nat} {s : Pt} {w : World} (h : PtAt w b m n s) (id : Int) :
    Calls Try.prog 9 #[.pointer (some ⟨b, 0, none⟩), .int .i64 id] w fun e w' => e = .returned (.tuple #[.agg #[.int .i64 (s.clrR id).1, .int .u32 (s.clrR id).2], .int .i64 (s.clrE id)]) ∧ PtAt w' b m n (s.clrS id) ∧ Upd [m, n] w w' := by
  have ho := h.ok
  unfold Pt.clrR Pt.clrE Pt.clrS
  by_cases hid : 0 ≤ id ∧ id < s.size
  · obtain ⟨i, rfl⟩ := Int.eq_ofNat_of_zero_le hid.1
    have hi : i < s.size := by omega
    rw [if_pos hid, ofI_nat ho]
    cases hg : s.g i with
    | none => exact (pclr_none h i hi hg).mono fun _ _ ⟨h1, u⟩ => ⟨h1, h.upd0 u, u.nil⟩
    | some r => exact pclr_some h i r hi hg
  · rw [if_neg hid, show s.ofI id = none from by unfold Pt.ofI; rw [if_neg hid]]
    exact (pclr_range h id hid).mono fun _ _ ⟨h1, u⟩ => ⟨h1, h.upd0 u, u.nil⟩

end Go.Proofs.Ytlndkmejmolnhaa
