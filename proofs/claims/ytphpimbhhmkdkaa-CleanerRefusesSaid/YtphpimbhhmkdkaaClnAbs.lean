/-
  Contracts at an id that has no cleaner: beyond, or not armed. Conditions: none.
-/
import Derived.Test.YtphpimbhhmkdkaaClnGet
import Derived.Deep.QuietTactic
namespace Go.Proofs.Ytphpimbhhmkdkaa
open Go.RowKit Go.Maps

/-- An id that is refused with the error e. -/
def Ref (f : Nat → Nat) (id e : Int) : Prop := ((id < 0 ∨ 256 ≤ id) ∧ e = 3) ∨ (∃ i : Nat, id = i ∧ i < 256 ∧ f i = 0 ∧ e = 5)
theorem findE_0 {f : Nat → Nat} {i : Nat} (h : f i = 0) : findE f i = 5 := by rw [findE, if_pos h]
theorem fire_ref (b m : Nat) (f : Nat → Nat) (id e : Int) (w : World) (h : ClAt w b m f) (r : Ref f id e) :
    Calls Try.prog 18 #[.pointer (some ⟨b, 0, none⟩), .int .i64 id] w fun x w' => x = .returned (.tuple #[.bool false, .int .i64 e]) ∧ w = w' := by
  rcases r with ⟨hi, rfl⟩ | ⟨i, rfl, hi, hf, rfl⟩
  · exact fire_beyond b m f id w h hi
  · have := fire_not b m f i w h hi (by omega)
    rw [findE_0 hf] at this
    exact this
theorem cancel_ref (b m : Nat) (f : Nat → Nat) (id e : Int) (w : World) (h : ClAt w b m f) (r : Ref f id e) :
    Calls Try.prog 19 #[.pointer (some ⟨b, 0, none⟩), .int .i64 id] w fun x w' => x = .returned (.tuple #[.bool false, .int .i64 e]) ∧ w = w' := by
  rcases r with ⟨hi, rfl⟩ | ⟨i, rfl, hi, hf, rfl⟩
  · exact cancel_beyond b m f id w h hi
  · have := cancel_not b m f i w h hi (by omega)
    rw [findE_0 hf] at this
    exact this
theorem get_ref (b m : Nat) (f : Nat → Nat) (id e : Int) (w : World) (h : ClAt w b m f) (r : Ref f id e) :
    Calls Try.prog 12 #[.pointer (some ⟨b, 0, none⟩), .int .i64 id] w fun x w' => x = .returned (.tuple #[.agg #[.int .i64 0, .int .i64 0], .int .i64 e]) ∧ Upd [] w w' := by
  rcases r with ⟨hi, rfl⟩ | ⟨i, rfl, hi, hf, rfl⟩
  · exact get_beyond b m f id w h hi
  · exact get_none b m f i w h hi hf
theorem forget_ref (b m : Nat) (f : Nat → Nat) (id e : Int) (w : World) (h : ClAt w b m f) (r : Ref f id e) :
    Calls Try.prog 17 #[.pointer (some ⟨b, 0, none⟩), .int .i64 id] w fun x w' => x = .returned (.int .i64 e) ∧ w = w' := by
  rcases r with ⟨hi, rfl⟩ | ⟨i, rfl, hi, hf, rfl⟩
  · exact forget_beyond b m f id w h hi
  · exact forget_none b m f i w h hi hf

/-- In a region that draws its order: the calls that change nothing. -/
theorem forget_q {b m : Nat} {f : Nat → Nat} {id e : Int} {v w : World} {n : Nat} (h : ClAt v b m f) (u : Upd [] v w) (r : Ref f id e) :
    Calls Try.prog 17 #[.pointer (some ⟨b, 0, none⟩), .int .i64 id] (w.drewN n) fun x w'' => x = .returned (.int .i64 e) ∧ ∃ k, w'' = w.drewN k :=
  (forget_ref b m f id e _ (h.upd (u.drewN n) (by simp) (by simp)) r).mono fun _ _ ⟨h1, h2⟩ => ⟨h1, n, h2.symm⟩
theorem arm_q {b m : Nat} {f : Nat → Nat} {id : Int} {v w : World} {n : Nat} (h : ClAt v b m f) (u : Upd [] v w) (r : id < 0 ∨ 256 ≤ id) :
    Calls Try.prog 16 #[.pointer (some ⟨b, 0, none⟩), .int .i64 id] (w.drewN n) fun x w'' => x = .returned (.int .i64 3) ∧ ∃ k, w'' = w.drewN k :=
  (arm_beyond b m f id _ (h.upd (u.drewN n) (by simp) (by simp)) r).mono fun _ _ ⟨h1, h2⟩ => ⟨h1, n, h2.symm⟩
theorem wf_u16 {u : Int} (h : (Lit.int .u16 u).wf = true) : 0 ≤ u ∧ u < 65536 := by
  have := bounds_u16 h; omega

end Go.Proofs.Ytphpimbhhmkdkaa
