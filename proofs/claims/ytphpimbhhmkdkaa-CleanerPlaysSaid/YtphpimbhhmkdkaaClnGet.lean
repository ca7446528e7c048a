/-
  Get at any id that there is; what a move does to the number of cleaners. Conditions: none.
-/
import Derived.Test.YtphpimbhhmkdkaaClnDo
import Derived.Test.YtphpimbhhmkdkaaArgs
namespace Go.Proofs.Ytphpimbhhmkdkaa
open Go.RowKit Go.Maps Go.Deep

/-- The id that Get shows. -/
def gI (f : Nat → Nat) (i : Nat) : Int := if f i = 0 then 0 else i
theorem gI_bounds (f : Nat → Nat) {i : Nat} (h : i < 256) : 0 ≤ gI f i ∧ gI f i < 256 := by unfold gI; split <;> omega
theorem findE_bounds (f : Nat → Nat) (i : Nat) : 0 ≤ findE f i ∧ findE f i < 256 := by unfold findE; split <;> omega
theorem get_at (b m : Nat) (f : Nat → Nat) (i : Nat) (w : World) (h : ClAt w b m f) (hi : i < 256) :
    Calls Try.prog 12 #[.pointer (some ⟨b, 0, none⟩), .int .i64 i] w fun e w' => e = .returned (.tuple #[.agg #[.int .i64 (gI f i), .int .i64 (f i)], .int .i64 (findE f i)]) ∧ Upd [] w w' := by
  by_cases hf : f i = 0
  · rw [gI, if_pos hf, findE, if_pos hf, hf]
    exact get_none b m f i w h hi hf
  · rw [gI, if_neg hf, findE, if_neg hf]
    exact get_in b m f i w h hi hf

theorem card_dist (f : Nat → Nat) {i : Nat} (v : Nat) (hi : i < 256) : card (upd f i v) ≤ card f + 1 ∧ card f ≤ card (upd f i v) + 1 := by
  have := card_upd f v hi
  constructor
  · split at this <;> split at this <;> omega
  · split at this <;> split at this <;> omega
theorem doS_dist (f : Nat → Nat) (k : Int) {i : Nat} (hi : i < 256) : card (doS f k i) ≤ card f + 1 ∧ card f ≤ card (doS f k i) + 1 := by
  unfold doS
  split
  · split
    · exact card_dist f _ hi
    · omega
  · split
    · split
      · exact card_dist f _ hi
      · omega
    · split
      · split
        · exact card_dist f _ hi
        · omega
      · split
        · exact card_dist f _ hi
        · omega
theorem doS_other (f : Nat → Nat) (k : Int) {i j : Nat} (h : j ≠ i) : doS f k i j = f j := by
  unfold doS
  split
  · split
    · exact upd_other f _ h
    · rfl
  · split
    · split
      · exact upd_other f _ h
      · rfl
    · split
      · split
        · exact upd_other f _ h
        · rfl
      · split
        · exact upd_other f _ h
        · rfl
theorem card_le (f : Nat → Nat) : card f ≤ 256 := cntP_le _ _

end Go.Proofs.Ytphpimbhhmkdkaa
