/-
  Rows that the call made itself: a block whose cells are a function of the index; make; all of the first few. Conditions: none.
-/
import Derived.Test.YtlndkmejmolnhaaBase
import Derived.Laws.MakeOwn
namespace Go.Proofs.Ytlndkmejmolnhaa
open Go.RowKit

/-- Cells by a function. -/
def vcells (f : Nat → Value) (n : Nat) : Array Value := (Array.range n).map f
theorem vcells_size (f : Nat → Value) (n : Nat) : (vcells f n).size = n := by simp [vcells]
theorem vcells_at (f : Nat → Value) {n i : Nat} (h : i < n) : (vcells f n)[i]? = some (f i) := by simp [vcells, h]
theorem vcells_out (f : Nat → Value) {n i : Nat} (h : n ≤ i) : (vcells f n)[i]? = none := Array.getElem?_eq_none (by rw [vcells_size]; exact h)
theorem vcells_congr {f g : Nat → Value} {n : Nat} (h : ∀ i, i < n → f i = g i) : vcells f n = vcells g n := by
  apply Array.ext_getElem?
  intro i
  by_cases hi : i < n
  · rw [vcells_at f hi, vcells_at g hi, h i hi]
  · rw [vcells_out f (by omega), vcells_out g (by omega)]
theorem vcells_set (f : Nat → Value) (n i : Nat) (v : Value) : (vcells f n).setIfInBounds i v = vcells (fun j => if j = i then v else f j) n := by
  apply Array.ext_getElem?
  intro j
  rw [Array.getElem?_setIfInBounds, vcells_size]
  by_cases hj : j < n
  · rw [vcells_at _ hj, vcells_at _ hj]
    by_cases e : i = j
    · subst e; rw [if_pos rfl, if_pos hj, if_pos rfl]
    · rw [if_neg e, if_neg (fun h : j = i => e h.symm)]
  · rw [vcells_out _ (by omega), vcells_out _ (by omega)]
    by_cases e : i = j
    · subst e; rw [if_pos rfl, if_neg hj]
    · rw [if_neg e]
def VRow (w : World) (g t n : Nat) (f : Nat → Value) : Prop := w.heap[g]? = some (.cells (vcells f n) t (0, 0))
theorem VRow.lt {w : World} {g t n : Nat} {f : Nat → Value} (h : VRow w g t n f) : g < w.heap.size := lt_of_block h
theorem VRow.cell {w : World} {g t n : Nat} {f : Nat → Value} (h : VRow w g t n f) {i : Nat} (hi : i < n) : w.cell? ⟨g, i, none⟩ = some (f i) := (cell_of h i).trans (vcells_at f hi)
theorem VRow.free {w : World} {g t n : Nat} {f : Nat → Value} (h : VRow w g t n f) (i : Nat) : w.frozen? ⟨g, i, none⟩ = false := free_of h i
theorem VRow.upd {w w' : World} {g t n : Nat} {f : Nat → Value} (h : VRow w g t n f) {S : List Nat} (u : Upd S w w') (hn : g ∉ S) : VRow w' g t n f := u.keep h hn
theorem VRow.set {w : World} {g t n : Nat} {f : Nat → Value} (h : VRow w g t n f) (i : Nat) (v : Value) : VRow (w.setCell ⟨g, i, none⟩ v) g t n (fun j => if j = i then v else f j) := by
  unfold VRow; rw [set_of h, vcells_set]
theorem VRow.congr {w : World} {g t n : Nat} {f f' : Nat → Value} (h : VRow w g t n f) (e : ∀ i, i < n → f i = f' i) : VRow w g t n f' := by
  unfold VRow at h ⊢; rw [← vcells_congr e]; exact h
theorem VRow.new (w : World) (t n : Nat) (f : Nat → Value) : VRow (w.alloc (.cells (vcells f n) t)) w.heap.size t n f := new_of _ _
theorem made_v (z : Value) (n : Nat) : madeCells #[z] n = vcells (fun _ => z) n := by
  unfold madeCells vcells
  congr 1
  funext i
  simp [Nat.mod_one]
theorem make_v {P : Program} (t e : TypeId) (i : TypeInfo) (z : Value) (bytes n : Nat) (ht : P.underlying t = some (.slice e)) (hi : P.info? e = some i) (hz : i.zero = some z)
    (hs : i.size = 1) (hb : i.bytes = bytes) (hzc : z.cells = #[z]) (kl kc : IntKind) (h : bytes * n ≤ 1000000) (hn : n ≤ 1000000) (w : World) :
    (Instr.makeSlice t (.int kl (n : Int)) (.int kc (n : Int))).run P w = .ok (.slice (some ⟨w.heap.size, 0, none⟩) n n) (w.alloc (.cells (vcells (fun _ => z) n) e)) := by
  have hbn : (i.bytes : Int) * (n : Int) ≤ 281474976710656 := by
    have : ((i.bytes * n : Nat) : Int) ≤ 281474976710656 := by rw [hb]; omega
    rwa [Int.natCast_mul] at this
  have := run_make (P := P) w t e i z ht hi hz kl kc n n (by omega) (Int.le_refl _) hbn (by omega)
  rw [this, hs, hzc]
  simp only [Int.toNat_natCast, Nat.mul_one]
  rw [made_v]

/-- The first m places by one function, the others by another. -/
def half (f g : Nat → Value) (m j : Nat) : Value := if j < m then f j else g j
theorem half_at (f g : Nat → Value) (m : Nat) : half f g m m = g m := if_neg (by omega)
theorem half_zero (f g : Nat → Value) (j : Nat) : half f g 0 j = g j := if_neg (by omega)
theorem half_full {f g : Nat → Value} {n j : Nat} (h : j < n) : half f g n j = f j := if_pos h
theorem half_keep {f g : Nat → Value} {m : Nat} (h : f m = g m) (j : Nat) : half f g m j = half f g (m + 1) j := by
  unfold half
  by_cases e : j = m
  · subst e; rw [if_neg (by omega), if_pos (by omega), h]
  · by_cases l : j < m
    · rw [if_pos l, if_pos (by omega)]
    · rw [if_neg l, if_neg (by omega)]
theorem half_set {f g : Nat → Value} {m : Nat} {v : Value} (h : v = f m) (j : Nat) : (if j = m then v else half f g m j) = half f g (m + 1) j := by
  unfold half
  by_cases e : j = m
  · subst e; rw [if_pos rfl, if_pos (by omega), h]
  · rw [if_neg e]
    by_cases l : j < m
    · rw [if_pos l, if_pos (by omega)]
    · rw [if_neg l, if_neg (by omega)]

/-- All of the first few. -/
def allTo (s : Nat → Bool) : Nat → Bool
  | 0 => true
  | i + 1 => allTo s i && s i
theorem allTo_iff (s : Nat → Bool) (n : Nat) : allTo s n = true ↔ ∀ i, i < n → s i = true := by
  induction n with
  | zero => simp [allTo]
  | succ n ih =>
    rw [allTo, Bool.and_eq_true, ih]
    constructor
    · rintro ⟨h1, h2⟩ i hi
      by_cases e : i = n
      · subst e; exact h2
      · exact h1 i (by omega)
    · exact fun h => ⟨fun i hi => h i (by omega), h n (by omega)⟩
theorem allTo_congr {s t : Nat → Bool} {n : Nat} (h : ∀ i, i < n → s i = t i) : allTo s n = allTo t n := by
  induction n with
  | zero => rfl
  | succ n ih => rw [allTo, allTo, ih (fun i hi => h i (by omega)), h n (by omega)]

end Go.Proofs.Ytlndkmejmolnhaa
