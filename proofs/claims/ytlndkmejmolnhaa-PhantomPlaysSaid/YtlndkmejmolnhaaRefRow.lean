/-
  Rows of objects in memory. Conditions: sizes.
-/
import Derived.Test.YtlndkmejmolnhaaPhKit
import Derived.Test.YtlndkmejmolnhaaRow
import Derived.Test.YtlndkmejmolnhaaApp
namespace Go.Proofs.Ytlndkmejmolnhaa
open Go.RowKit Go.Maps

/-- The cells of a row of objects. -/
def rcell (f : Nat → Rf) (j : Nat) : Value := if j % 2 = 0 then .int .i64 (f (j / 2)).1 else .int .u32 (f (j / 2)).2
theorem rcell0 (f : Nat → Rf) (i : Nat) : rcell f (i * 2) = .int .i64 (f i).1 := by
  unfold rcell; rw [if_pos (by omega), show i * 2 / 2 = i by omega]
theorem rcell1 (f : Nat → Rf) (i : Nat) : rcell f (i * 2 + 1) = .int .u32 (f i).2 := by
  unfold rcell; rw [if_neg (by omega), show (i * 2 + 1) / 2 = i by omega]
def setR (f : Nat → Rf) (i : Nat) (r : Rf) : Nat → Rf := fun j => if j = i then r else f j
theorem rcell_set (f : Nat → Rf) (i : Nat) (r : Rf) (j : Nat) : rcell (setR f i r) j = if j = i * 2 then .int .i64 r.1 else if j = i * 2 + 1 then .int .u32 r.2 else rcell f j := by
  by_cases e0 : j = i * 2
  · subst e0; rw [if_pos rfl, rcell0]; simp [setR]
  · rw [if_neg e0]
    by_cases e1 : j = i * 2 + 1
    · subst e1; rw [if_pos rfl, rcell1]; simp [setR]
    · rw [if_neg e1]
      have : j / 2 ≠ i := by omega
      unfold rcell setR
      simp only [if_neg this]
/-- n objects, from the beginning of a block. -/
def RefRow (w : World) (g n : Nat) (f : Nat → Rf) : Prop := ∃ cur, w.heap[g]? = some (.cells cur 24 (0, 0)) ∧ n * 2 ≤ cur.size ∧ ∀ j, j < n * 2 → cur[j]? = some (rcell f j)
theorem RefRow.lt {w : World} {g n : Nat} {f : Nat → Rf} (h : RefRow w g n f) : g < w.heap.size := by
  obtain ⟨_, h, _⟩ := h; exact lt_of_block h
theorem RefRow.blk {w : World} {g n : Nat} {f : Nat → Rf} (h : RefRow w g n f) : ∃ cur, w.heap[g]? = some (.cells cur 24 (0, 0)) := by
  obtain ⟨_, h, _⟩ := h; exact ⟨_, h⟩
theorem RefRow.upd {w w' : World} {g n : Nat} {f : Nat → Rf} (h : RefRow w g n f) {S : List Nat} (u : Upd S w w') (hn : g ∉ S) : RefRow w' g n f := by
  obtain ⟨c, h1, h2, h3⟩ := h; exact ⟨c, u.keep h1 hn, h2, h3⟩
theorem RefRow.cell0 {w : World} {g n : Nat} {f : Nat → Rf} (h : RefRow w g n f) {i : Nat} (hi : i < n) : w.cell? ⟨g, i * 2, none⟩ = some (.int .i64 (f i).1) := by
  obtain ⟨c, h1, h2, h3⟩ := h; rw [cell_of h1, h3 _ (by omega), rcell0]
theorem RefRow.cell1 {w : World} {g n : Nat} {f : Nat → Rf} (h : RefRow w g n f) {i : Nat} (hi : i < n) : w.cell? ⟨g, i * 2 + 1, none⟩ = some (.int .u32 (f i).2) := by
  obtain ⟨c, h1, h2, h3⟩ := h; rw [cell_of h1, h3 _ (by omega), rcell1]
theorem RefRow.free {w : World} {g n : Nat} {f : Nat → Rf} (h : RefRow w g n f) (i : Nat) : w.frozen? ⟨g, i, none⟩ = false := by
  obtain ⟨c, h1, h2, h3⟩ := h; exact free_of h1 i
theorem RefRow.set {w : World} {g n : Nat} {f : Nat → Rf} (h : RefRow w g n f) (i : Nat) (r : Rf) (hi : i < n) : RefRow ((w.setCell ⟨g, i * 2, none⟩ (.int .i64 r.1)).setCell ⟨g, i * 2 + 1, none⟩ (.int .u32 r.2)) g n (setR f i r) := by
  obtain ⟨c, h1, h2, h3⟩ := h
  refine ⟨_, set_of (set_of h1 (i * 2) _) (i * 2 + 1) _, by simpa using h2, fun j hj => ?_⟩
  rw [rcell_set, Array.getElem?_setIfInBounds, Array.getElem?_setIfInBounds]
  simp only [Array.size_setIfInBounds]
  by_cases e1 : i * 2 + 1 = j
  · subst e1; rw [if_pos rfl, if_pos (by omega), if_neg (by omega), if_pos rfl]
  · rw [if_neg e1]
    by_cases e0 : i * 2 = j
    · subst e0; rw [if_pos rfl, if_pos (by omega), if_pos rfl]
    · rw [if_neg e0, h3 j hj, if_neg (fun h => e0 h.symm), if_neg (fun h => e1 h.symm)]
theorem RefRow.congr {w : World} {g n : Nat} {f f' : Nat → Rf} (h : RefRow w g n f) (e : ∀ i, i < n → f i = f' i) : RefRow w g n f' := by
  obtain ⟨c, h1, h2, h3⟩ := h
  refine ⟨c, h1, h2, fun j hj => ?_⟩
  rw [h3 j hj]
  unfold rcell
  rw [e (j / 2) (by omega)]
/-- As a slice, for append. -/
def rcells (f : Nat → Rf) (n : Nat) : List Value := (List.range (n * 2)).map (rcell f)
theorem RefRow.sl {w : World} {g n c : Nat} {f : Nat → Rf} (h : RefRow w g n f) (h1 : n ≤ c) (h2 : c ≤ maxLen) : SlAt w 24 2 (.slice (some ⟨g, 0, none⟩) n c) n (rcells f n) := by
  obtain ⟨cur, k1, k2, k3⟩ := h
  refine ⟨by simp [rcells], fun x hx => ?_, some ⟨g, 0, none⟩, c, rfl, h1, h2, by simp, .inr ⟨g, 0, cur, rfl, k1, by omega, fun i x hx => ?_⟩⟩
  · obtain ⟨j, _, rfl⟩ := List.mem_map.1 hx
    unfold rcell; split <;> rfl
  · have hi : i < n * 2 := by
      have := (List.getElem?_eq_some_iff.1 hx).1
      simpa [rcells] using this
    rw [Nat.zero_add, k3 i hi, ← hx]
    simp [rcells, hi]
theorem RefRow.ofOwn {w : World} {base n : Nat} {v : Value} {f : Nat → Rf} (h : w.ownsRow base 24 2 v n (rcells f n)) (hn : 0 < n) : ∃ g c, v = .slice (some ⟨g, 0, none⟩) n c ∧ n ≤ c ∧ c ≤ maxLen ∧ base ≤ g ∧ RefRow w g n f := by
  obtain ⟨hl, h2⟩ := h
  rcases h2 with ⟨-, h3⟩ | ⟨g, cap, cur, rfl, hb, hg, hnc, hc, hs, ht⟩
  · rw [h3] at hl; simp at hl; omega
  · refine ⟨g, cap, rfl, hnc, hc, hb, cur, hg, ?_, fun j hj => ?_⟩
    · rw [hs]; exact Nat.mul_le_mul_right _ hnc
    · have h5 : (rcells f n)[j]? = some (rcell f j) := by simp [rcells, hj]
      rw [← ht, List.getElem?_take, if_pos hj] at h5
      simpa using h5
theorem infoR : (Try.prog.info? 24).map (fun i => (i.zero, i.size, i.bytes)) = some (some (.agg #[.int .i64 0, .int .u32 0]), 2, 16) := by kernel_rfl
theorem made_r (n : Nat) : madeCells #[.int .i64 0, .int .u32 0] (n * 2) = vcells (rcell (fun _ => (0, 0))) (n * 2) := by
  unfold madeCells vcells
  congr 1
  funext i
  unfold rcell
  have h2 : i % 2 = 0 ∨ i % 2 = 1 := by omega
  rcases h2 with h2 | h2 <;> simp [h2]
theorem makeR (n : Nat) (hn : n ≤ 256) (w : World) : (Instr.makeSlice 71 (.int .i64 (n : Int)) (.int .i64 (n : Int))).run Try.prog w = .ok (.slice (some ⟨w.heap.size, 0, none⟩) n n) (w.alloc (.cells (vcells (rcell (fun _ => (0, 0))) (n * 2)) 24)) := by
  obtain ⟨i0, hi, hz0, hz1, hz2⟩ := info_parts infoR
  have hbn : (i0.bytes : Int) * (n : Int) ≤ 281474976710656 := by rw [hz2]; omega
  have := run_make (P := Try.prog) w 71 24 i0 _ Try.underlying71 hi hz0 .i64 .i64 n n (by omega) (Int.le_refl _) hbn (by omega)
  rw [this, hz1]
  simp only [Int.toNat_natCast]
  rw [show (Value.agg #[.int .i64 0, .int .u32 0]).cells = #[.int .i64 0, .int .u32 0] from rfl, made_r]
theorem RefRow.new (w : World) (n : Nat) (f : Nat → Rf) : RefRow (w.alloc (.cells (vcells (rcell f) (n * 2)) 24)) w.heap.size n f :=
  ⟨_, new_of _ _, by rw [vcells_size]; exact Nat.le_refl _, fun _ hj => vcells_at _ hj⟩

end Go.Proofs.Ytlndkmejmolnhaa
