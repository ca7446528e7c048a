/-
  Small laws on worlds that all walks of this seat share: what a call may have written ('Upd'), and cells of a block that is known whole. Conditions: none.
-/
import Derived.WalkKit
import Derived.WalkSpells
import Derived.WalkLawsBesides
import Derived.Lib.Hide
import Derived.Deep.QuietTactic
import Derived.BigQuiet
import Derived.OpenShut
namespace Go.Proofs.Ytlndkmejmolnhaa
open Go.RowKit

/-- From w to w' no block of w has been written but those in S; the streams are as they were. -/
structure Upd (S : List Nat) (w w' : World) : Prop where
  os : w'.os = w.os
  tape : w'.tape = w.tape
  output : w'.output = w.output
  size : w.heap.size ≤ w'.heap.size
  block : ∀ k, k < w.heap.size → k ∉ S → w'.heap[k]? = w.heap[k]?

theorem Upd.refl (S : List Nat) (w : World) : Upd S w w := ⟨rfl, rfl, rfl, Nat.le_refl _, fun _ _ _ => rfl⟩
theorem Upd.trans {S : List Nat} {a b c : World} (h : Upd S a b) (k : Upd S b c) : Upd S a c :=
  ⟨k.os.trans h.os, k.tape.trans h.tape, k.output.trans h.output, Nat.le_trans h.size k.size,
    fun i hi hn => (k.block i (Nat.lt_of_lt_of_le hi h.size) hn).trans (h.block i hi hn)⟩
theorem Upd.mono {S T : List Nat} {a b : World} (h : Upd S a b) (hs : ∀ k, k ∈ S → k ∈ T) : Upd T a b :=
  ⟨h.os, h.tape, h.output, h.size, fun k hk hn => h.block k hk (fun hm => hn (hs k hm))⟩
theorem Upd.nil {S : List Nat} {a b : World} (h : Upd [] a b) : Upd S a b := h.mono (by simp)
theorem Upd.drew {S : List Nat} {a w : World} (h : Upd S a w) : Upd S a w.drew := ⟨h.os, h.tape, h.output, h.size, h.block⟩
theorem Upd.drewN {S : List Nat} {a w : World} (h : Upd S a w) (n : Nat) : Upd S a (w.drewN n) := ⟨h.os, h.tape, h.output, h.size, h.block⟩
theorem Upd.alloc {S : List Nat} {a w : World} (h : Upd S a w) (o : Obj) : Upd S a (w.alloc o) :=
  h.trans ⟨rfl, rfl, rfl, by simp, fun k hk _ => Below.heap_alloc _ _ _ hk⟩
theorem Upd.setCell {S : List Nat} {a w : World} (h : Upd S a w) {p : Addr} (hp : p.block ∈ S) (u : Value) : Upd S a (w.setCell p u) :=
  h.trans ⟨rfl, rfl, rfl, by simp, fun k _ hn => Below.heap_setCell _ _ _ _ (fun e => hn (e ▸ hp))⟩
/-- A store into a block that was not there when the count began. -/
theorem Upd.setNew {S : List Nat} {a w : World} (h : Upd S a w) {p : Addr} (hp : a.heap.size ≤ p.block) (u : Value) : Upd S a (w.setCell p u) :=
  ⟨h.os, h.tape, h.output, by simpa using h.size, fun k hk hn => by rw [Below.heap_setCell _ _ _ _ (by omega)]; exact h.block k hk hn⟩
theorem Upd.setRow {S : List Nat} {a w : World} (h : Upd S a w) {g : Nat} (hp : a.heap.size ≤ g) (cs : Array Value) : Upd S a (w.setRow g cs) :=
  ⟨h.os, h.tape, h.output, by simpa using h.size, fun k hk hn => by rw [setRow_other _ _ _ _ (by omega)]; exact h.block k hk hn⟩
/-- What a step wrote was new already when the count began. -/
theorem Upd.after {S T : List Nat} {a b c : World} (h : Upd S a b) (k : Upd T b c) (hT : ∀ x, x ∈ T → a.heap.size ≤ x ∨ x ∈ S) : Upd S a c :=
  ⟨k.os.trans h.os, k.tape.trans h.tape, k.output.trans h.output, Nat.le_trans h.size k.size,
    fun i hi hn => (k.block i (Nat.lt_of_lt_of_le hi h.size) (fun hm => by rcases hT i hm with h' | h'; omega; exact hn h')).trans (h.block i hi hn)⟩
theorem Upd.fresh1 {a b c : World} {k : Nat} (h : Upd [] a b) (g : Upd [k] b c) (hk : a.heap.size ≤ k) : Upd [] a c :=
  h.after g (fun x hx => by simp at hx; subst hx; exact .inl hk)
theorem Upd.below {a b : World} (h : Upd [] a b) : Below a.heap.size a b :=
  ⟨h.os, h.tape, h.output, h.size, fun k hk => h.block k hk (by simp)⟩
theorem Upd.ofBelow {a b : World} (h : Below a.heap.size a b) : Upd [] a b :=
  ⟨h.os, h.tape, h.output, h.size, fun k hk _ => h.block k hk⟩
theorem Upd.ofGrown {a b : World} {row : Option Nat} (h : a.grownBy b row) (hr : ∀ k, row = some k → a.heap.size ≤ k) : Upd [] a b :=
  ⟨h.os, h.tape, h.output, h.size, fun k hk _ => h.block k hk (fun e => by have := hr k e.symm; omega)⟩
/-- A block that a step did not write is as it was. -/
theorem Upd.keep {S : List Nat} {a b : World} (h : Upd S a b) {k : Nat} {o : Obj} (hk : a.heap[k]? = some o) (hn : k ∉ S) : b.heap[k]? = some o := by
  rw [h.block k (lt_of_block hk) hn]; exact hk
theorem Upd.cell {S : List Nat} {a b : World} (h : Upd S a b) {p : Addr} (hp : p.block < a.heap.size) (hn : p.block ∉ S) : b.cell? p = a.cell? p :=
  World.cell?_of_block (w := a) (h.block p.block hp hn)

/-- A block known whole: its cells; that it may be written. -/
theorem cell_of {w : World} {b : Nat} {c : Array Value} {t : TypeId} {f : Nat × Nat} (h : w.heap[b]? = some (.cells c t f)) (i : Nat) : w.cell? ⟨b, i, none⟩ = c[i]? := by
  simp [World.cell?, h]
theorem free_of {w : World} {b : Nat} {c : Array Value} {t : TypeId} (h : w.heap[b]? = some (.cells c t (0, 0))) (i : Nat) : w.frozen? ⟨b, i, none⟩ = false := by
  simp [World.frozen?, h]
theorem set_of {w : World} {b : Nat} {c : Array Value} {t : TypeId} {f : Nat × Nat} (h : w.heap[b]? = some (.cells c t f)) (i : Nat) (v : Value) :
    (w.setCell ⟨b, i, none⟩ v).heap[b]? = some (.cells (c.setIfInBounds i v) t f) := by
  simp [World.setCell, Array.getElem?_modify, h]
theorem drew_of {w : World} {b : Nat} {o : Obj} (h : w.heap[b]? = some o) : w.drew.heap[b]? = some o := h
theorem drewN_of {w : World} {b : Nat} {o : Obj} (h : w.heap[b]? = some o) (n : Nat) : (w.drewN n).heap[b]? = some o := h
theorem alloc_of {w : World} {b : Nat} {o p : Obj} (h : w.heap[b]? = some o) : (w.alloc p).heap[b]? = some o := by
  rw [Below.heap_alloc _ _ _ (lt_of_block h)]; exact h
theorem new_of (w : World) (o : Obj) : (w.alloc o).heap[w.heap.size]? = some o := by
  show (w.heap.push o)[w.heap.size]? = some o
  simp

/-- The integers of a slice that came in: its elements read as 'us'. -/
def Bytes (k : IntKind) (w : World) (v : Value) (us : List Int) : Prop :=
  ∃ a cap, v = .slice a us.length cap ∧ us.length ≤ cap ∧ cap ≤ maxLen ∧ (∀ u ∈ us, (Lit.int k u).wf = true) ∧ (a = none → cap = 0) ∧
    (us = [] ∨ ∃ b off, a = some ⟨b, off, none⟩ ∧ b < w.heap.size ∧ ∀ i u, us[i]? = some u → w.cell? ⟨b, off + i, none⟩ = some (.int k u))

/-- What the frame of a claim knows of such a slice. -/
def IsRow (k : IntKind) (w : World) (a : Option Addr) (len cap : Nat) (zs : List Int) : Prop :=
  (a = none ∧ len = 0 ∧ cap = 0 ∧ zs = []) ∨
  ∃ x, a = some x ∧ len ≤ cap ∧ cap ≤ maxLen ∧ zs.length = cap ∧ (∀ i, i < zs.length → w.cell? (x.add i) = some (.int k (zs.getD i 0))) ∧ ∀ n ∈ zs, (Lit.int k n).wf = true

theorem bytes_of {k : IntKind} {w : World} {a : Option Addr} {len cap : Nat} {zs : List Int} (h : IsRow k w a len cap zs) : Bytes k w (.slice a len cap) (zs.take len) := by
  rcases h with ⟨rfl, rfl, rfl, rfl⟩ | ⟨x, rfl, h1, h2, h3, h4, h5⟩
  · exact ⟨none, 0, rfl, by simp, by simp, by simp, by simp, .inl rfl⟩
  · have hl : (zs.take len).length = len := by simp; omega
    refine ⟨some x, cap, by rw [hl], by rw [hl]; exact h1, h2, fun u hu => h5 u (List.mem_of_mem_take hu), by simp, ?_⟩
    by_cases h0 : len = 0
    · left; simp [h0]
    · right
      obtain ⟨b, off, spot⟩ := x
      have hc := h4 0 (by omega)
      have hspot : spot = none := by simpa [Addr.add] using World.cell?_spot hc
      subst hspot
      have hadd : ∀ i, (⟨b, off, none⟩ : Addr).add i = ⟨b, off + i, none⟩ := fun i => by unfold Addr.add; split <;> simp_all
      refine ⟨b, off, rfl, ?_, ?_⟩
      · have := World.block_lt_of_cell? w _ hc; rw [hadd] at this; exact this
      · intro i u hu
        rw [List.getElem?_take] at hu
        split at hu
        · have := h4 i (by omega)
          rw [hadd] at this
          rw [this, List.getD_eq_getElem?_getD, hu]; rfl
        · cases hu

theorem Bytes.take {k : IntKind} {w : World} {a : Option Addr} {cap : Nat} {us : List Int} (h : Bytes k w (.slice a us.length cap) us) {i : Nat} (hi : i ≤ us.length) :
    Bytes k w (.slice a i cap) (us.take i) := by
  obtain ⟨a', cap', he, h1, h2, h3, h4, h5⟩ := h
  simp at he
  obtain ⟨rfl, rfl⟩ := he
  have hl : (us.take i).length = i := by simp; omega
  refine ⟨a, cap, by rw [hl], by omega, h2, fun u hu => h3 u (List.mem_of_mem_take hu), h4, ?_⟩
  rcases h5 with h5 | ⟨b, off, ha, hb, hc⟩
  · left; simp [h5]
  · right
    refine ⟨b, off, ha, hb, fun j u hu => hc j u ?_⟩
    rw [List.getElem?_take] at hu
    split at hu
    · exact hu
    · cases hu
theorem Bytes.upd {k : IntKind} {w w' : World} {v : Value} {us : List Int} (h : Bytes k w v us) {S : List Nat} (u : Upd S w w') (hS : ∀ x, x ∈ S → w.heap.size ≤ x) : Bytes k w' v us := by
  obtain ⟨a, cap, he, h1, h2, h3, h4, h5⟩ := h
  refine ⟨a, cap, he, h1, h2, h3, h4, ?_⟩
  rcases h5 with h5 | ⟨b, off, ha, hb, hc⟩
  · exact .inl h5
  · exact .inr ⟨b, off, ha, Nat.lt_of_lt_of_le hb u.size, fun j x hx => by rw [u.cell (by exact hb) (fun hm => by have := hS _ hm; simp at this; omega)]; exact hc j x hx⟩
/-- The element at an index: the slice is not nil, and the cell reads it. -/
theorem Bytes.at {k : IntKind} {w : World} {a : Option Addr} {n cap : Nat} {us : List Int} (h : Bytes k w (.slice a n cap) us) {i : Nat} (hi : i < us.length) :
    ∃ b off, a = some ⟨b, off, none⟩ ∧ b < w.heap.size ∧ w.cell? ⟨b, off + i, none⟩ = some (.int k us[i]) ∧ (Lit.int k us[i]).wf = true := by
  obtain ⟨a', cap', he, h1, h2, h3, h4, h5⟩ := h
  simp at he
  obtain ⟨rfl, rfl, rfl⟩ := he
  rcases h5 with rfl | ⟨b, off, ha, hb, hc⟩
  · simp at hi
  · exact ⟨b, off, ha, hb, hc i _ (List.getElem?_eq_getElem hi), h3 _ (List.getElem_mem hi)⟩

theorem ownsRow_slice {w : World} {base : Nat} {e : TypeId} {size : Nat} {v : Value} {n : Nat} {xs : List Value} (h : w.ownsRow base e size v n xs) :
    ∃ a c, v = .slice a n c := by
  rcases h.2 with ⟨rfl, rfl⟩ | ⟨g, cap, _, rfl, _⟩
  · exact ⟨_, _, rfl⟩
  · exact ⟨_, _, rfl⟩

theorem Upd.grown {S : List Nat} {a w w' : World} {row : Option Nat} (h : Upd S a w) (hg : w.grownBy w' row) (hr : ∀ k, row = some k → a.heap.size ≤ k) : Upd S a w' :=
  ⟨hg.os.trans h.os, hg.tape.trans h.tape, hg.output.trans h.output, Nat.le_trans h.size hg.size,
    fun k hk hn => (hg.block k (Nat.lt_of_lt_of_le hk h.size) (fun e => by have := hr k e.symm; omega)).trans (h.block k hk hn)⟩
theorem grown_keep {w w' : World} {row : Option Nat} (hg : w.grownBy w' row) {k : Nat} {o : Obj} (hk : w.heap[k]? = some o) (hn : row ≠ some k) : w'.heap[k]? = some o := by
  rw [hg.block k (lt_of_block hk) (fun e => hn e.symm)]; exact hk
/-- An owned row stays owned while other blocks are written. -/
theorem owns_upd {S : List Nat} {w w' : World} {base : Nat} {e : TypeId} {size : Nat} {v : Value} {n : Nat} {xs : List Value} (h : w.ownsRow base e size v n xs) (u : Upd S w w')
    (hn : ∀ k, v.ownBlock = some k → k ∉ S) : w'.ownsRow base e size v n xs := by
  refine ⟨h.1, ?_⟩
  rcases h.2 with h2 | ⟨g, cap, cur, rfl, hb, hg, r⟩
  · exact .inl h2
  · exact .inr ⟨g, cap, cur, rfl, hb, u.keep hg (hn g rfl), r⟩
/-- A block of another element type is not the owned row's. -/
theorem owns_ne {w : World} {base : Nat} {e : TypeId} {size : Nat} {v : Value} {n : Nat} {xs : List Value} (h : w.ownsRow base e size v n xs) {b : Nat} {c : Array Value} {t : TypeId} {f : Nat × Nat}
    (hb : w.heap[b]? = some (.cells c t f)) (ht : t ≠ e) : v.ownBlock ≠ some b := by
  intro hk
  rcases h.2 with ⟨rfl, _⟩ | ⟨g, cap, cur, rfl, _, hg, _⟩
  · simp [Value.ownBlock] at hk
  · simp [Value.ownBlock] at hk
    subst hk
    rw [hb] at hg
    simp at hg
    exact ht hg.2.1

theorem wf_u8 {u : Int} (h : (Lit.int .u8 u).wf = true) : 0 ≤ u ∧ u < 256 := by
  have := bounds_u8 h; omega

end Go.Proofs.Ytlndkmejmolnhaa
