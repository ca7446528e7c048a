/-
  Plain laws: how many ids have a state; a map's reading as a function. Conditions: none.
-/
import Derived.Test.YtlndkmejmolnhaaBase
import Derived.Maps.OwnSet
import Derived.Maps.RangeWalk
import Derived.Maps.Ext
namespace Go.Proofs.Ytlndkmejmolnhaa
open Go.RowKit Go.Maps

/-- How many of the ids below N answer yes. -/
def cntP (p : Nat → Bool) (N : Nat) : Nat := ((List.range N).filter p).length
theorem cntP_succ (p : Nat → Bool) (N : Nat) : cntP p (N + 1) = cntP p N + (if p N then 1 else 0) := by
  unfold cntP
  rw [List.range_succ, List.filter_append, List.length_append]
  by_cases h : p N <;> simp [h]
theorem cntP_congr {p q : Nat → Bool} : ∀ {N : Nat}, (∀ i, i < N → p i = q i) → cntP p N = cntP q N
  | 0, _ => rfl
  | N + 1, h => by rw [cntP_succ, cntP_succ, cntP_congr (fun i hi => h i (by omega)), h N (by omega)]
theorem cntP_le (p : Nat → Bool) (N : Nat) : cntP p N ≤ N := by
  unfold cntP
  have := List.length_filter_le p (List.range N)
  simpa using this
/-- One id's answer has turned. -/
theorem cntP_turn {p q : Nat → Bool} {i : Nat} : ∀ {N : Nat}, i < N → (∀ j, j < N → j ≠ i → q j = p j) → cntP q N + (if p i then 1 else 0) = cntP p N + (if q i then 1 else 0)
  | 0, h, _ => by omega
  | N + 1, h, hq => by
    rw [cntP_succ, cntP_succ]
    by_cases hi : i = N
    · subst hi
      rw [cntP_congr (p := q) (q := p) (fun j hj => hq j (by omega) (by omega))]
      omega
    · have := cntP_turn (p := p) (q := q) (i := i) (N := N) (by omega) (fun j hj hne => hq j (by omega) hne)
      rw [hq N (by omega) (fun e => hi e.symm)]
      omega

/-- The states of ids: 0: no cleaner. -/
def upd (f : Nat → Nat) (i v : Nat) : Nat → Nat := fun j => if j = i then v else f j
theorem upd_same (f : Nat → Nat) (i v : Nat) : upd f i v i = v := by simp [upd]
theorem upd_other (f : Nat → Nat) {i j : Nat} (v : Nat) (h : j ≠ i) : upd f i v j = f j := by simp [upd, h]
def cnt (f : Nat → Nat) (s : Nat) : Nat := cntP (fun i => decide (f i = s)) 256
def card (f : Nat → Nat) : Nat := cntP (fun i => decide (f i ≠ 0)) 256
theorem cnt_upd (f : Nat → Nat) {i : Nat} (v s : Nat) (hi : i < 256) : cnt (upd f i v) s + (if f i = s then 1 else 0) = cnt f s + (if v = s then 1 else 0) := by
  have := cntP_turn (p := fun i => decide (f i = s)) (q := fun j => decide (upd f i v j = s)) hi (fun j _ hne => by simp [upd_other f v hne])
  simpa [cnt, upd_same] using this
theorem card_upd (f : Nat → Nat) {i : Nat} (v : Nat) (hi : i < 256) : card (upd f i v) + (if f i = 0 then 0 else 1) = card f + (if v = 0 then 0 else 1) := by
  have := cntP_turn (p := fun i => decide (f i ≠ 0)) (q := fun j => decide (upd f i v j ≠ 0)) hi (fun j _ hne => by simp [upd_other f v hne])
  simpa [card, upd_same] using this
theorem card_parts (f : Nat → Nat) : ∀ N, (∀ i, i < N → f i ≤ 3) → cntP (fun i => decide (f i ≠ 0)) N = cntP (fun i => decide (f i = 1)) N + cntP (fun i => decide (f i = 2)) N + cntP (fun i => decide (f i = 3)) N
  | 0, _ => rfl
  | N + 1, h => by
    have ih := card_parts f N (fun i hi => h i (by omega))
    have hN := h N (by omega)
    rw [cntP_succ, cntP_succ, cntP_succ, cntP_succ, ih]
    have : f N = 0 ∨ f N = 1 ∨ f N = 2 ∨ f N = 3 := by omega
    rcases this with e | e | e | e <;> simp [e] <;> omega
theorem card_eq (f : Nat → Nat) (h : ∀ i, i < 256 → f i ≤ 3) : card f = cnt f 1 + cnt f 2 + cnt f 3 := card_parts f 256 h

/-- The datum D reads as the states f. -/
structure Reads (D : DataW Unit) (f : Nat → Nat) : Prop where
  isMap : IsMap D
  small : ∀ i, i < 256 → f i ≤ 3
  has : ∀ i : Nat, i < 256 → Maps.has D (.int .i64 i) = decide (f i ≠ 0)
  at_ : ∀ i : Nat, i < 256 → ∀ z, D.atKey (.int .i64 i) z = if f i = 0 then z else .lit (.int .i64 (f i))
  keys : ∀ kl, Maps.has D kl = true → ∃ i : Nat, i < 256 ∧ kl = .int .i64 i
  size : Maps.size D = card f

theorem reads_empty : Reads (.map []) (fun _ => 0) := by
  refine ⟨isMap_empty, fun _ _ => Nat.zero_le _, fun i _ => rfl, fun i _ z => rfl, fun kl h => by simp [Maps.has] at h, ?_⟩
  have : cntP (fun _ => decide ((0 : Nat) ≠ 0)) 256 = 0 := by unfold cntP; simp
  simpa [card, Maps.size] using this.symm
theorem lit_ne {i j : Nat} (h : i ≠ j) : (Lit.int .i64 (i : Int)) ≠ .int .i64 (j : Int) := by
  intro e
  simp at e
  omega
theorem Reads.put {D : DataW Unit} {f : Nat → Nat} (h : Reads D f) (ht : Tidy D) {i v : Nat} (hi : i < 256) (hv : v ≤ 3) (hv0 : v ≠ 0) : Reads (D.put (.int .i64 i) (.lit (.int .i64 v))) (upd f i v) := by
  have hk : WideAt.IsKeyLit (.int .i64 (i : Int)) := trivial
  refine ⟨h.isMap.put _ _, fun j hj => ?_, fun j hj => ?_, fun j hj z => ?_, fun kl hkl => ?_, ?_⟩
  · by_cases e : j = i
    · subst e; rw [upd_same]; exact hv
    · rw [upd_other f v e]; exact h.small j hj
  · by_cases e : j = i
    · subst e; rw [upd_same, has_put_same h.isMap hk]; simp [hv0]
    · rw [upd_other f v e, has_put_other (lit_ne e)]; exact h.has j hj
  · by_cases e : j = i
    · subst e; rw [upd_same, atKey_put_same h.isMap hk, if_neg hv0]
    · rw [upd_other f v e, atKey_put_other (lit_ne e)]; exact h.at_ j hj z
  · by_cases e : kl = .int .i64 i
    · exact ⟨i, hi, e⟩
    · rw [has_put_other e] at hkl; exact h.keys kl hkl
  · rw [size_put ht, h.size, h.has i hi]
    have := card_upd f v hi
    rw [if_neg hv0] at this
    by_cases e : f i = 0
    · simp [e] at this ⊢; omega
    · simp [e] at this ⊢; omega
theorem Reads.del {D : DataW Unit} {f : Nat → Nat} (h : Reads D f) (ht : Tidy D) {i : Nat} (hi : i < 256) : Reads (D.del (.int .i64 i)) (upd f i 0) := by
  refine ⟨h.isMap.del _, fun j hj => ?_, fun j hj => ?_, fun j hj z => ?_, fun kl hkl => ?_, ?_⟩
  · by_cases e : j = i
    · subst e; rw [upd_same]; omega
    · rw [upd_other f 0 e]; exact h.small j hj
  · by_cases e : j = i
    · subst e; rw [upd_same, has_del_same]; simp
    · rw [upd_other f 0 e, has_del_other (lit_ne e)]; exact h.has j hj
  · by_cases e : j = i
    · subst e; rw [upd_same, atKey_del_same, if_pos rfl]
    · rw [upd_other f 0 e, atKey_del_other (lit_ne e)]; exact h.at_ j hj z
  · by_cases e : kl = .int .i64 i
    · exact ⟨i, hi, e⟩
    · rw [has_del_other e] at hkl; exact h.keys kl hkl
  · have h1 := size_del (k := .int .i64 i) ht
    rw [h.size, h.has i hi] at h1
    have := card_upd f 0 hi
    by_cases e : f i = 0
    · simp [e] at this h1; omega
    · simp [e] at this h1; omega

theorem owns_tight {w : World} {P : Program} {k : TypeId} {R : Value → Option (DataW Unit × List MemPlace)} {b n : Nat} {D : DataW Unit} (h : w.ownsMap P k R b n D) {m : Nat} (hm : Maps.size D ≤ m) : w.ownsMap P k R b m D := by
  obtain ⟨es, clock, hb, F, hs, rfl⟩ := h
  have e1 : Maps.size (DataW.map ((es.toList.map (Go.WideElems.rg P k R)).foldr DataW.insert [])) = es.size := by simp [Maps.size, length_sorted]
  exact ⟨es, clock, hb, F, by omega, rfl⟩
theorem owns_upd_map {S : List Nat} {w w' : World} {P : Program} {k : TypeId} {R : Value → Option (DataW Unit × List MemPlace)} {b n : Nat} {D : DataW Unit} (h : w.ownsMap P k R b n D) (u : Upd S w w') (hn : b ∉ S) : w'.ownsMap P k R b n D := by
  obtain ⟨es, clock, hb, r⟩ := h
  exact ⟨es, clock, u.keep hb hn, r⟩
theorem Upd.turned {S : List Nat} {a w w' : World} {b : Nat} (h : Upd S a w) (t : w.mapTurned w' b) (hb : b ∈ S) : Upd S a w' :=
  h.trans ⟨t.grown.os, t.grown.tape, t.grown.output, t.grown.size, fun k hk hn => t.grown.block k hk (fun e => by simp at e; subst e; exact hn hb)⟩

/-- How many ids of a state are no longer to come. -/
def seen (f : Nat → Nat) (left : Lit → Bool) (s : Nat) : Nat := cntP (fun i => decide (f i = s) && !left (.int .i64 i)) 256
theorem seen_start (f : Nat → Nat) (left : Lit → Bool) (s : Nat) (h : ∀ i : Nat, i < 256 → f i ≠ 0 → left (.int .i64 i) = true) (hs : s ≠ 0) : seen f left s = 0 := by
  have : cntP (fun i => decide (f i = s) && !left (.int .i64 i)) 256 = cntP (fun _ => false) 256 := cntP_congr (fun i hi => by
    by_cases e : f i = s
    · rw [h i hi (by omega)]; simp
    · simp [e])
  rw [seen, this]
  unfold cntP; simp
theorem seen_end (f : Nat → Nat) (left : Lit → Bool) (s : Nat) (h : ∀ kl, left kl = false) : seen f left s = cnt f s := cntP_congr (fun i _ => by simp [h])
theorem sameKey_self (i : Nat) : (Lit.int .i64 (i : Int)).sameKey (.int .i64 i) = true := by simp [Lit.sameKey]
theorem seen_step (f : Nat → Nat) (left : Lit → Bool) (s : Nat) {i : Nat} (hi : i < 256) (hl : left (.int .i64 i) = true) :
    seen f (fun z => left z && !z.sameKey (.int .i64 i)) s = seen f left s + (if f i = s then 1 else 0) := by
  have h := cntP_turn (p := fun j => decide (f j = s) && !left (.int .i64 j)) (q := fun j => decide (f j = s) && !(left (.int .i64 j) && !(Lit.int .i64 (j : Int)).sameKey (.int .i64 i))) hi (fun j _ hne => by
    rw [sameKey_ne (lit_ne hne)]; simp)
  rw [hl, sameKey_self] at h
  simpa [seen] using h

end Go.Proofs.Ytlndkmejmolnhaa
