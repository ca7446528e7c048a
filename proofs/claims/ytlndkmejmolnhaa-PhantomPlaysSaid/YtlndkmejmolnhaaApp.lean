/-
  A slice that can be read, and append of such a slice to one that the call owns, as one step. Conditions: sizes.
-/
import Derived.Test.YtlndkmejmolnhaaBase
import Derived.Deep.RegionLaw
import Derived.Deep.RegionHeld3
import Derived.Deep.RegionHeldLaw
namespace Go.Proofs.Ytlndkmejmolnhaa
open Go.RowKit

/-- A slice that can be read: n elements of 'size' cells each, of element type e: the cells 'xs'. -/
def SlAt (w : World) (e size : Nat) (v : Value) (n : Nat) (xs : List Value) : Prop :=
  xs.length = n * size ∧ (∀ x ∈ xs, x.oneCell' = true) ∧ ∃ a cap, v = .slice a n cap ∧ n ≤ cap ∧ cap ≤ maxLen ∧ (a = none → cap = 0) ∧
    (n = 0 ∨ ∃ g off cur, a = some ⟨g, off, none⟩ ∧ w.heap[g]? = some (.cells cur e (0, 0)) ∧ off + n * size ≤ cur.size ∧ ∀ i x, xs[i]? = some x → cur[off + i]? = some x)

theorem SlAt.form {w : World} {e size n : Nat} {v : Value} {xs : List Value} (h : SlAt w e size v n xs) : ∃ a c, v = .slice a n c ∧ n ≤ c := by
  obtain ⟨_, _, a, c, h1, h2, _⟩ := h
  exact ⟨a, c, h1, h2⟩
theorem SlAt.cap {w : World} {e size n c : Nat} {a : Option Addr} {xs : List Value} (h : SlAt w e size (.slice a n c) n xs) : n ≤ c := by
  obtain ⟨_, _, a, c, h1, h2, _⟩ := h
  simp at h1
  rw [h1.2]; exact h2
theorem SlAt.upd {w w' : World} {e size n : Nat} {v : Value} {xs : List Value} (h : SlAt w e size v n xs) {S : List Nat} (u : Upd S w w')
    (hS : ∀ x ∈ S, ∀ c, w.heap[x]? ≠ some (.cells c e (0, 0))) : SlAt w' e size v n xs := by
  obtain ⟨h1, h2, a, c, h3, h4, h5, h6, h7⟩ := h
  refine ⟨h1, h2, a, c, h3, h4, h5, h6, ?_⟩
  rcases h7 with h7 | ⟨g, off, cur, ha, hg, hs, hr⟩
  · exact .inl h7
  · exact .inr ⟨g, off, cur, ha, u.keep hg (fun hm => hS g hm _ hg), hs, hr⟩
/-- One block was written, and it is of another element type. -/
theorem SlAt.upd1 {w w' : World} {e size n : Nat} {v : Value} {xs : List Value} (h : SlAt w e size v n xs) {b : Nat} (u : Upd [b] w w')
    {c : Array Value} {t : Nat} {f : Nat × Nat} (hb : w.heap[b]? = some (.cells c t f)) (ht : t ≠ e) : SlAt w' e size v n xs :=
  h.upd u (fun x hx c' hc => by simp at hx; subst hx; rw [hb] at hc; simp at hc; exact ht hc.2.1)
theorem SlAt.set1 {w : World} {e size n : Nat} {v : Value} {xs : List Value} (h : SlAt w e size v n xs) {b : Nat} {c : Array Value} {t : Nat} {f : Nat × Nat} (hb : w.heap[b]? = some (.cells c t f)) (ht : t ≠ e)
    (i : Nat) (u : Value) : SlAt (w.setCell ⟨b, i, none⟩ u) e size v n xs := h.upd1 ((Upd.refl [b] w).setCell (p := ⟨b, i, none⟩) (by simp) u) hb ht
theorem SlAt.grown {w w' : World} {e size n : Nat} {v : Value} {xs : List Value} (h : SlAt w e size v n xs) {row : Option Nat} (hg : w.grownBy w' row)
    (hr : ∀ g, row = some g → ∀ a c, v = .slice (some a) n c → n = 0 ∨ a.block ≠ g) : SlAt w' e size v n xs := by
  obtain ⟨h1, h2, a, c, h3, h4, h5, h6, h7⟩ := h
  refine ⟨h1, h2, a, c, h3, h4, h5, h6, ?_⟩
  rcases h7 with h7 | ⟨g, off, cur, rfl, hgg, hs, hrd⟩
  · exact .inl h7
  · by_cases hn : n = 0
    · exact .inl hn
    · exact .inr ⟨g, off, cur, rfl, grown_keep hg hgg (fun e => by rcases hr g e _ _ h3 with h | h; exact hn h; exact h rfl), hs, hrd⟩
/-- What the call owns can be read. -/
theorem SlAt.ofOwn {w : World} {base e size n : Nat} {v : Value} {xs : List Value} (h : w.ownsRow base e size v n xs) (h1 : ∀ x ∈ xs, x.oneCell' = true) : SlAt w e size v n xs := by
  obtain ⟨hl, h2⟩ := h
  rcases h2 with ⟨rfl, rfl⟩ | ⟨g, cap, cur, rfl, _, hg, hn, hc, hs, ht⟩
  · exact ⟨hl, h1, none, 0, rfl, Nat.le_refl _, Nat.zero_le _, fun _ => rfl, .inl rfl⟩
  · refine ⟨hl, h1, some ⟨g, 0, none⟩, cap, rfl, hn, hc, by simp, .inr ⟨g, 0, cur, rfl, hg, ?_, fun i x hx => ?_⟩⟩
    · rw [hs, Nat.zero_add]; exact Nat.mul_le_mul_right _ hn
    · rw [← ht, List.getElem?_take] at hx
      split at hx
      · simpa using hx
      · cases hx
theorem SlAt.at1 {w : World} {e n c : Nat} {a : Option Addr} {xs : List Value} (h : SlAt w e 1 (.slice a n c) n xs) {i : Nat} (hi : i < n) :
    ∃ g off, a = some ⟨g, off, none⟩ ∧ g < w.heap.size ∧ n ≤ c ∧ w.cell? ⟨g, off + i, none⟩ = xs[i]? ∧ ∃ cur, w.heap[g]? = some (.cells cur e (0, 0)) := by
  obtain ⟨h1, _, a', c', h3, h4, _, _, h7⟩ := h
  simp at h3
  obtain ⟨rfl, rfl⟩ := h3
  rcases h7 with h7 | ⟨g, off, cur, ha, hg, _, hr⟩
  · omega
  · refine ⟨g, off, ha, lt_of_block hg, h4, ?_, cur, hg⟩
    have hx : xs[i]? = some (xs[i]'(by omega)) := List.getElem?_eq_getElem _
    rw [cell_of hg, hx]
    exact hr i _ hx
/-- Cut at the end. -/
theorem SlAt.take1 {w : World} {e n c : Nat} {a : Option Addr} {xs : List Value} (h : SlAt w e 1 (.slice a n c) n xs) {i : Nat} (hi : i ≤ n) : SlAt w e 1 (.slice a i c) i (xs.take i) := by
  obtain ⟨h1, h2, a', c', h3, h4, h5, h6, h7⟩ := h
  simp at h3
  obtain ⟨rfl, rfl⟩ := h3
  refine ⟨by simp; omega, fun x hx => h2 x (List.mem_of_mem_take hx), a, c, rfl, by omega, h5, h6, ?_⟩
  rcases h7 with h7 | ⟨g, off, cur, ha, hg, hs, hr⟩
  · left; omega
  · refine .inr ⟨g, off, cur, ha, hg, by omega, fun j x hx => hr j x ?_⟩
    rw [List.getElem?_take] at hx
    split at hx
    · exact hx
    · cases hx

/-- An empty row of the call's own, laid as a literal without elements. -/
theorem owns_lit0 (w : World) (e size : Nat) : (w.alloc (.cells #[] e)).ownsRow w.heap.size e size (.slice (some ⟨w.heap.size, 0, none⟩) 0 0) 0 [] :=
  World.ownsRow_made w #[] 0 (Nat.le_refl _) (by simp) (by simp)

theorem one_ints {k : IntKind} (l : List Int) : ∀ x ∈ l.map (Value.int k), x.oneCell' = true := by
  intro x hx
  obtain ⟨y, _, rfl⟩ := List.mem_map.1 hx
  rfl
/-- A literal of one element. -/
theorem sl_lit (w : World) (e : Nat) (cs : List Value) (h1 : ∀ x ∈ cs, x.oneCell' = true) (hn : cs.length ≤ 1000) : SlAt (w.alloc (.cells cs.toArray e)) e 1 (.slice (some ⟨w.heap.size, 0, none⟩) cs.length cs.length) cs.length cs :=
  ⟨by simp, h1, some ⟨w.heap.size, 0, none⟩, cs.length, rfl, Nat.le_refl _, by unfold maxLen; omega, by simp, .inr ⟨w.heap.size, 0, cs.toArray, rfl, new_of _ _, by simp, fun i x hx => by simpa using hx⟩⟩
theorem sl_lit1 (w : World) (e : Nat) (k : IntKind) (x : Int) : SlAt (w.alloc (.cells #[.int k x] e)) e 1 (.slice (some ⟨w.heap.size, 0, none⟩) 1 1) 1 [.int k x] :=
  sl_lit w e [.int k x] (by simp [Value.oneCell']) (by simp)

section
variable {P : Program} (w : World)
theorem run_append_any (t ty e : TypeId) (base : Nat) (i : TypeInfo) (z : Value) (size bytes : Nat) (ht : P.underlying t = some (.slice e)) (hi : P.info? e = some i) (hz : i.zero = some z)
    (hsize : i.size = size) (hby : i.bytes = bytes) (hzs : z.cells.size = size) (hsz : 0 < size)
    (v : Value) (n : Nat) (xs : List Value) (hown : w.ownsRow base e size v n xs)
    (x : Value) (m : Nat) (news : List Value) (hx : SlAt w e size x m news)
    (h63 : n + m ≤ maxLen) (hbytes : (n + m) * bytes ≤ 140737488355328) (hbase : base ≤ w.heap.size) :
    ∃ a c w', (Builtin.append_ #[t, t] ty #[v, x]).run P w = .ok (.slice a (n + m) c) w' ∧ w'.ownsRow base e size (.slice a (n + m) c) (n + m) (xs ++ news) ∧ w.grownBy w' v.ownBlock := by
  obtain ⟨hl, h1, a, cap, rfl, hmc, _, hnone, hrd⟩ := hx
  cases a with
  | none =>
    obtain rfl := hnone rfl
    obtain rfl : m = 0 := by omega
    obtain rfl : news = [] := List.eq_nil_of_length_eq_zero (by simpa using hl)
    obtain ⟨a, c, rfl⟩ := ownsRow_slice hown
    exact ⟨a, c, w, run_append_owned_none w base t ty e i size ht hi _ n xs hown, by simpa using hown, ⟨rfl, rfl, rfl, Nat.le_refl _, fun _ _ _ => rfl⟩⟩
  | some a =>
    have hnews : ∀ j u, news[j]? = some u → w.cell? (a.add j) = some u := by
      intro j u hu
      rcases hrd with rfl | ⟨g, off, cur, ha, hg, _, hr⟩
      · have : news = [] := List.eq_nil_of_length_eq_zero (by simpa using hl)
        rw [this] at hu; simp at hu
      · simp at ha
        subst ha
        have hadd : (⟨g, off, none⟩ : Addr).add j = ⟨g, off + j, none⟩ := by unfold Addr.add; split <;> simp_all
        rw [hadd, cell_of hg]; exact hr j u hu
    obtain ⟨v', w', hr, h2, h3, _⟩ := run_append_own (P := P) w base t ty e i z size bytes ht hi hz hsize hby hzs hsz v n xs hown a m cap news hl hnews h1 h63 hbytes hbase
    obtain ⟨a', c', rfl⟩ := ownsRow_slice h2
    exact ⟨a', c', w', hr, h2, h3⟩
theorem wp_append_any {o : Oper} {a : Act} {K : Act → World → Prop} {Q : Exit → Act → World → Prop} (s x : Operand) (t : TypeId)
    (ho : o.op = .call { callee := .builtin .append, args := #[s, x], argTypes := #[t, t] })
    (base : Nat) (e : TypeId) (i : TypeInfo) (z : Value) (size bytes : Nat) (ht : P.underlying t = some (.slice e)) (hi : P.info? e = some i) (hz : i.zero = some z)
    (hsize : i.size = size) (hby : i.bytes = bytes) (hzs : z.cells.size = size) (hsz : 0 < size)
    (v : Value) (n : Nat) (xs : List Value) (hs : a.eval s = v) (hown : w.ownsRow base e size v n xs)
    (y : Value) (m : Nat) (news : List Value) (hxv : a.eval x = y) (hx : SlAt w e size y m news)
    (h63 : n + m ≤ maxLen) (hbytes : (n + m) * bytes ≤ 140737488355328) (hbase : base ≤ w.heap.size)
    (h : ∀ b c w', w'.ownsRow base e size (.slice b (n + m) c) (n + m) (xs ++ news) → w.grownBy w' v.ownBlock → K (a.put o.dst (.slice b (n + m) c)) w') : o.wp P a w K Q := by
  obtain ⟨b, c, w', hr, h2, h3⟩ := run_append_any (P := P) w t o.type e base i z size bytes ht hi hz hsize hby hzs hsz v n xs hown y m news hx h63 hbytes hbase
  unfold Oper.wp execOp
  simp only [ho, resolve, invoke, builtin, Sem.run_bind, Sem.run_pure, Result.andThen_ok, List.map_toArray, List.map_cons, List.map_nil, hs, hxv, hr]
  exact h b c w' h2 h3
theorem wpList_append_any {ops : Array Oper} {rest : List Oper} {o : Oper} {a : Act} {Q : Exit → Act → World → Prop} (hgd : o.guard = none) (s x : Operand) (t : TypeId)
    (ho : o.op = .call { callee := .builtin .append, args := #[s, x], argTypes := #[t, t] })
    (base : Nat) (e : TypeId) (i : TypeInfo) (z : Value) (size bytes : Nat) (ht : P.underlying t = some (.slice e)) (hi : P.info? e = some i) (hz : i.zero = some z)
    (hsize : i.size = size) (hby : i.bytes = bytes) (hzs : z.cells.size = size) (hsz : 0 < size)
    (v : Value) (n : Nat) (xs : List Value) (hs : a.eval s = v) (hown : w.ownsRow base e size v n xs)
    (y : Value) (m : Nat) (news : List Value) (hxv : a.eval x = y) (hx : SlAt w e size y m news)
    (h63 : n + m ≤ maxLen) (hbytes : (n + m) * bytes ≤ 140737488355328) (hbase : base ≤ w.heap.size)
    (h : ∀ b c w', w'.ownsRow base e size (.slice b (n + m) c) (n + m) (xs ++ news) → w.grownBy w' v.ownBlock → wpList P ops Q rest (a.put o.dst (.slice b (n + m) c)) w') : wpList P ops Q (o :: rest) a w :=
  wpList_plain hgd fun _ hK => wp_append_any w s x t ho base e i z size bytes ht hi hz hsize hby hzs hsz v n xs hs hown y m news hxv hx h63 hbytes hbase fun b c w' h2 h3 => hK _ _ (h b c w' h2 h3)
theorem step_append_any {ops : Array Oper} {o : Oper} {a : Act} {K : Act → World → Prop} {Q : Exit → Act → World → Prop} {E : Prop} (hgd : o.guard = none) (s x : Operand) (t : TypeId)
    (ho : o.op = .call { callee := .builtin .append, args := #[s, x], argTypes := #[t, t] })
    (base : Nat) (e : TypeId) (i : TypeInfo) (z : Value) (size bytes : Nat) (ht : P.underlying t = some (.slice e)) (hi : P.info? e = some i) (hz : i.zero = some z)
    (hsize : i.size = size) (hby : i.bytes = bytes) (hzs : z.cells.size = size) (hsz : 0 < size)
    (v : Value) (n : Nat) (xs : List Value) (hs : a.eval s = v) (hown : w.ownsRow base e size v n xs)
    (y : Value) (m : Nat) (news : List Value) (hxv : a.eval x = y) (hx : SlAt w e size y m news)
    (h63 : n + m ≤ maxLen) (hbytes : (n + m) * bytes ≤ 140737488355328) (hbase : base ≤ w.heap.size)
    (h : ∀ b c w', w'.ownsRow base e size (.slice b (n + m) c) (n + m) (xs ++ news) → w.grownBy w' v.ownBlock → K (a.put o.dst (.slice b (n + m) c)) w') :
    if Region.wanted o (yielded ops a.tmps) = true then Oper.wp P o a w K Q else E := by
  have hw : Region.wanted o (yielded ops a.tmps) = true := by simp [Region.wanted, hgd]
  rw [if_pos hw]
  exact wp_append_any w s x t ho base e i z size bytes ht hi hz hsize hby hzs hsz v n xs hs hown y m news hxv hx h63 hbytes hbase h
end

end Go.Proofs.Ytlndkmejmolnhaa
