/-
  Counters in maps, and lists of ints that grow at the end and lose their first. Conditions: sizes.
-/
import Derived.Test.YtmbkjnjfipafmaaRfTurnE
import Derived.Deep.AppendSrc
namespace Go.Proofs.Ytmbkjnjfipafmaa
open Go.RowKit Go.Maps

/-! ### counters -/
structure ReadsC (D : DataW Unit) (f : Nat → Nat) : Prop where
  isMap : IsMap D
  has : ∀ i : Nat, i < 256 → Maps.has D (.int .i64 i) = decide (f i ≠ 0)
  at_ : ∀ i : Nat, i < 256 → ∀ z, D.atKey (.int .i64 i) z = if f i = 0 then z else .lit (.int .i64 (f i))
  keys : ∀ kl, Maps.has D kl = true → ∃ i : Nat, i < 256 ∧ kl = .int .i64 i
  size : Maps.size D = card f
theorem readsC_empty : ReadsC (.map []) (fun _ => 0) := ⟨reads_empty.isMap, reads_empty.has, reads_empty.at_, reads_empty.keys, reads_empty.size⟩
theorem ReadsC.put {D : DataW Unit} {f : Nat → Nat} (h : ReadsC D f) (ht : Tidy D) {i v : Nat} (hi : i < 256) (hv0 : v ≠ 0) : ReadsC (D.put (.int .i64 i) (.lit (.int .i64 v))) (upd f i v) := by
  have hk : WideAt.IsKeyLit (.int .i64 (i : Int)) := trivial
  refine ⟨h.isMap.put _ _, fun j hj => ?_, fun j hj z => ?_, fun kl hkl => ?_, ?_⟩
  · by_cases e : j = i
    · subst e; rw [upd_same, has_put_same h.isMap hk]; simp [hv0]
    · rw [upd_other f v e, has_put_other (lit_ne e)]; exact h.has j hj
  · by_cases e : j = i
    · subst e; rw [upd_same, atKey_put_same h.isMap hk, if_neg hv0]
    · rw [upd_other f v e, atKey_put_other (lit_ne e)]; exact h.at_ j hj z
  · by_cases e : kl = .int .i64 i
    · exact ⟨i, hi, e⟩
    · rw [has_put_other e] at hkl; exact h.keys kl hkl
  · rw [size_put ht, h.size, h.has i hi]
    have := card_upd f v hi
    rw [if_neg hv0] at this
    by_cases e : f i = 0
    · simp [e] at this ⊢; omega
    · simp [e] at this ⊢; omega
theorem card_le (f : Nat → Nat) : card f ≤ 256 := cntP_le _ _
def CtAt (w : World) (m : Nat) (f : Nat → Nat) : Prop := ∃ D, w.ownsMap (H := Unit) Try.prog 3 (plainElem Try.prog 3) m 256 D ∧ ReadsC D f
theorem CtAt.upd {w w' : World} {m : Nat} {f : Nat → Nat} (k : CtAt w m f) {S : List Nat} (u : Upd S w w') (hn : m ∉ S) : CtAt w' m f := by
  obtain ⟨D, h1, h2⟩ := k; exact ⟨D, owns_upd_map h1 u hn, h2⟩
theorem CtAt.ne {w : World} {m : Nat} {f : Nat → Nat} (k : CtAt w m f) {b : Nat} {c : Array Value} {t : TypeId} {fr : Nat × Nat} (hb : w.heap[b]? = some (.cells c t fr)) : b ≠ m := by
  obtain ⟨D, h1, _⟩ := k; exact ne_map hb h1
theorem CtAt.lt {w : World} {m : Nat} {f : Nat → Nat} (k : CtAt w m f) : m < w.heap.size := by
  obtain ⟨D, h1, _⟩ := k; exact h1.lt
theorem CtAt.look {w : World} {m : Nat} {f : Nat → Nat} (k : CtAt w m f) (i : Nat) (hi : i < 256) :
    (Instr.lookup 26 (.map (some m)) (.int .i64 (i : Int)) false).run Try.prog w = .ok (.int .i64 (f i : Nat)) w := by
  obtain ⟨D, h1, hr⟩ := k
  obtain ⟨v, ps, hrun, hv⟩ := h1.lookup law3 Try.underlying26 (zeroI w) (plainElem_int Try.underlying3 (by decide)) (keyOf_int_mk Try.underlying3 (WalkArith.wf_i64 (n := (i : Int)) (by omega)))
  obtain ⟨c, rfl, hz, -⟩ := plainElem_int_inv Try.underlying3 hv
  rw [hrun]
  simp only [Prod.mk.injEq] at hz
  have h2 := hr.at_ i hi (.lit (.int .i64 0))
  rw [h2] at hz
  by_cases e : f i = 0
  · rw [if_pos e] at hz; simp at hz; rw [← hz.1, e]; rfl
  · rw [if_neg e] at hz; simp at hz; rw [← hz.1]
theorem CtAt.put {w : World} {m : Nat} {f : Nat → Nat} (k : CtAt w m f) (i : Nat) (hi : i < 256) (hf : f i ≤ 1000) :
    ∃ w', (Instr.mapUpdate 26 (.map (some m)) (.int .i64 (i : Int)) (.int .i64 ((f i : Int) + 1))).run Try.prog w = .ok () w' ∧ CtAt w' m (Go.Proofs.Ytmbkjnjfipafmaa.upd f i (f i + 1)) ∧ Upd [m] w w' := by
  obtain ⟨D, h1, h2⟩ := k
  obtain ⟨w', hrun, o, t⟩ := h1.store law3 Try.underlying26 (by unfold maxLen; omega) (keyOf_int_mk Try.underlying3 (WalkArith.wf_i64 (n := (i : Int)) (by omega))) (plainElem_int (e := 3) Try.underlying3 (WalkArith.wf_i64 (n := (f i : Int) + 1) (by omega)))
  have h3 := h2.put (v := f i + 1) (h1.tidy law3) hi (by omega)
  have e1 : (((f i + 1 : Nat)) : Int) = (f i : Int) + 1 := by omega
  rw [e1] at h3
  exact ⟨w', hrun, ⟨_, owns_tight o (Nat.le_trans (Nat.le_of_eq h3.size) (card_le _)), h3⟩, (Upd.refl [m] w).turned t (by simp)⟩
theorem ctAt_new (w : World) : CtAt (w.alloc (.map #[] 0)) w.heap.size (fun _ => 0) := ⟨.map [], (World.ownsMap_made w _ _ _).mono (by omega), readsC_empty⟩
/-- A map's update whose run is known, for the walk. -/
theorem wpList_upd {P : Program} {w w' : World} {ops : Array Oper} {rest : List Oper} {o : Oper} {a : Act} {Q : Exit → Act → World → Prop} (hg : o.guard = none) (m x y : Operand) (t : TypeId) (hop : o.op = Op.mapUpdate t m x y)
    (mv key v : Value) (hm : a.eval m = mv) (hx : a.eval x = key) (hy : a.eval y = v) (hrun : (Instr.mapUpdate t mv key v).run P w = .ok () w') (hK : wpList P ops Q rest (a.put o.dst (.tuple #[])) w') : wpList P ops Q (o :: rest) a w := by
  refine wpList_plain hg fun K' hK' => ?_
  unfold Oper.wp
  simp [execOp, hop, hm, hx, hy, hrun, Result.andThen]
  exact hK' _ _ hK

theorem wpList_lookG {P : Program} {w : World} {ops : Array Oper} {rest : List Oper} {o : Oper} {a : Act} {Q : Exit → Act → World → Prop} (hw : Region.wanted o (yielded ops a.tmps) = true) (m x : Operand) (t : TypeId) (c : Bool) (hop : o.op = Op.lookup t m x c)
    (mv key v : Value) (hm : a.eval m = mv) (hx : a.eval x = key) (hrun : (Instr.lookup t mv key c).run P w = .ok v w) (hK : wpList P ops Q rest (a.put o.dst v) w) : wpList P ops Q (o :: rest) a w := by
  refine BigFrame.wpList_want hw fun _ hK' => ?_
  unfold Oper.wp
  simp [execOp, hop, hm, hx, hrun, Result.andThen]
  exact hK' _ _ hK
/-- append whose run is known, for the walk. -/
theorem wpList_appR {P : Program} {w w' : World} {ops : Array Oper} {rest : List Oper} {o : Oper} {a : Act} {Q : Exit → Act → World → Prop} (hg : o.guard = none) (s x : Operand) (t : TypeId)
    (hop : o.op = .call { callee := .builtin .append, args := #[s, x], argTypes := #[t, t] }) (v y v' : Value) (hs : a.eval s = v) (hx : a.eval x = y) (hrun : ∀ ty, (Builtin.append_ #[t, t] ty #[v, y]).run P w = .ok v' w')
    (hK : wpList P ops Q rest (a.put o.dst v') w') : wpList P ops Q (o :: rest) a w := by
  refine wpList_plain hg fun K' hK' => ?_
  unfold Oper.wp
  simp [execOp, hop, resolve, invoke, builtin, hs, hx, hrun, Result.andThen]
  exact hK' _ _ hK

/-! ### lists -/
def OrdAt (w : World) (N0 : Nat) (v : Value) (l : List Int) : Prop := ∃ ao cap, v = .slice ao l.length cap ∧ l.length ≤ cap ∧ cap ≤ maxLen ∧
  (cap = 0 ∧ ao = none ∨ ∃ b off cur, ao = some ⟨b, off, none⟩ ∧ w.heap[b]? = some (.cells cur 3 (0, 0)) ∧ off + cap ≤ cur.size ∧ N0 ≤ b ∧ ∀ j x, l[j]? = some x → cur[off + j]? = some (.int .i64 x))
theorem ordAt_nil (w : World) (N0 : Nat) : OrdAt w N0 (.slice none 0 0) [] := ⟨none, 0, rfl, Nat.le_refl _, Nat.zero_le _, .inl ⟨rfl, rfl⟩⟩
theorem OrdAt.ints {w : World} {N0 : Nat} {v : Value} {l : List Int} (h : OrdAt w N0 v l) : Ints w v l := by
  obtain ⟨ao, cap, rfl, h1, h2, h3⟩ := h
  refine ⟨by simp, one_ints _, ao, cap, rfl, h1, h2, ?_, ?_⟩
  · rcases h3 with ⟨h3, -⟩ | ⟨b, off, cur, rfl, -⟩
    · exact fun _ => h3
    · simp
  · rcases h3 with ⟨h3, -⟩ | ⟨b, off, cur, rfl, hb, hs, -, hc⟩
    · left; omega
    · refine .inr ⟨b, off, cur, rfl, hb, by omega, fun j x hx => ?_⟩
      rw [List.getElem?_map] at hx
      cases hl : l[j]? with
      | none => rw [hl] at hx; simp at hx
      | some y => rw [hl] at hx; simp at hx; subst hx; exact hc j y hl
theorem OrdAt.upd {w w' : World} {N0 : Nat} {v : Value} {l : List Int} (h : OrdAt w N0 v l) {S : List Nat} (u : Upd S w w') (hS : ∀ x, x ∈ S → ∀ c, w.heap[x]? ≠ some (.cells c 3 (0, 0))) : OrdAt w' N0 v l := by
  obtain ⟨ao, cap, rfl, h1, h2, h3⟩ := h
  refine ⟨ao, cap, rfl, h1, h2, ?_⟩
  rcases h3 with h3 | ⟨b, off, cur, rfl, hb, hs, hN, hc⟩
  · exact .inl h3
  · exact .inr ⟨b, off, cur, rfl, u.keep hb (fun hm => hS b hm _ hb), hs, hN, hc⟩
theorem OrdAt.upd0 {w w' : World} {N0 : Nat} {v : Value} {l : List Int} (h : OrdAt w N0 v l) (u : Upd [] w w') : OrdAt w' N0 v l := h.upd u (by simp)
theorem OrdAt.ofOwn {w : World} {base N0 n : Nat} {v : Value} {l : List Int} (h : w.ownsRow base 3 1 v n (l.map (Value.int .i64))) (hn : l.length = n) (hb : N0 ≤ base) : OrdAt w N0 v l := by
  obtain ⟨hl, h2⟩ := h
  rcases h2 with ⟨rfl, h3⟩ | ⟨g, cap, cur, rfl, hg0, hg, hnc, hc, hs, ht⟩
  · have : l = [] := List.eq_nil_of_length_eq_zero (by omega)
    subst this
    exact ordAt_nil w N0
  · refine ⟨some ⟨g, 0, none⟩, cap, by rw [hn], by omega, hc, .inr ⟨g, 0, cur, rfl, hg, by omega, by omega, fun j x hx => ?_⟩⟩
    have h5 : (l.map (Value.int .i64))[j]? = some (.int .i64 x) := by rw [List.getElem?_map, hx]; rfl
    have hj : j < n * 1 := by
      have := (List.getElem?_eq_some_iff.1 hx).1
      omega
    rw [← ht, List.getElem?_take, if_pos hj] at h5
    simpa using h5
/-- Without its first. -/
theorem OrdAt.tail1 {w : World} {N0 : Nat} {l : List Int} {g off c : Nat} (h : OrdAt w N0 (.slice (some ⟨g, off, none⟩) l.length c) l) (hl : 1 ≤ l.length) :
    (c = 1 → OrdAt w N0 (.slice (some ⟨g, off, none⟩) 0 0) l.tail) ∧ (1 < c → OrdAt w N0 (.slice (some ⟨g, off + 1, none⟩) (l.length - 1) (c - 1)) l.tail) := by
  obtain ⟨ao, cap, h0, h1, h2, h3⟩ := h
  simp only [Value.slice.injEq, true_and] at h0
  obtain ⟨rfl, rfl⟩ := h0
  rcases h3 with ⟨h3, -⟩ | ⟨b, off', cur, he, hb, hs, hN, hc⟩
  · omega
  · simp only [Option.some.injEq, Addr.mk.injEq, and_true] at he
    obtain ⟨rfl, rfl⟩ := he
    have hlt : l.tail.length = l.length - 1 := List.length_tail
    refine ⟨fun hc1 => ?_, fun hc1 => ?_⟩
    · have hln : l.length = 1 := by omega
      have : l.tail = [] := List.eq_nil_of_length_eq_zero (by omega)
      rw [this]
      exact ⟨some ⟨g, off, none⟩, 0, rfl, Nat.le_refl _, Nat.zero_le _, .inr ⟨g, off, cur, rfl, hb, by omega, hN, by simp⟩⟩
    · refine ⟨some ⟨g, off + 1, none⟩, c - 1, by rw [hlt], by omega, by omega, .inr ⟨g, off + 1, cur, rfl, hb, by omega, hN, fun j x hx => ?_⟩⟩
      rw [List.getElem?_tail] at hx
      rw [Nat.add_assoc, Nat.add_comm 1 j]
      exact hc _ _ hx
/-- One more at the end. -/
theorem OrdAt.app {w : World} {N0 : Nat} {v : Value} {l : List Int} (h : OrdAt w N0 v l) (x : Int) {sb : Nat} (hsb : w.heap[sb]? = some (.cells #[.int .i64 x] 3 (0, 0))) (hN : N0 ≤ w.heap.size) (hl : l.length ≤ 1000) :
    ∃ v' w' b, (∀ ty, (Builtin.append_ #[27, 27] ty #[v, .slice (some ⟨sb, 0, none⟩) 1 1]).run Try.prog w = .ok v' w') ∧ OrdAt w' N0 v' (l ++ [x]) ∧ Upd [b] w w' ∧ N0 ≤ b ∧ (w.heap.size ≤ b ∨ ∃ cur, w.heap[b]? = some (.cells cur 3 (0, 0))) := by
  obtain ⟨i0, hi, hz0, hz1, hz2⟩ := info_parts info3
  have hu := Try.underlying27
  obtain ⟨ao, cap, rfl, h1, h2, h3⟩ := h
  have hsrc : Src Try.prog i0.size 27 (.slice (some ⟨sb, 0, none⟩) 1 1) 1 [.int .i64 x] w := by
    rw [hz1]
    refine Src.ofSlice w hu ⟨sb, 0, none⟩ 1 1 [.int .i64 x] rfl (fun j u hju => ?_) (by simp [Value.oneCell'])
    cases j with
    | zero => simp at hju; subst hju; show w.cell? ⟨sb, 0 + 0, none⟩ = _; rw [cell_of hsb]; rfl
    | succ j => simp at hju
  have hlen : (l ++ [x]).length = l.length + 1 := by simp
  by_cases hroom : l.length + 1 ≤ cap
  · rcases h3 with ⟨h3, -⟩ | ⟨b, off, cur, rfl, hb, hs, hNb, hc⟩
    · omega
    · have hrun := fun ty => run_append_room_src (P := Try.prog) w 27 27 ty 3 i0 hu hi b off l.length cap _ 1 [.int .i64 x] hsrc hroom
        (fun j hj => by
          simp at hj; subst hj
          rw [hz1, Nat.mul_one, Nat.add_zero, cell_of hb, Array.getElem?_eq_getElem (by omega)]; rfl)
        (fun j hj => free_of hb _)
      rw [hz1, Nat.mul_one] at hrun
      refine ⟨_, _, b, hrun, ⟨some ⟨b, off, none⟩, cap, by rw [hlen], by omega, h2, .inr ⟨b, off, cur.setIfInBounds (off + l.length) (.int .i64 x), rfl, set_of hb _ _, by simpa using hs, hNb, fun j y hy => ?_⟩⟩, (Upd.refl [b] w).setCell (p := ⟨b, off + l.length, none⟩) (by simp) _, hNb, .inr ⟨_, hb⟩⟩
      rw [Array.getElem?_setIfInBounds]
      rw [List.getElem?_append] at hy
      split at hy
      · rename_i hlt
        rw [if_neg (by omega)]
        exact hc j y hy
      · rename_i hge
        have hj : j = l.length := by
          have := (List.getElem?_eq_some_iff.1 hy).1
          simp at this; omega
        subst hj
        simp at hy
        subst hy
        rw [if_pos rfl, if_pos (by omega)]
  · have hcap : cap = l.length := by omega
    have hfc : (Builtin.firstCells i0.size l.length (.slice ao l.length cap)).run Try.prog w.drew = .ok ((l.map (Value.int .i64)).toArray) w.drew := by
      rw [hz1]
      rcases h3 with ⟨h3, rfl⟩ | ⟨b, off, cur, rfl, hb, hs, hNb, hc⟩
      · have : l = [] := List.eq_nil_of_length_eq_zero (by omega)
        subst this
        exact run_firstCells_none w.drew 1 0 0 cap
      · refine run_firstCells_some w.drew 1 l.length ⟨b, off, none⟩ l.length cap _ (by simp) (fun j u hju => ?_)
        rw [List.getElem?_map] at hju
        cases hlj : l[j]? with
        | none => rw [hlj] at hju; simp at hju
        | some y =>
          rw [hlj] at hju
          simp at hju
          subst hju
          rw [Addr.add_lit]
          show w.cell? ⟨b, off + j, none⟩ = _
          rw [cell_of hb]
          exact hc j y hlj
    have hfit : Builtin.nextslicecap (l.length + 1) cap * i0.bytes ≤ 281474976710656 := by
      rw [hz2]
      have := nextslicecap_le (need := l.length + 1) (old := cap) (by omega)
      omega
    have hrun := fun ty => run_append_grow_src (P := Try.prog) w 27 27 ty 3 i0 _ hu hi hz0 ao l.length cap _ hfc _ 1 [.int .i64 x] hsrc (by omega) (by omega) hfit
    have hge := grownCap_ge w (l.length + 1) cap 3
    have hcm : grownCap w (l.length + 1) cap 3 ≤ maxLen := grownCap_le_maxLen w (l.length + 1) cap 3 (by unfold maxLen; omega)
    refine ⟨_, _, w.heap.size, hrun, ⟨some ⟨w.heap.size, 0, none⟩, _, by rw [hlen], by rw [hlen]; exact hge, hcm, .inr ⟨w.heap.size, 0, _, rfl, new_of w.drew _, ?_, hN, fun j y hy => ?_⟩⟩, ((Upd.refl [] w).drew.alloc _).nil, hN, .inl (Nat.le_refl _)⟩
    · simp only [Array.size_append, List.size_toArray, size_zeroCells, List.length_append, List.length_map, List.length_singleton]
      have : (Value.int .i64 0).cells.size = 1 := rfl
      rw [this]
      omega
    · rw [Nat.zero_add, Array.getElem?_append_left]
      · rw [List.getElem?_toArray]
        have : (l ++ [x]).map (Value.int .i64) = l.map (Value.int .i64) ++ [Value.int .i64 x] := by simp
        rw [← this, List.getElem?_map, hy]
        rfl
      · have := (List.getElem?_eq_some_iff.1 hy).1
        simpa using this

/-! ### what the law keeps -/
structure Lo (w : World) (kb h m1 m2 m3 m4 N0 N P b : Nat) (v : Value) (l : List Int) (r f p c : Nat → Nat) : Prop where
  blk : w.heap[kb]? = some (.cells #[.pointer (some ⟨b, 0, none⟩), .int .i64 N, .int .i64 P, .map (some h), .slice none 0 0] 33 (0, 0))
  ord : OrdAt w N0 v l
  c1 : CtAt w m1 r
  c2 : CtAt w m2 f
  c3 : CtAt w m3 p
  c4 : CtAt w m4 c
structure SepO (kb m1 m2 m3 m4 : Nat) (B : RfB) : Prop where
  k : kb ∉ B.all
  a1 : m1 ∉ B.all
  a2 : m2 ∉ B.all
  a3 : m3 ∉ B.all
  a4 : m4 ∉ B.all
  n : m1 ≠ m2 ∧ m1 ≠ m3 ∧ m1 ≠ m4 ∧ m2 ≠ m3 ∧ m2 ≠ m4 ∧ m3 ≠ m4
section
variable {w w' : World} {kb h m1 m2 m3 m4 N0 N P b : Nat} {v : Value} {l : List Int} {r f p c : Nat → Nat}
theorem Lo.upd0 (o : Lo w kb h m1 m2 m3 m4 N0 N P b v l r f p c) (u : Upd [] w w') : Lo w' kb h m1 m2 m3 m4 N0 N P b v l r f p c :=
  ⟨u.keep o.blk (by simp), o.ord.upd0 u, o.c1.upd u (by simp), o.c2.upd u (by simp), o.c3.upd u (by simp), o.c4.upd u (by simp)⟩
theorem Lo.rf {B : RfB} {s : Rs} (o : Lo w kb h m1 m2 m3 m4 N0 N P b v l r f p c) (rf : RfAt w B s) (sp : SepO kb m1 m2 m3 m4 B) (u : Upd B.S w w') : Lo w' kb h m1 m2 m3 m4 N0 N P b v l r f p c :=
  ⟨u.keep o.blk (fun hm => sp.k (RfB.S_all hm)), o.ord.upd u (fun _ hx _ hc => rf.notIn hc (by decide) hx), o.c1.upd u (fun hm => sp.a1 (RfB.S_all hm)), o.c2.upd u (fun hm => sp.a2 (RfB.S_all hm)), o.c3.upd u (fun hm => sp.a3 (RfB.S_all hm)), o.c4.upd u (fun hm => sp.a4 (RfB.S_all hm))⟩
theorem Lo.w1 {B : RfB} {r' : Nat → Nat} (o : Lo w kb h m1 m2 m3 m4 N0 N P b v l r f p c) (sp : SepO kb m1 m2 m3 m4 B) (u : Upd [m1] w w') (k : CtAt w' m1 r') : Lo w' kb h m1 m2 m3 m4 N0 N P b v l r' f p c :=
  ⟨u.keep o.blk (by simpa using o.c1.ne o.blk), o.ord.upd u (fun x hx cs hc => by simp at hx; subst hx; exact o.c1.ne hc rfl), k, o.c2.upd u (by simpa using fun e : m2 = m1 => sp.n.1 e.symm), o.c3.upd u (by simpa using fun e : m3 = m1 => sp.n.2.1 e.symm), o.c4.upd u (by simpa using fun e : m4 = m1 => sp.n.2.2.1 e.symm)⟩
theorem Lo.w2 {B : RfB} {r' : Nat → Nat} (o : Lo w kb h m1 m2 m3 m4 N0 N P b v l r f p c) (sp : SepO kb m1 m2 m3 m4 B) (u : Upd [m2] w w') (k : CtAt w' m2 r') : Lo w' kb h m1 m2 m3 m4 N0 N P b v l r r' p c :=
  ⟨u.keep o.blk (by simpa using o.c2.ne o.blk), o.ord.upd u (fun x hx cs hc => by simp at hx; subst hx; exact o.c2.ne hc rfl), o.c1.upd u (by simpa using sp.n.1), k, o.c3.upd u (by simpa using fun e : m3 = m2 => sp.n.2.2.2.1 e.symm), o.c4.upd u (by simpa using fun e : m4 = m2 => sp.n.2.2.2.2.1 e.symm)⟩
theorem Lo.w3 {B : RfB} {r' : Nat → Nat} (o : Lo w kb h m1 m2 m3 m4 N0 N P b v l r f p c) (sp : SepO kb m1 m2 m3 m4 B) (u : Upd [m3] w w') (k : CtAt w' m3 r') : Lo w' kb h m1 m2 m3 m4 N0 N P b v l r f r' c :=
  ⟨u.keep o.blk (by simpa using o.c3.ne o.blk), o.ord.upd u (fun x hx cs hc => by simp at hx; subst hx; exact o.c3.ne hc rfl), o.c1.upd u (by simpa using sp.n.2.1), o.c2.upd u (by simpa using sp.n.2.2.2.1), k, o.c4.upd u (by simpa using fun e : m4 = m3 => sp.n.2.2.2.2.2 e.symm)⟩
theorem Lo.w4 {B : RfB} {r' : Nat → Nat} (o : Lo w kb h m1 m2 m3 m4 N0 N P b v l r f p c) (sp : SepO kb m1 m2 m3 m4 B) (u : Upd [m4] w w') (k : CtAt w' m4 r') : Lo w' kb h m1 m2 m3 m4 N0 N P b v l r f p r' :=
  ⟨u.keep o.blk (by simpa using o.c4.ne o.blk), o.ord.upd u (fun x hx cs hc => by simp at hx; subst hx; exact o.c4.ne hc rfl), o.c1.upd u (by simpa using sp.n.2.2.1), o.c2.upd u (by simpa using sp.n.2.2.2.2.1), o.c3.upd u (by simpa using sp.n.2.2.2.2.2), k⟩
theorem Lo.ordW {v' : Value} {l' : List Int} {g : Nat} (o : Lo w kb h m1 m2 m3 m4 N0 N P b v l r f p c) (u : Upd [g] w w') (hg : w.heap.size ≤ g ∨ ∃ cur, w.heap[g]? = some (.cells cur 3 (0, 0))) (k : OrdAt w' N0 v' l') : Lo w' kb h m1 m2 m3 m4 N0 N P b v' l' r f p c := by
  have hm : ∀ {m : Nat} {ff : Nat → Nat}, CtAt w m ff → m ∉ [g] := fun hk => by
    simp
    rintro rfl
    rcases hg with hg | ⟨cur, hg⟩
    · have := hk.lt; omega
    · exact hk.ne hg rfl
  refine ⟨u.keep o.blk ?_, k, o.c1.upd u (hm o.c1), o.c2.upd u (hm o.c2), o.c3.upd u (hm o.c3), o.c4.upd u (hm o.c4)⟩
  simp
  rintro rfl
  rcases hg with hg | ⟨cur, hg⟩
  · have := lt_of_block o.blk; omega
  · have := o.blk; rw [hg] at this; simp at this
end

/-! ### what the counters say -/
def InvO (s : Rs) (r f p c : Nat → Nat) (n : Nat) : Prop := ∀ i : Nat, i < 256 → r i = p i + c i + s.cl i ∧ p i + (if (i : Int) ∈ s.l then 1 else 0) ≤ f i ∧ f i + (if (s.g i).isSome = true then 1 else 0) ≤ r i ∧ r i ≤ n
theorem InvO.succ {s : Rs} {r f p c : Nat → Nat} {n : Nat} (h : InvO s r f p c n) : InvO s r f p c (n + 1) := fun i hi => by
  obtain ⟨h1, h2, h3, h4⟩ := h i hi; exact ⟨h1, h2, h3, by omega⟩
theorem inv_reg {s : Rs} {r f p c : Nat → Nat} {n i : Nat} {x : Rf} (h : InvO s r f p c n) (hc : s.cl i = 0) : InvO (s.setG i (some x)) (Go.Proofs.Ytmbkjnjfipafmaa.upd r i (r i + 1)) f p c (n + 1) := fun j hj => by
  obtain ⟨h1, h2, h3, h4⟩ := h j hj
  rw [cl_set]
  by_cases e : j = i
  · subst e
    obtain ⟨z1, z2⟩ := cl_zero hc
    rw [Go.Proofs.Ytmbkjnjfipafmaa.upd_same, Go.Proofs.Ytmbkjnjfipafmaa.upd_same]
    rw [hc] at h1
    rw [z1] at h3
    simp only [Option.isSome_none] at h3
    refine ⟨by omega, h2, ?_, by omega⟩
    show f j + (if (Go.Proofs.Ytmbkjnjfipafmaa.setG s.g j (some x) j).isSome = true then 1 else 0) ≤ _
    rw [setG_same]
    simp at h3 ⊢
    omega
  · rw [Go.Proofs.Ytmbkjnjfipafmaa.upd_other _ _ e, Go.Proofs.Ytmbkjnjfipafmaa.upd_other _ _ e]
    refine ⟨h1, h2, ?_, by omega⟩
    show f j + (if (Go.Proofs.Ytmbkjnjfipafmaa.setG s.g i (some x) j).isSome = true then 1 else 0) ≤ _
    rw [setG_other _ _ e]
    exact h3
theorem inv_fnd {s : Rs} {r f p c : Nat → Nat} {n i : Nat} (ho : s.ok) (h : InvO s r f p c n) (hg : (s.g i).isSome = true) : InvO ⟨s.size, s.places, Go.Proofs.Ytmbkjnjfipafmaa.setG s.g i none, s.l ++ [(i : Int)]⟩ r (Go.Proofs.Ytmbkjnjfipafmaa.upd f i (f i + 1)) p c (n + 1) := fun j hj => by
  obtain ⟨h1, h2, h3, h4⟩ := h j hj
  rw [fnd_cl hg]
  by_cases e : j = i
  · subst e
    rw [Go.Proofs.Ytmbkjnjfipafmaa.upd_same]
    have hni := ho.apart j hg
    rw [if_neg hni] at h2
    rw [if_pos hg] at h3
    refine ⟨h1, ?_, ?_, by omega⟩
    · rw [if_pos (show (j : Int) ∈ s.l ++ [(j : Int)] by simp)]; omega
    · show f j + 1 + (if (Go.Proofs.Ytmbkjnjfipafmaa.setG s.g j none j).isSome = true then 1 else 0) ≤ _
      rw [setG_same]; simpa using h3
  · rw [Go.Proofs.Ytmbkjnjfipafmaa.upd_other _ _ e]
    have hm : ((j : Int) ∈ s.l ++ [(i : Int)]) ↔ (j : Int) ∈ s.l := by rw [List.mem_append]; simp; omega
    refine ⟨h1, ?_, ?_, by omega⟩
    · simp only [hm]; exact h2
    · show f j + (if (Go.Proofs.Ytmbkjnjfipafmaa.setG s.g i none j).isSome = true then 1 else 0) ≤ _
      rw [setG_other _ _ e]; exact h3
theorem inv_poll {s : Rs} {r f p c : Nat → Nat} {n i : Nat} {l' : List Int} (ho : s.ok) (h : InvO s r f p c n) (hl : s.l = (i : Int) :: l') : InvO s.pollS r f (Go.Proofs.Ytmbkjnjfipafmaa.upd p i (p i + 1)) c (n + 1) := fun j hj => by
  obtain ⟨h1, h2, h3, h4⟩ := h j hj
  have hcl : s.pollS.cl = Go.Proofs.Ytmbkjnjfipafmaa.upd (Go.Proofs.Ytmbkjnjfipafmaa.upd s.cl i 2) i 0 := by
    have := cl_poll ho hl 2
    rw [← this]; show (Rs.mk s.size s.places s.g s.l.tail).cl = _; rw [hl]; rfl
  have hnd := ho.nodup
  rw [hl] at hnd
  have hni : (i : Int) ∉ l' := (List.nodup_cons.1 hnd).1
  have hpl : s.pollS.l = l' := by show s.l.tail = l'; rw [hl]; rfl
  rw [hcl, hpl]
  by_cases e : j = i
  · subst e
    rw [Go.Proofs.Ytmbkjnjfipafmaa.upd_same, Go.Proofs.Ytmbkjnjfipafmaa.upd_same]
    have hm : (j : Int) ∈ s.l := by rw [hl]; simp
    have hc1 : s.cl j = 1 := by unfold Rs.cl; rw [if_pos (.inr hm)]
    rw [if_pos hm] at h2
    rw [hc1] at h1
    exact ⟨by omega, by rw [if_neg hni]; omega, h3, by omega⟩
  · rw [Go.Proofs.Ytmbkjnjfipafmaa.upd_other _ _ e, Go.Proofs.Ytmbkjnjfipafmaa.upd_other _ _ e, Go.Proofs.Ytmbkjnjfipafmaa.upd_other _ _ e]
    have hm : ((j : Int) ∈ s.l) ↔ (j : Int) ∈ l' := by rw [hl, List.mem_cons]; exact ⟨fun h => h.resolve_left (by omega), .inr⟩
    simp only [hm] at h2
    exact ⟨h1, h2, h3, by omega⟩
theorem inv_can {s : Rs} {r f p c : Nat → Nat} {n i : Nat} (ho : s.ok) (h : InvO s r f p c n) (hc : s.cl i = 1) : InvO (s.remS i) r f p (Go.Proofs.Ytmbkjnjfipafmaa.upd c i (c i + 1)) (n + 1) := fun j hj => by
  obtain ⟨h1, h2, h3, h4⟩ := h j hj
  rw [cl_rem ho i 3]
  by_cases e : j = i
  · subst e
    rw [Go.Proofs.Ytmbkjnjfipafmaa.upd_same, Go.Proofs.Ytmbkjnjfipafmaa.upd_same]
    rw [hc] at h1
    refine ⟨by omega, ?_, ?_, by omega⟩
    · rw [if_neg (show ¬ (j : Int) ∈ (s.remS j).l from ho.nodup.not_mem_erase)]
      omega
    · show f j + (if (Go.Proofs.Ytmbkjnjfipafmaa.setG s.g j none j).isSome = true then 1 else 0) ≤ _
      rw [setG_same]
      simp
      omega
  · rw [Go.Proofs.Ytmbkjnjfipafmaa.upd_other _ _ e, Go.Proofs.Ytmbkjnjfipafmaa.upd_other _ _ e, Go.Proofs.Ytmbkjnjfipafmaa.upd_other _ _ e]
    have hm : ((j : Int) ∈ s.l.erase (i : Int)) ↔ (j : Int) ∈ s.l := List.mem_erase_of_ne (by omega)
    refine ⟨h1, ?_, ?_, by omega⟩
    · show p j + (if (j : Int) ∈ s.l.erase (i : Int) then 1 else 0) ≤ _
      simp only [hm]; exact h2
    · show f j + (if (Go.Proofs.Ytmbkjnjfipafmaa.setG s.g i none j).isSome = true then 1 else 0) ≤ _
      rw [setG_other _ _ e]; exact h3
theorem inv_start {a b : Nat} : InvO (rs0 a b) (fun _ => 0) (fun _ => 0) (fun _ => 0) (fun _ => 0) 0 := fun i _ => by
  simp [Rs.cl, rs0]
theorem cl_le {s : Rs} (i : Nat) : s.cl i = 0 ∨ s.cl i = 1 := by
  unfold Rs.cl; split <;> simp

end Go.Proofs.Ytmbkjnjfipafmaa
