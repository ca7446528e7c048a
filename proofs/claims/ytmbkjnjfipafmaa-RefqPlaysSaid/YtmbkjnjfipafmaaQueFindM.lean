/-
  Contracts of the package queue: find and All (a range over the queue's own iterator), Len. Conditions: the queue is as New and its own calls leave it.
-/
import Derived.Test.YtmbkjnjfipafmaaQueEach
import Derived.Maps.AppendAt
import Derived.RangeFuncNested
import Derived.Test.YtmbkjnjfipafmaaApp
namespace Go.Proofs.Ytmbkjnjfipafmaa
open Go.RowKit Go.Shelf

attribute [local go_sem] Oper.semAt_some

/-- The first place of an id. -/
def fnd (l : List Int) (id : Int) : Option Nat := l.findIdx? (· == id)
def fndI (l : List Int) (id : Int) : Int := match fnd l id with
  | some j => j
  | none => -1
theorem fnd_some {l : List Int} {id : Int} {j : Nat} (h : j < l.length) (h1 : l[j] = id) (h2 : ∀ i x, i < j → l[i]? = some x → x ≠ id) : fnd l id = some j := by
  unfold fnd
  rw [List.findIdx?_eq_some_iff_getElem]
  refine ⟨h, by simp [h1], fun i hi => ?_⟩
  have := h2 i _ hi (List.getElem?_eq_getElem (by omega))
  simpa using this
theorem fnd_none {l : List Int} {id : Int} : fnd l id = none ↔ id ∉ l := by
  unfold fnd
  rw [List.findIdx?_eq_none_iff]
  constructor
  · intro h hm
    have := h id hm
    simp at this
  · intro h x hx
    simp only [beq_eq_false_iff_ne, ne_eq]
    rintro rfl
    exact h hx
theorem fnd_spec {l : List Int} {id : Int} {j : Nat} (h : fnd l id = some j) : ∃ hj : j < l.length, l[j] = id := by
  unfold fnd at h
  rw [List.findIdx?_eq_some_iff_getElem] at h
  obtain ⟨h1, h2, _⟩ := h
  exact ⟨h1, by simpa using h2⟩
theorem pairs_split {l : List Int} {k : Nat} {ini : List (Nat × Int)} {last : Nat × Int} (h : pairs l k = ini ++ [last]) : ∃ j, k = j + 1 ∧ ini = pairs l j ∧ last = (j, l[j]?.getD 0) := by
  cases k with
  | zero => simp [pairs] at h
  | succ j =>
    rw [pairs_succ] at h
    have := List.append_inj' h rfl
    exact ⟨j, rfl, this.1.symm, by simpa using this.2.symm⟩
theorem pairs_mem {l : List Int} {k i : Nat} {x : Int} (hi : i < k) (hx : l[i]? = some x) : (i, x) ∈ pairs l k := by
  unfold pairs
  exact List.mem_map.2 ⟨i, List.mem_range.2 hi, by rw [hx]; rfl⟩

set_option maxRecDepth 100000 in
set_option maxHeartbeats 2000000 in
theorem find_at (b first : Nat) (q : Qu) (ring : Nat → Int) (id : Int) (w : World) (h : QIn w b q first ring) :
    Calls Try.prog 69 #[.pointer (some ⟨b, 0, none⟩), .int .i64 id] w fun e w' => e = .returned (.int .i64 (fndI q.l id)) ∧ Upd [] w w' := by
  have hbs := h.lt
  have H := Lib.hid h; clear h
  refine (callsIn_wide (n := 5)).1 ?_
  refine callsIn_of_wp_marks Try.func69 rfl trivial ?_ rfl
  simp only [Try.ntmps69, List.size_toArray, List.length_cons, List.length_nil, Nat.reduceAdd, Nat.reduceSub, Array.replicate_succ, Array.replicate_zero, List.push_toArray, List.append_toArray, List.nil_append, List.cons_append]
  gi_wp2_with (refine ⟨trivial, ?_⟩; gi_at_call 72; refine (each_in _ _ _).mono ?_; rintro e w' ⟨rfl, rfl⟩)
  have bI := Boxed.new w 3 (.int .i64 id)
  have bR := Boxed.new (w.alloc (.cells #[.int .i64 id] 3)) 3 (.int .i64 0)
  have bN := Boxed.new ((w.alloc (.cells #[.int .i64 id] 3)).alloc (.cells #[.int .i64 0] 3)) 66 (.pointer (some ⟨b, 0, none⟩))
  simp only [World.size_alloc] at bR bN
  have hB0 : Below w.heap.size w (((w.alloc (.cells #[.int .i64 id] 3)).alloc (.cells #[.int .i64 0] 3)).alloc (.cells #[.pointer (some ⟨b, 0, none⟩)] 66)) := (((Below.refl _ w).alloc (Nat.le_refl _) _).alloc (by simp) _).alloc (by simp; omega) _
  have hc2 : (((w.alloc (.cells #[.int .i64 id] 3)).alloc (.cells #[.int .i64 0] 3)).alloc (.cells #[.pointer (some ⟨b, 0, none⟩)] 66)).heap[w.heap.size + 1 + 1]? = some (.cells #[.pointer (some ⟨b, 0, none⟩)] 66 (0, 0)) := bN
  refine wpIn_rangeFunc_ownF rfl (by omega) (gf := 77) (lb := #[.pointer (some ⟨w.heap.size + 1 + 1, 0, none⟩)]) rfl trivial (enters_of Try.func77 (by kernel_rfl) rfl)
    (each_stops 4 (by omega) (w.heap.size + 1 + 1) w.heap.size b first q ring _ (by simp) (by simp; omega) hbs hc2 (H.out.below hB0 hbs)) KpQ.trans (kpQ_b (by simp; omega)) (Below.refl _ _) (fun _ => rfl)
    (fun pre W => ((∀ p ∈ pre, p.2 ≠ id) ∧ W.cell? ⟨w.heap.size, 0, none⟩ = some (.int .i64 id) ∧ W.cell? ⟨w.heap.size + 1, 0, none⟩ = some (.int .i64 0) ∧ W.frozen? ⟨w.heap.size + 1, 0, none⟩ = false) ∧ Below w.heap.size w W)
    (fun c pre W => (c = .ret ∧ ∃ ini last, pre = ini ++ [last] ∧ (∀ p ∈ ini, p.2 ≠ id) ∧ last.2 = id ∧ W.cell? ⟨w.heap.size + 1, 0, none⟩ = some (.int .i64 (last.1 : Int))) ∧ Below w.heap.size w W)
    (OwnFrom.and (Own.from (fun s A B row hs hg hr => ⟨hs.1, cell_kept hs.2.1 hg hr, cell_kept hs.2.2.1 hg hr, (frozen_kept hs.2.2.1 hg hr).trans hs.2.2.2⟩) _) (ownFrom_below (Nat.le_refl _) (by simp; omega)))
    (fun c => OwnFrom.and (Own.from (fun s A B row hs hg hr => by obtain ⟨hc, ini, last, e1, e2, e3, e4⟩ := hs; exact ⟨hc, ini, last, e1, e2, e3, cell_kept e4 hg hr⟩) _) (ownFrom_below (Nat.le_refl _) (by simp; omega)))
    ⟨⟨by simp, ((bI.alloc _).alloc _).cell, (bR.alloc _).cell, (bR.alloc _).frozen⟩, hB0⟩
    (fun x => { tmps := #[.pointer (some ⟨b, 0, none⟩), .int .i64 id, undef, .pointer (some ⟨w.heap.size, 0, none⟩), .pointer (some ⟨w.heap.size + 1, 0, none⟩), .int .i64 (x.1 : Int), .int .i64 x.2, .pointer (some ⟨b, 0, none⟩), .func (.func 77) #[] #[.pointer (some ⟨w.heap.size + 1 + 1, 0, none⟩)], .int .i64 (x.1 : Int), .int .i64 x.2, undef, undef, undef, undef], defers := [] }) ?assign ?body ?done ?stop
  case assign =>
    intro l x W K hK
    gi_wp2
    exact hK
  case body =>
    rintro l pre x W ⟨⟨hp, hcw, hcr, hfr⟩, hB⟩ _
    by_cases hx : x.2 = id
    · have hb1 : (x.2 == id) = true := by simp [hx]
      have HX := Lib.hid hx; clear hx
      gi_wp2
      exact ⟨KeepsOthers.setCell _ _ _, ⟨rfl, pre, x, rfl, hp, HX.out, World.cell?_setCell_same' _ _ _ (by rw [hcr]; rfl)⟩, hB.setCell (p := ⟨w.heap.size + 1, 0, none⟩) (by simp) _⟩
    · have hb1 : (x.2 == id) = false := by simpa using hx
      have HX := Lib.hid hx; clear hx
      gi_wp2
      exact ⟨KeepsOthers.refl _, KpQ.refl _ _ _, ⟨fun y hy => (List.mem_append.1 hy).elim (hp y) (fun e => by simp at e; subst e; exact HX.out), hcw, hcr, hfr⟩, hB⟩
  case done =>
    rintro D ys W hD rfl ⟨⟨hne, _, hcr, hfr⟩, hB⟩ hK
    gi_wp2
    have hK' := (KeepsOthers.setCell W ⟨w.heap.size + 1, 0, none⟩ (.int .i64 (-1))).same D _ hK rfl
    refine ⟨by simp, .inl ⟨_, _, rfl, run_takeDeferred hK', ?_⟩⟩
    have hc5 := cell_kept (World.cell?_setCell_same' W ⟨w.heap.size + 1, 0, none⟩ (.int .i64 (-1)) (by rw [hcr]; rfl)) (grownBy_putObj' _ D (.deferred none)) (fun r e => by cases e; exact ⟨_, hK', rfl⟩)
    have hf : fndI q.l id = -1 := by
      have : fnd q.l id = none := fnd_none.2 (fun hm => by
        obtain ⟨i, hi⟩ := List.mem_iff_getElem?.1 hm
        exact hne _ (pairs_mem (List.getElem?_eq_some_iff.1 hi).1 hi) rfl)
      rw [fndI, this]
    refine ⟨.int .i64 (-1), ?_, by rw [hf], Upd.ofBelow ((hB.setCell (p := ⟨w.heap.size + 1, 0, none⟩) (by simp) _).trans (belowK_b (w := w) (Nat.le_refl _) _ D _ _ (by simp at hD; omega) hK' rfl rfl))⟩
    simp [results, Try.f69, go_sem, hc5]
  case stop =>
    rintro D c pre W hD ⟨k, hk, hpre⟩ ⟨⟨rfl, ini, last, e1, e2, e3, hcr⟩, hB⟩ hK
    gi_wp2
    refine ⟨by simp, .inl ⟨_, _, rfl, run_takeDeferred hK, ?_⟩⟩
    have hc5 := cell_kept hcr (grownBy_putObj' _ D (.deferred none)) (fun r e => by cases e; exact ⟨_, hK, rfl⟩)
    obtain ⟨j, rfl, rfl, rfl⟩ := pairs_split (hpre.symm.trans e1)
    have hjl : j < q.l.length := by omega
    have hf : fndI q.l id = j := by
      have : fnd q.l id = some j := fnd_some hjl (by simpa [hjl] using e3) (fun i x hi hx => e2 _ (pairs_mem hi hx))
      rw [fndI, this]
    refine ⟨.int .i64 j, ?_, by rw [hf], Upd.ofBelow (hB.trans (belowK_b (w := w) (Nat.le_refl _) W D _ _ (by simp at hD; omega) hK rfl rfl))⟩
    simp [results, Try.f69, go_sem, hc5]

theorem clip_at (a : Option Addr) (n c : Nat) (w : World) (hc : n ≤ c) (hm : c ≤ maxLen) : Calls Try.prog 73 #[.slice a n c] w fun e w' => e = .returned (.slice a n n) ∧ w = w' := by
  have hm' : c ≤ 9223372036854775807 := by unfold maxLen at hm; omega
  go_enter Try.func73, Try.ntmps73
  go_wp2
  go_ret
  exact ⟨rfl, rfl⟩

theorem info3 : (Try.prog.info? 3).map (fun i => (i.zero, i.size, i.bytes)) = some (some (.int .i64 0), 1, 8) := by kernel_rfl
/-- A slice that the call made: it can be read, and lies behind all that was there. -/
def Fresh (w w' : World) (v : Value) (n : Nat) (xs : List Value) : Prop := SlAt w' 3 1 v n xs ∧ ∀ x c, v = .slice (some x) n c → w.heap.size ≤ x.block
theorem owns_form {w : World} {base e n : Nat} {v : Value} {xs : List Value} (h : w.ownsRow base e 1 v n xs) :
    ∃ a c, v = .slice a n c ∧ n ≤ c ∧ c ≤ maxLen ∧ (a = none → c = 0) ∧ ∀ x, a = some x → base ≤ x.block := by
  rcases h.2 with ⟨rfl, rfl⟩ | ⟨g, cap, cur, rfl, hb, hg, hn, hc, _⟩
  · have := h.1
    simp at this
    subst this
    exact ⟨none, 0, rfl, Nat.le_refl _, Nat.zero_le _, (fun _ => rfl), (fun x e => by cases e)⟩
  · exact ⟨some ⟨g, 0, none⟩, cap, rfl, hn, hc, (fun e => by cases e), (fun x e => by cases e; exact hb)⟩
theorem SlAt.clip {w : World} {e n c : Nat} {a : Option Addr} {xs : List Value} (h : SlAt w e 1 (.slice a n c) n xs) : SlAt w e 1 (.slice a n n) n xs := by
  obtain ⟨h1, h2, a', c', h3, h4, h5, h6, h7⟩ := h
  simp at h3
  obtain ⟨rfl, rfl⟩ := h3
  exact ⟨h1, h2, a, n, rfl, Nat.le_refl _, by omega, fun e => by have := h6 e; omega, h7⟩
theorem pairs_map (l : List Int) : (pairs l l.length).map (fun p => Value.int .i64 p.2) = l.map (Value.int .i64) := by
  apply List.ext_getElem
  · simp [pairs]
  · intro i h1 h2
    simp [pairs] at h1 ⊢
    simp [h1]
def AllPost (l : List Int) (w : World) (e : Ending) (w' : World) : Prop := ∃ v, e = .returned v ∧ Fresh w w' v l.length (l.map (Value.int .i64)) ∧ Upd [] w w'

set_option maxRecDepth 100000 in
set_option maxHeartbeats 2000000 in
theorem all_at (b first : Nat) (q : Qu) (ring : Nat → Int) (w : World) (h : QIn w b q first ring) :
    Calls Try.prog 49 #[.pointer (some ⟨b, 0, none⟩)] w (AllPost q.l w) := by
  have hbs := h.lt
  have hl64 : q.l.length ≤ 64 := by have := h.ok.2.1; have := h.ok.2.2.1; omega
  have H := Lib.hid h; clear h
  obtain ⟨i0, hi, hz0, hz1, hz2⟩ := info_parts info3
  refine (callsIn_wide (n := 5)).1 ?_
  refine callsIn_of_wp_marks Try.func49 rfl trivial ?_ rfl
  simp only [Try.ntmps49, List.size_toArray, List.length_cons, List.length_nil, Nat.reduceAdd, Nat.reduceSub, Array.replicate_succ, Array.replicate_zero, List.push_toArray, List.append_toArray, List.nil_append, List.cons_append]
  gi_wp2_with (refine ⟨trivial, ?_⟩; gi_at_call 72; refine (each_in _ _ _).mono ?_; rintro e w' ⟨rfl, rfl⟩)
  have bO := Boxed.new w 27 (.slice none 0 0)
  have bN := Boxed.new (w.alloc (.cells #[.slice none 0 0] 27)) 66 (.pointer (some ⟨b, 0, none⟩))
  rw [World.size_alloc] at bN
  have hB0 : Below w.heap.size w ((w.alloc (.cells #[.slice none 0 0] 27)).alloc (.cells #[.pointer (some ⟨b, 0, none⟩)] 66)) := ((Below.refl _ w).alloc (Nat.le_refl _) _).alloc (by simp) _
  refine wpIn_rangeFunc_ownG rfl (by omega) (gf := 77) (lb := #[.pointer (some ⟨w.heap.size + 1, 0, none⟩)]) rfl trivial (enters_of Try.func77 (by kernel_rfl) rfl)
    (each_stops 4 (by omega) (w.heap.size + 1) w.heap.size b first q ring _ (by simp) (by simp; omega) hbs bN (H.out.below hB0 hbs)) KpQ.trans (kpQ_b (by simp; omega)) (Below.refl _ _) (fun _ => rfl)
    (fun pre W => (∃ v, Boxed W w.heap.size 27 v ∧ W.ownsRow w.heap.size 3 1 v pre.length (pre.map fun p => Value.int .i64 p.2) ∧ True) ∧ Below w.heap.size w W ∧ Boxed W (w.heap.size + 1) 66 (.pointer (some ⟨b, 0, none⟩)))
    (fun _ _ _ => False)
    (OwnFrom.and (Own.from (holdsRow_own w.heap.size w.heap.size 27 3 1 (fun pre => pre.length) (fun pre : List (Nat × Int) => pre.map fun p => Value.int .i64 p.2) (fun _ _ => True)) _) (OwnFrom.and (ownFrom_below (Nat.le_refl _) (by simp; omega)) (Own.from (boxed_own (β := List (Nat × Int)) _ _ _) _)))
    (fun _ _ _ _ _ hs _ _ => hs)
    ⟨⟨_, bO.alloc _, World.ownsRow_nil _ _ _ _, trivial⟩, hB0, bN⟩
    (fun x => { tmps := #[.pointer (some ⟨b, 0, none⟩), undef, .slice none 0 0, .pointer (some ⟨w.heap.size, 0, none⟩), undef, .int .i64 x.2, .pointer (some ⟨b, 0, none⟩), .func (.func 77) #[] #[.pointer (some ⟨w.heap.size + 1, 0, none⟩)], .int .i64 (x.1 : Int), .int .i64 x.2, undef, undef, undef, undef, undef, undef], defers := [] }) ?assign ?body ?done ?stop
  case assign =>
    intro l x W K hK
    gi_wp2
    exact hK
  case body =>
    rintro l pre x W ⟨⟨v, hv, hrow, -⟩, hB, hbx⟩ hlt
    have hc := hv.cell
    gi_wp2_with (gi_at_builtin; refine wpListIn_append_own _ rfl _ _ 27 rfl w.heap.size 3 i0 (.int .i64 0) 1 8 Try.underlying27 hi hz0 hz1 hz2 rfl (by decide) _ _ _ rfl (hrow.alloc _) ⟨W.heap.size, 0, none⟩ 1 1 [.int .i64 x.2] rfl rfl (cell_one_new _ _ _) (by simp [Value.oneCell']) (by unfold maxLen; omega) (by omega) (by have := hB.size; simp; omega) ?_; intro v' w1 hown' hgrow _; obtain ⟨g', cap', rfl⟩ := ownsRow_succ hown'; obtain ⟨hv1, hv2, hr2, hk2, hb2⟩ := hv.appended (by decide) hrow hB.size (Nat.le_refl _) hown' hgrow; have hc1 := hv1.cell; have hf1 := hv1.frozen)
    have hbx1 := (hbx.alloc (.cells #[.int .i64 x.2] 3)).kept hgrow (hbx.not_row (by decide) hrow)
    have hbx2 := hbx1.kept (grownBy_setCell' w1 w.heap.size (.slice (some ⟨g', 0, none⟩) (pre.length + 1) cap')) (by simp)
    refine ⟨hk2.from _, ⟨hb2, fun c t f e => ?_⟩, ⟨⟨_, hv2, by simpa using hr2, trivial⟩, hB.trans hb2, hbx2⟩⟩
    rw [show W.heap[w.heap.size + 1]? = _ from hbx] at e
    cases e
    exact hbx2
  case done =>
    rintro D ys W hD rfl ⟨⟨v, hv, hrow, -⟩, hB, -⟩ hK
    have hc := hv.cell
    rw [pairs_map, pairs_len] at hrow
    obtain ⟨a, c, rfl, hac, hcm, hnn, hbase⟩ := owns_form hrow
    have HR := Lib.hid hrow
    clear hrow
    gi_wp2_with (refine ⟨trivial, ?_⟩; gi_at_call 73; refine (callsIn_wide.2 (clip_at a _ c _ hac hcm)).mono ?_; rintro e w' ⟨rfl, rfl⟩)
    refine ⟨by simp, .inl ⟨_, _, rfl, run_takeDeferred hK, ?_⟩⟩
    refine ⟨_, results_tmp rfl _ _ _, _, rfl, ⟨(SlAt.ofOwn (ownsRow_putObj HR.out _ hK rfl) (one_ints _)).clip, fun x c' e => ?_⟩, Upd.ofBelow (hB.trans (belowK_b (w := w) (Nat.le_refl _) W D _ _ (by simp at hD; omega) hK rfl rfl))⟩
    have : a = some x := by have := e; simp at this; exact this.1
    exact hbase x this
  case stop =>
    rintro D c pre W _ _ h _
    exact h.elim
end Go.Proofs.Ytmbkjnjfipafmaa
