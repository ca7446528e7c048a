/-
  Contracts of the package queue at queues that are nil, or zero. Conditions: none.
-/
import Derived.Test.YtjmaibobhjcajaaQueSame
namespace Go.Proofs.Ytjmaibobhjcajaa
open Go.RowKit Go.Shelf

attribute [local go_sem] Oper.semAt_some

/-- A queue that is nil, or zero. -/
def NoQ (w : World) (p : Option Addr) : Prop := p = none ∨ ∃ b cs, p = some ⟨b, 0, none⟩ ∧ w.heap[b]? = some (.cells cs 55 (0, 0)) ∧ cs[0]? = some (.int .i64 0)
theorem NoQ.upd {w w' : World} {p : Option Addr} (h : NoQ w p) (u : Upd [] w w') : NoQ w' p := by
  rcases h with h | ⟨b, cs, h, hb, h0⟩
  · exact .inl h
  · exact .inr ⟨b, cs, h, u.keep hb (by simp), h0⟩
theorem NoQ.below {w w' : World} {p : Option Addr} (h : NoQ w p) (u : Below w.heap.size w w') : NoQ w' p := h.upd (Upd.ofBelow u)
theorem nvalid (p : Option Addr) (w : World) (h : NoQ w p) : Calls Try.prog 37 #[.pointer p] w fun e w' => e = .returned (.bool false) ∧ w = w' := by
  rcases h with rfl | ⟨b, cs, rfl, hb, h0⟩
  · go_enter Try.func37, Try.ntmps37
    go_wp2
    go_ret
    exact ⟨rfl, rfl⟩
  · have c1 : w.cell? ⟨b, 0, none⟩ = some (.int .i64 0) := by rw [cell_of hb]; exact h0
    clear hb h0
    go_enter Try.func37, Try.ntmps37
    go_wp2
    go_ret
    exact ⟨rfl, rfl⟩
theorem each1_nil (n : Nat) (hn : 1 ≤ n) (l Bq : Nat) (p : Option Addr) (J Jx : List (Nat × Int) → World → Prop)
    (W : World) (hBc : W.heap[Bq]? = some (.cells #[.pointer p] 24 (0, 0))) (hq : NoQ W p) (h0 : J [] W) :
    CallsIn Fence.wide n Try.prog 42 #[.func (.yield l) #[] #[], .pointer (some ⟨Bq, 0, none⟩)] W fun e W' => (∃ v, e = .returned v) ∧
      ((∃ ys, ys = [] ∧ J ys W') ∨ (∃ pre, pre = [] ∧ Jx pre W')) := by
  have HQ := Lib.hid hq; clear hq
  have hbc0 : W.cell? ⟨Bq, 0, none⟩ = some (.pointer p) := cell_of hBc 0
  clear hBc
  refine callsIn_of_wp Try.func42 rfl trivial ?_ rfl
  simp only [Try.ntmps42, List.size_toArray, List.length_cons, List.length_nil, Nat.reduceAdd, Nat.reduceSub, Array.replicate_succ, Array.replicate_zero, List.push_toArray, List.append_toArray, List.nil_append, List.cons_append]
  gi_wp2
  gi_loopw [3] (fun i wr => i = .int .i64 0 ∧ W = wr) (fun _ _ => 0)
  case atStart => exact ⟨rfl, rfl⟩
  case round =>
    obtain ⟨rfl, rfl⟩ := hrel
    gi_wp2_with (refine ⟨trivial, ?_⟩; gi_at_call 37; refine (callsIn_wide.2 (nvalid p _ HQ.out)).mono ?_; rintro e w' ⟨rfl, rfl⟩)
    go_end0
    exact ⟨⟨_, rfl⟩, .inl ⟨_, rfl, h0⟩⟩
theorem each_nil (n : Nat) (hn : 1 ≤ n) (Bq n₀ : Nat) (p : Option Addr) (w : World) (hB : Bq < w.heap.size)
    (hc : w.heap[Bq]? = some (.cells #[.pointer p] 24 (0, 0))) (hq : NoQ w p) :
    SeqStopsK Fence.wide n Try.prog 42 #[.pointer (some ⟨Bq, 0, none⟩)] (fun x : Nat × Int => #[Value.int .i64 (x.1 : Int), Value.int .i64 x.2]) (KpQ n₀ Bq) (fun ys => ys = [])
      (fun pre => pre = []) 0 w := fun l J Jx W hW _ _ _ h0 => each1_nil n hn l Bq p J Jx W ((hW.block Bq hB).trans hc) (hq.below hW) h0

set_option maxRecDepth 100000 in
set_option maxHeartbeats 2000000 in
theorem nfind (p : Option Addr) (id : Int) (w : World) (h : NoQ w p) :
    Calls Try.prog 39 #[.pointer p, .int .i64 id] w fun e w' => e = .returned (.int .i64 (-1)) ∧ Upd [] w w' := by
  have H := Lib.hid h; clear h
  refine (callsIn_wide (n := 5)).1 ?_
  refine callsIn_of_wp_marks Try.func39 rfl trivial ?_ rfl
  simp only [Try.ntmps39, List.size_toArray, List.length_cons, List.length_nil, Nat.reduceAdd, Nat.reduceSub, Array.replicate_succ, Array.replicate_zero, List.push_toArray, List.append_toArray, List.nil_append, List.cons_append]
  gi_wp2_with (refine ⟨trivial, ?_⟩; gi_at_call 35; refine (each_in _ _ _).mono ?_; rintro e w' ⟨rfl, rfl⟩)
  have bI := Boxed.new w 3 (.int .i64 id)
  have bR := Boxed.new (w.alloc (.cells #[.int .i64 id] 3)) 3 (.int .i64 0)
  have bN := Boxed.new ((w.alloc (.cells #[.int .i64 id] 3)).alloc (.cells #[.int .i64 0] 3)) 24 (.pointer p)
  simp only [World.size_alloc] at bR bN
  have hB0 : Below w.heap.size w (((w.alloc (.cells #[.int .i64 id] 3)).alloc (.cells #[.int .i64 0] 3)).alloc (.cells #[.pointer p] 24)) := (((Below.refl _ w).alloc (Nat.le_refl _) _).alloc (by simp) _).alloc (by simp; omega) _
  have hc2 : (((w.alloc (.cells #[.int .i64 id] 3)).alloc (.cells #[.int .i64 0] 3)).alloc (.cells #[.pointer p] 24)).heap[w.heap.size + 1 + 1]? = some (.cells #[.pointer p] 24 (0, 0)) := bN
  refine wpIn_rangeFunc_ownF rfl (by omega) (gf := 42) (lb := #[.pointer (some ⟨w.heap.size + 1 + 1, 0, none⟩)]) rfl trivial (enters_of Try.func42 (by kernel_rfl) rfl)
    (each_nil 4 (by omega) (w.heap.size + 1 + 1) w.heap.size p _ (by simp) hc2 (H.out.below hB0)) KpQ.trans (kpQ_b (by simp; omega)) (Below.refl _ _) (fun _ => rfl)
    (fun pre W => ((∀ p ∈ pre, p.2 ≠ id) ∧ W.cell? ⟨w.heap.size, 0, none⟩ = some (.int .i64 id) ∧ W.cell? ⟨w.heap.size + 1, 0, none⟩ = some (.int .i64 0) ∧ W.frozen? ⟨w.heap.size + 1, 0, none⟩ = false) ∧ Below w.heap.size w W)
    (fun c pre W => (c = .ret ∧ ∃ ini last, pre = ini ++ [last] ∧ (∀ p ∈ ini, p.2 ≠ id) ∧ last.2 = id ∧ W.cell? ⟨w.heap.size + 1, 0, none⟩ = some (.int .i64 (last.1 : Int))) ∧ Below w.heap.size w W)
    (OwnFrom.and (Own.from (fun s A B row hs hg hr => ⟨hs.1, cell_kept hs.2.1 hg hr, cell_kept hs.2.2.1 hg hr, (frozen_kept hs.2.2.1 hg hr).trans hs.2.2.2⟩) _) (ownFrom_below (Nat.le_refl _) (by simp; omega)))
    (fun c => OwnFrom.and (Own.from (fun s A B row hs hg hr => by obtain ⟨hc, ini, last, e1, e2, e3, e4⟩ := hs; exact ⟨hc, ini, last, e1, e2, e3, cell_kept e4 hg hr⟩) _) (ownFrom_below (Nat.le_refl _) (by simp; omega)))
    ⟨⟨by simp, ((bI.alloc _).alloc _).cell, (bR.alloc _).cell, (bR.alloc _).frozen⟩, hB0⟩
    (fun x => { tmps := #[.pointer p, .int .i64 id, undef, .pointer (some ⟨w.heap.size, 0, none⟩), .pointer (some ⟨w.heap.size + 1, 0, none⟩), .int .i64 (x.1 : Int), .int .i64 x.2, .pointer p, .func (.func 42) #[] #[.pointer (some ⟨w.heap.size + 1 + 1, 0, none⟩)], .int .i64 (x.1 : Int), .int .i64 x.2, undef, undef, undef, undef], defers := [] }) ?assign ?body ?done ?stop
  case assign =>
    intro l x W K hK
    gi_wp2
    exact hK
  case body =>
    rintro l pre x W _ hlt
    exact absurd hlt (Nat.not_lt_zero _)
  case done =>
    rintro D ys W hD rfl ⟨⟨hne, _, hcr, hfr⟩, hB⟩ hK
    gi_wp2
    have hK' := (KeepsOthers.setCell W ⟨w.heap.size + 1, 0, none⟩ (.int .i64 (-1))).same D _ hK rfl
    refine ⟨by simp, .inl ⟨_, _, rfl, run_takeDeferred hK', ?_⟩⟩
    have hc5 := cell_kept (World.cell?_setCell_same' W ⟨w.heap.size + 1, 0, none⟩ (.int .i64 (-1)) (by rw [hcr]; rfl)) (grownBy_putObj' _ D (.deferred none)) (fun r e => by cases e; exact ⟨_, hK', rfl⟩)
    refine ⟨.int .i64 (-1), ?_, rfl, Upd.ofBelow ((hB.setCell (p := ⟨w.heap.size + 1, 0, none⟩) (by simp) _).trans (belowK_b (w := w) (Nat.le_refl _) _ D _ _ (by simp at hD; omega) hK' rfl rfl))⟩
    simp [results, Try.f39, go_sem, hc5]
  case stop =>
    rintro D c pre W hD hpre ⟨⟨rfl, ini, last, e1, -, -, -⟩, -⟩ hK
    subst hpre
    simp at e1

set_option maxRecDepth 100000 in
set_option maxHeartbeats 2000000 in
theorem nall (p : Option Addr) (w : World) (h : NoQ w p) : Calls Try.prog 14 #[.pointer p] w (AllPost [] w) := by
  have H := Lib.hid h; clear h
  obtain ⟨i0, hi, hz0, hz1, hz2⟩ := info_parts info3
  refine (callsIn_wide (n := 5)).1 ?_
  refine callsIn_of_wp_marks Try.func14 rfl trivial ?_ rfl
  simp only [Try.ntmps14, List.size_toArray, List.length_cons, List.length_nil, Nat.reduceAdd, Nat.reduceSub, Array.replicate_succ, Array.replicate_zero, List.push_toArray, List.append_toArray, List.nil_append, List.cons_append]
  gi_wp2_with (refine ⟨trivial, ?_⟩; gi_at_call 35; refine (each_in _ _ _).mono ?_; rintro e w' ⟨rfl, rfl⟩)
  have bO := Boxed.new w 25 (.slice none 0 0)
  have bN := Boxed.new (w.alloc (.cells #[.slice none 0 0] 25)) 24 (.pointer p)
  rw [World.size_alloc] at bN
  have hB0 : Below w.heap.size w ((w.alloc (.cells #[.slice none 0 0] 25)).alloc (.cells #[.pointer p] 24)) := ((Below.refl _ w).alloc (Nat.le_refl _) _).alloc (by simp) _
  refine wpIn_rangeFunc_ownG rfl (by omega) (gf := 42) (lb := #[.pointer (some ⟨w.heap.size + 1, 0, none⟩)]) rfl trivial (enters_of Try.func42 (by kernel_rfl) rfl)
    (each_nil 4 (by omega) (w.heap.size + 1) w.heap.size p _ (by simp) bN (H.out.below hB0)) KpQ.trans (kpQ_b (by simp; omega)) (Below.refl _ _) (fun _ => rfl)
    (fun pre W => (∃ v, Boxed W w.heap.size 25 v ∧ W.ownsRow w.heap.size 3 1 v pre.length (pre.map fun p => Value.int .i64 p.2) ∧ True) ∧ Below w.heap.size w W ∧ Boxed W (w.heap.size + 1) 24 (.pointer p))
    (fun _ _ _ => False)
    (OwnFrom.and (Own.from (holdsRow_own w.heap.size w.heap.size 25 3 1 (fun pre => pre.length) (fun pre : List (Nat × Int) => pre.map fun p => Value.int .i64 p.2) (fun _ _ => True)) _) (OwnFrom.and (ownFrom_below (Nat.le_refl _) (by simp; omega)) (Own.from (boxed_own (β := List (Nat × Int)) _ _ _) _)))
    (fun _ _ _ _ _ hs _ _ => hs)
    ⟨⟨_, bO.alloc _, World.ownsRow_nil _ _ _ _, trivial⟩, hB0, bN⟩
    (fun x => { tmps := #[.pointer p, undef, .slice none 0 0, .pointer (some ⟨w.heap.size, 0, none⟩), undef, .int .i64 x.2, .pointer p, .func (.func 42) #[] #[.pointer (some ⟨w.heap.size + 1, 0, none⟩)], .int .i64 (x.1 : Int), .int .i64 x.2, undef, undef, undef, undef, undef, undef], defers := [] }) ?assign ?body ?done ?stop
  case assign =>
    intro l x W K hK
    gi_wp2
    exact hK
  case body =>
    rintro l pre x W _ hlt
    exact absurd hlt (Nat.not_lt_zero _)
  case done =>
    rintro D ys W hD rfl ⟨⟨v, hv, hrow, -⟩, hB, -⟩ hK
    have hc := hv.cell
    obtain ⟨a, c, rfl, hac, hcm, hnn, hbase⟩ := owns_form hrow
    have HR := Lib.hid hrow
    clear hrow
    gi_wp2_with (refine ⟨trivial, ?_⟩; gi_at_call 36; refine (callsIn_wide.2 (clip_at a _ c _ hac hcm)).mono ?_; rintro e w' ⟨rfl, rfl⟩)
    refine ⟨by simp, .inl ⟨_, _, rfl, run_takeDeferred hK, ?_⟩⟩
    refine ⟨_, results_tmp rfl _ _ _, _, rfl, ⟨(SlAt.ofOwn (ownsRow_putObj HR.out _ hK rfl) (by simp)).clip, fun x c' e => ?_⟩, Upd.ofBelow (hB.trans (belowK_b (w := w) (Nat.le_refl _) W D _ _ (by simp at hD; omega) hK rfl rfl))⟩
    have : a = some x := by have := e; simp at this; exact this.1
    exact hbase x this
  case stop =>
    rintro D c pre W _ _ h _
    exact h.elim
theorem nlen (p : Option Addr) (w : World) (h : NoQ w p) : Calls Try.prog 18 #[.pointer p] w fun e w' => e = .returned (.int .i64 0) ∧ Upd [] w w' := by
  have H := Lib.hid h; clear h
  go_enter Try.func18, Try.ntmps18
  go_wp2_with fail
  refine (nall p _ H.out).mono ?_; rintro e w1 ⟨v, rfl, hf, u⟩
  obtain ⟨a, c, rfl, hc⟩ := hf.1.form
  go_wp2_with fail
  go_ret
  exact ⟨rfl, u⟩
theorem nrem (p : Option Addr) (id : Int) (w : World) (h : NoQ w p) : Calls Try.prog 19 #[.pointer p, .int .i64 id] w fun e w' => e = .returned (.bool false) ∧ Upd [] w w' := by
  have H := Lib.hid h; clear h
  go_enter Try.func19, Try.ntmps19
  go_wp2_with fail
  refine (nfind p id _ H.out).mono ?_; rintro e w1 ⟨rfl, u⟩
  go_wp2_with fail
  go_ret
  exact ⟨rfl, u⟩
theorem nadd (p : Option Addr) (m : Int) (w : World) (h : NoQ w p) : Calls Try.prog 16 #[.pointer p, .int .i64 m] w fun e w' => e = .returned (.int .i64 1) ∧ w = w' := by
  have H := Lib.hid h; clear h
  go_enter Try.func16, Try.ntmps16
  go_wp2_with (go_at_call 37; refine (nvalid p _ H.out).mono ?_; rintro e w' ⟨rfl, rfl⟩)
  go_ret
  exact ⟨rfl, rfl⟩
theorem npoll (p : Option Addr) (w : World) (h : NoQ w p) : Calls Try.prog 17 #[.pointer p] w fun e w' => e = .returned (.tuple #[.int .i64 0, .bool false]) ∧ w = w' := by
  have H := Lib.hid h; clear h
  go_enter Try.func17, Try.ntmps17
  go_wp2_with (go_at_call 37; refine (nvalid p _ H.out).mono ?_; rintro e w' ⟨rfl, rfl⟩)
  go_ret2
  exact ⟨rfl, rfl⟩
theorem npeek (p : Option Addr) (m : Int) (w : World) (h : NoQ w p) : Calls Try.prog 15 #[.pointer p, .int .i64 m] w fun e w' => e = .returned (.tuple #[.int .i64 0, .int .i64 1]) ∧ w = w' := by
  have H := Lib.hid h; clear h
  go_enter Try.func15, Try.ntmps15
  go_wp2_with (go_at_call 37; refine (nvalid p _ H.out).mono ?_; rintro e w' ⟨rfl, rfl⟩)
  go_ret2
  exact ⟨rfl, rfl⟩
theorem ndrain (p : Option Addr) (m : Int) (w : World) (h : NoQ w p) : Calls Try.prog 22 #[.pointer p, .int .i64 m] w fun e w' => e = .returned (.tuple #[.slice none 0 0, .int .i64 1]) ∧ w = w' := by
  have H := Lib.hid h; clear h
  go_enter Try.func22, Try.ntmps22
  go_wp2_with (go_at_call 37; refine (nvalid p _ H.out).mono ?_; rintro e w' ⟨rfl, rfl⟩)
  go_ret2
  exact ⟨rfl, rfl⟩
theorem nroom (p : Option Addr) (w : World) (h : NoQ w p) : Calls Try.prog 20 #[.pointer p] w fun e w' => e = .returned (.int .i64 0) ∧ w = w' := by
  have H := Lib.hid h; clear h
  go_enter Try.func20, Try.ntmps20
  go_wp2_with (go_at_call 37; refine (nvalid p _ H.out).mono ?_; rintro e w' ⟨rfl, rfl⟩)
  go_ret
  exact ⟨rfl, rfl⟩
theorem ncopy (p : Option Addr) (w : World) (h : NoQ w p) : Calls Try.prog 29 #[.pointer p] w fun e w' => e = .returned (.pointer none) ∧ w = w' := by
  have H := Lib.hid h; clear h
  go_enter Try.func29, Try.ntmps29
  go_wp2_with (go_at_call 37; refine (nvalid p _ H.out).mono ?_; rintro e w' ⟨rfl, rfl⟩)
  go_ret
  exact ⟨rfl, rfl⟩

end Go.Proofs.Ytjmaibobhjcajaa
