/-
  The package queue's own iterator 'each': what it hands out, for whatever body keeps what lay. Conditions: the queue is as New and its own calls leave it.
-/
import Derived.RangeFuncBox
import Derived.RangeFuncLeaves
import Derived.RangeFuncBound
import Derived.Shelf.Abstract
import Derived.Stop.RegionWithIn
import Derived.Test.YtmbkjnjfipafmaaQue
import Derived.OwnWalkIn
import Derived.TacticsInMore
import Derived.LoopNIn
import Derived.LoopIn
namespace Go.Proofs.Ytmbkjnjfipafmaa
open Go.RowKit Go.Shelf

attribute [local go_sem] Oper.semAt_some

theorem QIn.below {n₀ : Nat} {A B : World} {b first : Nat} {q : Qu} {ring : Nat → Int} (hq : QIn A b q first ring) (h : Below n₀ A B) (hb : b < n₀) : QIn B b q first ring :=
  ⟨hq.ok, hq.hf, by unfold VRow; rw [h.block b hb]; exact hq.row, hq.rd⟩
/-- What has come when k rounds are over. -/
def pairs (l : List Int) (k : Nat) : List (Nat × Int) := (List.range k).map fun j => (j, l[j]?.getD 0)
theorem pairs_succ (l : List Int) (k : Nat) : pairs l (k + 1) = pairs l k ++ [(k, l[k]?.getD 0)] := by simp [pairs, List.range_succ]
theorem pairs_succ' {l : List Int} {k : Nat} (h : k < l.length) : pairs l (k + 1) = pairs l k ++ [(k, l[k])] := by
  rw [pairs_succ, List.getElem?_eq_getElem h]; rfl
theorem below_drewN (n : Nat) (w : World) (m : Nat) : Below n w (w.drewN m) := ⟨rfl, rfl, rfl, Nat.le_refl _, fun _ _ => rfl⟩
theorem pairs_len (l : List Int) (k : Nat) : (pairs l k).length = k := by simp [pairs]
/-- What a round keeps: all that lay below n₀, and the iterator's own box. -/
def KpQ (n₀ B : Nat) (A C : World) : Prop := Below n₀ A C ∧ ∀ c t f, A.heap[B]? = some (.cells c t f) → C.heap[B]? = some (.cells c t f)
theorem KpQ.refl (n₀ B : Nat) (A : World) : KpQ n₀ B A A := ⟨Below.refl _ _, fun _ _ _ h => h⟩
theorem KpQ.trans {n₀ B : Nat} {A C D : World} (h : KpQ n₀ B A C) (k : KpQ n₀ B C D) : KpQ n₀ B A D := ⟨h.1.trans k.1, fun c t f e => k.2 c t f (h.2 c t f e)⟩
theorem KpQ.drewN (n₀ B : Nat) (A : World) (m : Nat) : KpQ n₀ B A (A.drewN m) := ⟨below_drewN _ _ _, fun _ _ _ h => h⟩
theorem kpQ_b {n₀ B : Nat} {w : World} (hn : n₀ ≤ w.heap.size) (W : World) (l : Nat) (o o' : Obj) (hl : w.heap.size ≤ l) (h : W.heap[l]? = some o) (hc : o.isCells = false) (hw : o.isWalk = false) : KpQ n₀ B W (W.putObj l o') := by
  refine ⟨belowK_b hn W l o o' hl h hc hw, fun c t f e => ?_⟩
  have hne : B ≠ l := by
    rintro rfl
    rw [h] at e; cases e; simp [Obj.isCells] at hc
  rw [(grownBy_putObj' W l o').block B (lt_of_block e) (by simpa using hne)]
  exact e
/-- A round's answer as one word. -/
def Ans (J Jx : World → Prop) (n₀ B : Nat) (W : World) (bb : Bool) (W' : World) : Prop := (bb = true ∧ J W' ∧ KpQ n₀ B W W') ∨ (bb = false ∧ Jx W')

set_option maxRecDepth 100000 in
set_option maxHeartbeats 2000000 in
theorem each1_in (n : Nat) (hn : 1 ≤ n) (l Bq n₀ b first : Nat) (q : Qu) (ring : Nat → Int) (hb : b < n₀) (J Jx : List (Nat × Int) → World → Prop)
    (hY : ∀ pre x W, J pre W → pre.length < q.l.length → YieldAt Fence.wide (n - 1) Try.prog l #[.int .i64 (x.1 : Int), .int .i64 x.2] W fun e W' =>
      (e = .returned (.bool true) ∧ J (pre ++ [x]) W' ∧ KpQ n₀ Bq W W') ∨ (e = .returned (.bool false) ∧ Jx (pre ++ [x]) W'))
    (W : World) (hJ : AbidesFrom W.heap.size J) (hBc : W.heap[Bq]? = some (.cells #[.pointer (some ⟨b, 0, none⟩)] 66 (0, 0))) (hq : QIn W b q first ring) (h0 : J [] W) :
    CallsIn Fence.wide n Try.prog 77 #[.func (.yield l) #[] #[], .pointer (some ⟨Bq, 0, none⟩)] W fun e W' => (∃ v, e = .returned v) ∧
      ((∃ ys, ys = pairs q.l q.l.length ∧ J ys W') ∨ (∃ pre, (∃ k, k ≤ q.l.length ∧ pre = pairs q.l k) ∧ Jx pre W')) := by
  have HQ := Lib.hid hq; clear hq
  have hbc0 : W.cell? ⟨Bq, 0, none⟩ = some (.pointer (some ⟨b, 0, none⟩)) := cell_of hBc 0
  have HBc := Lib.hid hBc; clear hBc
  refine callsIn_of_wp Try.func77 rfl trivial ?_ rfl
  simp only [Try.ntmps77, List.size_toArray, List.length_cons, List.length_nil, Nat.reduceAdd, Nat.reduceSub, Array.replicate_succ, Array.replicate_zero, List.push_toArray, List.append_toArray, List.nil_append, List.cons_append]
  gi_wp2
  gi_loopw [3] (fun i wr => ∃ k : Nat, k ≤ q.l.length ∧ i = .int .i64 k ∧ J (pairs q.l k) wr ∧ KpQ n₀ Bq W wr)
    (fun i _ => q.l.length - (intOf i).toNat)
  case atStart => exact ⟨0, Nat.zero_le _, rfl, h0, KpQ.refl _ _ _⟩
  case round =>
    obtain ⟨k, hk, rfl, hJs, hnx⟩ := hrel
    have hq := HQ.out.below hnx.1 hb
    have hbc : wr.cell? ⟨Bq, 0, none⟩ = some (.pointer (some ⟨b, 0, none⟩)) := cell_of (hnx.2 _ _ _ HBc.out) 0
    have c2 := hq.c2
    have hok := hq.ok
    have hk64 : k ≤ 64 := by have := hok.2.1; have := hok.2.2.1; omega
    by_cases hlt : k < q.l.length
    · have cl := hq.cl hlt
      have HQR := Lib.hid hq; clear hq
      have hJd : ∀ m, J (pairs q.l k) (wr.drewN m) := fun m => hJ _ _ _ none hJs ⟨rfl, rfl, rfl, Nat.le_refl _, fun _ _ _ => rfl⟩ (fun r e => by cases e)
      have HJD := Lib.hid hJd; clear hJd
      have HY := Lib.hid (fun m => hY _ (k, q.l[k]) (wr.drewN m) (HJD.out m) (by rw [pairs_len]; exact hlt))
      have hA := (callsIn_wide (n := n - 1)).2 (HQR.out.drew.qat k hk64)
      have hj64 : (first + k) % q.size < 64 := by have := Nat.mod_lt (first + k) hok.1; have := hok.2.1; omega
      generalize (first + k) % q.size = j at *
      gi_wp2_with (refine ⟨trivial, ?_⟩; gi_at_call 68; refine (callsIn_wide.2 HQR.out.valid).mono ?_; rintro e w' ⟨rfl, rfl⟩)
      gi_region_with (first | (refine hR2.mono ?_; rintro e W3 ⟨bb, rfl, hans⟩; clear hR2 hy) | (refine ⟨trivial, ?_⟩; gi_at_call 70; refine hA.mono ?_; rintro e w' ⟨rfl, m, rfl⟩;  obtain ⟨fn, tmps, assign, body, hy, hR⟩ := HY.out (1 + m); (try dsimp only at hy); have hR2 := hR.mono (R' := fun e W' => ∃ bb : Bool, e = .returned (.bool bb) ∧ Ans (J (pairs q.l k ++ [(k, q.l[k])])) (Jx (pairs q.l k ++ [(k, q.l[k])])) n₀ Bq (wr.drewN (1 + m)) bb W') (fun e W' h => by rcases h with ⟨h1, h2, h3⟩ | ⟨h1, h2⟩; exact ⟨_, h1, .inl ⟨rfl, h2, h3⟩⟩; exact ⟨_, h1, .inr ⟨rfl, h2⟩⟩); clear hR))
      all_goals
        rcases hans with ⟨rfl, hJ3, hk3⟩ | ⟨rfl, hJx3⟩
        · gi_wp2
          go_roundw
          case rel => exact ⟨k + 1, by omega, by go_num, by rw [pairs_succ' hlt]; exact hJ3, hnx.trans ((KpQ.drewN _ _ _ _).trans hk3)⟩
          case measure => simp [intOf]; omega
        · gi_wp2
          refine bodyPost_ret (results_none rfl _ _ _) rfl ?_
          exact ⟨⟨_, rfl⟩, .inr ⟨_, ⟨k + 1, by omega, (pairs_succ' hlt).symm⟩, hJx3⟩⟩
    · obtain rfl : k = q.l.length := by omega
      have HQR := Lib.hid hq; clear hq
      gi_wp2_with (refine ⟨trivial, ?_⟩; gi_at_call 68; refine (callsIn_wide.2 HQR.out.valid).mono ?_; rintro e w' ⟨rfl, rfl⟩)
      go_end0
      exact ⟨⟨_, rfl⟩, .inl ⟨_, rfl, hJs⟩⟩

set_option maxHeartbeats 1000000 in
theorem each_in (n : Nat) (p : Option Addr) (w : World) :
    CallsIn Fence.wide n Try.prog 72 #[.pointer p] w fun e w' => e = .returned (.func (.func 77) #[] #[.pointer (some ⟨w.heap.size, 0, none⟩)]) ∧ w' = w.alloc (.cells #[.pointer p] 66) := by
  refine callsIn_of_wp Try.func72 rfl trivial ?_ rfl
  simp only [Try.ntmps72, List.size_toArray, List.length_cons, List.length_nil, Nat.reduceAdd, Nat.reduceSub, Array.replicate_succ, Array.replicate_zero, List.push_toArray, List.append_toArray, List.nil_append, List.cons_append]
  gi_wp2
  go_ret
  exact ⟨rfl, rfl⟩

/-- 'each' hands out all pairs, or the first few, for whatever body keeps what lay below n₀. -/
theorem each_stops (n : Nat) (hn : 1 ≤ n) (Bq n₀ b first : Nat) (q : Qu) (ring : Nat → Int) (w : World) (hB : Bq < w.heap.size) (hn₀ : n₀ ≤ w.heap.size) (hb : b < n₀)
    (hc : w.heap[Bq]? = some (.cells #[.pointer (some ⟨b, 0, none⟩)] 66 (0, 0))) (hq : QIn w b q first ring) :
    SeqStopsK Fence.wide n Try.prog 77 #[.pointer (some ⟨Bq, 0, none⟩)] (fun x : Nat × Int => #[Value.int .i64 (x.1 : Int), Value.int .i64 x.2]) (KpQ n₀ Bq) (fun ys => ys = pairs q.l q.l.length)
      (fun pre => ∃ k, k ≤ q.l.length ∧ pre = pairs q.l k) q.l.length w := fun l J Jx W hW hJ _ hY h0 =>
  each1_in n hn l Bq n₀ b first q ring hb J Jx hY W hJ ((hW.block Bq hB).trans hc) (hq.below (hW.mono hn₀) hb) h0

end Go.Proofs.Ytmbkjnjfipafmaa
