/-
  A known reference queue: how it begins, and that it agrees. Conditions: none.
-/
import Derived.Test.YtmbkjnjfipafmaaRfTurn
import Derived.BigFrame
namespace Go.Proofs.Ytmbkjnjfipafmaa
open Go.RowKit Go.Maps

theorem step_lenG {P : Program} {w : World} {ops : Array Oper} {o : Oper} {a : Act} {K : Act → World → Prop} {Q : Exit → Act → World → Prop} {E : Prop} (hw : Region.wanted o (yielded ops a.tmps) = true) (m : Operand) (t : TypeId)
    (hop : o.op = Op.call { callee := Callee.builtin Builtin.len, args := #[m], argTypes := #[t] }) (mv : Value) (c : Int) (hm : a.eval m = mv) (hrun : (Builtin.len_ #[t] o.type #[mv]).run P w = .ok (.int .i64 c) w)
    (hK : K (a.put o.dst (.int .i64 c)) w) : if Region.wanted o (yielded ops a.tmps) = true then Oper.wp P o a w K Q else E := by
  rw [if_pos hw]
  unfold Oper.wp
  simp [execOp, hop, resolve, invoke, builtin, hm, hrun, Result.andThen]
  exact hK
theorem HasAt.len {w : World} {h : Nat} {g : Nat → Option Rf} (k : HasAt w h g) (ty : TypeId) :
    (Builtin.len_ #[31] ty #[.map (some h)]).run Try.prog w = .ok (.int .i64 (cardG g)) w := by
  obtain ⟨D, h1, h2⟩ := k
  rw [← h2.size]
  exact h1.len Try.underlying31 ty

set_option maxRecDepth 100000 in
theorem begin_ok (a b : Nat) (ha : a < 256) (hb : b < 256) (w : World) :
    Calls Try.prog 11 #[.int .u8 (a : Int), .int .u8 (b : Int)] w fun e w' => ∃ kb B h, e = .returned (.pointer (some ⟨kb, 0, none⟩)) ∧ KnAt w' kb B h (.slice none 0 0) (rs0 (1 + a) (1 + b % 64)) ∧ (w.heap.size ≤ kb ∧ w.heap.size ≤ h ∧ B.since w.heap.size) ∧ Upd [] w w' := by
  obtain ⟨m, hm⟩ : ∃ m, b % 64 = m := ⟨_, rfl⟩
  have hm64 : m < 64 := by omega
  have e1 : Int.tmod (b : Int) 64 = (m : Int) := by rw [Int.tmod_eq_emod_of_nonneg (by omega), ← hm]; rfl
  rw [hm]
  have hw1 : IntKind.i64.wrap (1 + (a : Int)) = 1 + (a : Int) := IntWalk.i64_in _ (by omega)
  have hw2 : IntKind.i64.wrap (1 + (m : Int)) = 1 + (m : Int) := IntWalk.i64_in _ (by omega)
  clear hm
  have hmm := @run_makeMap Try.prog
  go_enter Try.func11, Try.ntmps11
  go_wp2_with fail
  rw [show (1 : Int) + (a : Int) = ((1 + a : Nat) : Int) by omega, show (1 : Int) + (m : Int) = ((1 + m : Nat) : Int) by omega]
  have hn := rfnew_ok (1 + a) (1 + m) w (by omega) (by omega) (by omega) (by omega)
  clear hw1 hw2 e1
  refine hn.mono ?_; rintro e w1 ⟨B, rfl, r1, hsc, u1⟩
  have R1 := Lib.hid r1; have SC := Lib.hid hsc; have U1 := Lib.hid u1
  clear r1 hsc u1 hn
  go_wp2_with fail
  go_ret
  have hs := U1.out.size
  have u2 : Upd [] w1 ((w1.alloc (.map #[] 0)).alloc (.cells #[.pointer (some ⟨B.b, 0, none⟩), .int .i64 (1 + (a : Int)), .int .i64 (1 + (m : Int)), .map (some w1.heap.size), .slice none 0 0] 33)) := ((Upd.refl _ _).alloc _).alloc _
  refine ⟨w1.heap.size + 1, B, w1.heap.size, rfl, ⟨⟨?_, (hasAt_new w1).upd ((Upd.refl [] _).alloc _) (by simp), sl_empty _ _ _, R1.out.t.ok⟩, R1.out.upd0 u2, ?_, ?_⟩, ⟨by omega, hs, SC.out⟩, U1.out.trans u2⟩
  · have := new_of (w1.alloc (.map #[] 0)) (.cells #[.pointer (some ⟨B.b, 0, none⟩), .int .i64 (1 + (a : Int)), .int .i64 (1 + (m : Int)), .map (some w1.heap.size), .slice none 0 0] 33)
    rw [World.size_alloc] at this
    simpa [rs0] using this
  · intro hm; have := R1.out.lts _ hm; omega
  · intro hm; have := R1.out.lts _ hm; omega

end Go.Proofs.Ytmbkjnjfipafmaa
