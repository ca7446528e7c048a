/-
  clear of a slice of ints that is the call's own. Conditions: none.
-/
import Derived.Test.YtlndkmejmolnhaaPhPlay2
import Derived.Test.YtlndkmejmolnhaaPhG
import Derived.Lib.SliceRun
namespace Go.Proofs.Ytlndkmejmolnhaa
open Go.RowKit Go.Maps

theorem Upd.setCells {S : List Nat} {a : World} {g : Nat} (hg : a.heap.size ≤ g) : ∀ (vs : List Value) (o : Nat) (w : World), Upd S a w → Upd S a (w.setCells g o vs)
  | [], _, _, h => h
  | v :: vs, o, w, h => Upd.setCells hg vs (o + 1) _ (h.setNew (p := ⟨g, o, none⟩) hg v)
theorem clear_own {a w : World} {n : Nat} {v : Value} {xs : List Value} (h : w.ownsRow a.heap.size 3 1 v n xs) (u : Upd [] a w) (ty : TypeId) :
    ∃ w', (Builtin.clear_ #[39] ty #[v]).run Try.prog w = .ok (.tuple #[]) w' ∧ Upd [] a w' := by
  rcases h.2 with ⟨rfl, rfl⟩ | ⟨g, cap, cur, rfl, hb, hg, hn, hc, hs, ht⟩
  · exact ⟨w, by simp [Builtin.clear_, run_underlying Try.underlying39, Result.andThen], u⟩
  · by_cases h0 : n = 0
    · subst h0
      exact ⟨w, by simp [Builtin.clear_, run_underlying Try.underlying39, Result.andThen], u⟩
    · refine ⟨w.setCells g 0 (List.replicate n (.int .i64 0)), ?_, Upd.setCells hb _ _ _ u⟩
      refine Lib.run_clear_slice w 39 3 ty (.int .i64 0) Try.underlying39 zeroI rfl rfl g 0 n cap (by omega) (fun j hj => ?_) (fun j hj => ?_)
      · rw [cell_of hg, Nat.zero_add]
        rw [Array.getElem?_eq_getElem (by omega)]
        rfl
      · exact free_of hg _
/-- clear whose run is known, for the walk. -/
theorem wpList_clear {P : Program} {w w' : World} {ops : Array Oper} {rest : List Oper} {o : Oper} {a : Act} {Q : Exit → Act → World → Prop} (hg : o.guard = none) (m : Operand) (t : TypeId)
    (hop : o.op = Op.call { callee := Callee.builtin Builtin.clear, args := #[m], argTypes := #[t] }) (mv : Value) (hm : a.eval m = mv)
    (hrun : (Builtin.clear_ #[t] o.type #[mv]).run P w = .ok (.tuple #[]) w') (hK : wpList P ops Q rest (a.put o.dst (.tuple #[])) w') : wpList P ops Q (o :: rest) a w := by
  refine wpList_plain hg fun K' hK' => ?_
  unfold Oper.wp
  simp [execOp, hop, resolve, invoke, builtin, hm, hrun, Result.andThen]
  exact hK' _ _ hK

end Go.Proofs.Ytlndkmejmolnhaa
