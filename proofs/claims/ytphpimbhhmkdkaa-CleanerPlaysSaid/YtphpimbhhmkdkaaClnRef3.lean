/-
  The document's table: a new one, a copy. Conditions: none.
-/
import Derived.Test.YtphpimbhhmkdkaaClnRef2
namespace Go.Proofs.Ytphpimbhhmkdkaa
open Go.RowKit Go.Maps

def z68 : Array Value := tC (fun _ => 0)
theorem zero68 (w : World) : (zeroValue 68).run Try.prog w = .ok (.agg z68) w := by kernel_rfl
theorem rnew_at (w : World) : Calls Try.prog 20 #[] w fun e w' => e = .returned (.pointer (some ⟨w.heap.size, 0, none⟩)) ∧ RAt w' w.heap.size (fun _ => 0) ∧ Upd [] w w' := by
  have hz := zero68
  go_enter Try.func20, Try.ntmps20
  go_wp2
  go_ret
  exact ⟨rfl, new_of _ _, (Upd.refl _ _).alloc _⟩
theorem fold_all (a z : Array Value) (h : z.size = a.size) : Array.foldl (fun (cs : Array Value) (x : Value × Nat) => cs.setIfInBounds x.snd x.fst) z a.zipIdx 0 a.size = a := by
  have key : (a.zipIdx.foldl (fun (cs : Array Value) (x : Value × Nat) => cs.setIfInBounds x.snd x.fst) z).size = a.size ∧ ∀ j, j < a.zipIdx.size → (a.zipIdx.foldl (fun (cs : Array Value) (x : Value × Nat) => cs.setIfInBounds x.snd x.fst) z)[j]? = a[j]? := by
    refine Array.foldl_induction (motive := fun i (b : Array Value) => b.size = a.size ∧ ∀ j, j < i → b[j]? = a[j]?) ⟨h, fun j hj => absurd hj (by omega)⟩ ?_
    intro i b hb
    have hi : i.1 < a.size := by have := i.2; simpa using this
    refine ⟨by simpa using hb.1, fun j hj => ?_⟩
    simp only [Fin.getElem_fin, Array.getElem_zipIdx, Nat.zero_add, Array.getElem?_setIfInBounds]
    by_cases e : i.1 = j
    · subst e
      rw [if_pos rfl, if_pos (by rw [hb.1]; exact hi)]
      exact (Array.getElem?_eq_getElem hi).symm
    · rw [if_neg e]; exact hb.2 j (by omega)
  rw [Array.size_zipIdx] at key
  apply Array.ext_getElem?
  intro j
  by_cases hj : j < a.size
  · exact key.2 j hj
  · rw [Array.getElem?_eq_none (show (Array.foldl (fun (cs : Array Value) (x : Value × Nat) => cs.setIfInBounds x.snd x.fst) z a.zipIdx 0 a.size).size ≤ j by rw [key.1]; omega), Array.getElem?_eq_none (by omega)]
set_option maxRecDepth 100000 in
theorem rcopy_at (r : Nat) (f : Nat → Nat) (w : World) (h : RAt w r f) :
    Calls Try.prog 26 #[.pointer (some ⟨r, 0, none⟩)] w fun e w' => e = .returned (.pointer (some ⟨w.heap.size, 0, none⟩)) ∧ RAt w' w.heap.size f ∧ Upd [] w w' := by
  have hi : (Try.prog.info? 66).map (·.size) = some (tC f).size := by rw [tC_size]; kernel_rfl
  have H := Lib.hid h; clear h
  have HI := Lib.hid hi; clear hi
  have hz := zero68
  go_enter Try.func26, Try.ntmps26
  go_wp2_with (refine wpList_load_row rfl 66 _ rfl r rfl 68 _ (0, 0) _ H.out Try.underlying66 rfl HI.out ?_)
  case inl h => simp [tC_size, z68] at h
  all_goals
    rw [fold_all _ _ (by unfold z68; rw [tC_size, tC_size])]
    go_ret
    exact ⟨rfl, new_of _ _, (Upd.refl _ _).alloc _⟩

end Go.Proofs.Ytphpimbhhmkdkaa
