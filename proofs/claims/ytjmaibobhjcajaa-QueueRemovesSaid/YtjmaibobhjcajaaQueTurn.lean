/-
  Turns of a queue by numbers, as plain functions; parts of a list. Conditions: none.
-/
import Derived.Test.YtjmaibobhjcajaaQueSame
import Derived.Test.YtjmaibobhjcajaaArgs
namespace Go.Proofs.Ytjmaibobhjcajaa
open Go.RowKit

/-- The cells of a turn. -/
def IsTurn (cs : List Value) : Prop := ∃ d s : Int, cs = [.int .u8 d, .int .u8 s] ∧ (0 ≤ d ∧ d < 256) ∧ 0 ≤ s ∧ s < 256
theorem turns_of {H : Type} {enc : TypeId × Value → H} {w : World} {v : Value} {d : DataW H} {p : List MemPlace}
    (hval : Value.okWide Try.prog w .any 0 22 v) (h : DataW.Trod enc Try.prog w 0 (fun _ => true) true 22 v d p) : ∃ css, Recs w v 2 css ∧ ∀ cs ∈ css, IsTurn cs := by
  refine recs_of Try.underlying22 2 (by kernel_rfl) (by decide) IsTurn (fun n cs y hl ht => ?_) hval h
  match cs, hl with
  | [c0, c1], _ =>
    obtain ⟨_, _, h0⟩ := field_of (c := 1) Try.underlying59 ht 0 _ rfl rfl rfl (by kernel_rfl)
    obtain ⟨_, _, h1⟩ := field_of (c := 1) Try.underlying59 ht 1 _ rfl rfl rfl (by kernel_rfl)
    obtain ⟨x, rfl, wx⟩ := int_cell Try.underlying5 h0
    obtain ⟨z, rfl, wz⟩ := int_cell Try.underlying5 h1
    exact ⟨x, z, rfl, wf_u8 wx, wf_u8 wz⟩

/-- A queue behind a turn. -/
def qturn (q : Qu) (k id : Int) : Qu := if k % 4 = 0 ∨ k % 4 = 1 then q.addS id else if k % 4 = 2 then q.remS id else q.pollS
def runQ (n : Nat) (css : List (List Value)) : Qu := css.foldl (fun q cs => qturn q (intOf (cs.getD 0 undef)) (intOf (cs.getD 1 undef))) ⟨n, []⟩
theorem runQ_snoc (n : Nat) (css : List (List Value)) (k id : Int) : runQ n (css ++ [[.int .u8 k, .int .u8 id]]) = qturn (runQ n css) k id := by
  simp [runQ, intOf]
theorem addS_size (q : Qu) (id : Int) : (q.addS id).size = q.size := by unfold Qu.addS; split <;> rfl
theorem remS_size (q : Qu) (id : Int) : (q.remS id).size = q.size := by unfold Qu.remS; split <;> rfl
theorem qturn_size (q : Qu) (k id : Int) : (qturn q k id).size = q.size := by
  unfold qturn
  repeat' split
  · exact addS_size _ _
  · exact remS_size _ _
  · rfl
theorem addS_nodup {q : Qu} (h : q.l.Nodup) (id : Int) : (q.addS id).l.Nodup := by
  unfold Qu.addS
  split
  · rename_i hc
    show (q.l ++ [id]).Nodup
    rw [List.nodup_append]
    exact ⟨h, by simp, fun a ha b hb => by simp at hb; subst hb; rintro rfl; exact hc.2.2.1 ha⟩
  · exact h
theorem remS_nodup {q : Qu} (h : q.l.Nodup) (id : Int) : (q.remS id).l.Nodup := by
  unfold Qu.remS
  split
  · exact h.sublist (List.eraseIdx_sublist _ _)
  · exact h
theorem qturn_nodup {q : Qu} (h : q.l.Nodup) (k id : Int) : (qturn q k id).l.Nodup := by
  unfold qturn
  repeat' split
  · exact addS_nodup h _
  · exact remS_nodup h _
  · exact h.sublist (List.tail_sublist _)
theorem fold_size (css : List (List Value)) : ∀ q : Qu, (css.foldl (fun q cs => qturn q (intOf (cs.getD 0 undef)) (intOf (cs.getD 1 undef))) q).size = q.size := by
  induction css with
  | nil => intro q; rfl
  | cons c css ih => intro q; rw [List.foldl_cons, ih, qturn_size]
theorem fold_nodup (css : List (List Value)) : ∀ q : Qu, q.l.Nodup → (css.foldl (fun q cs => qturn q (intOf (cs.getD 0 undef)) (intOf (cs.getD 1 undef))) q).l.Nodup := by
  induction css with
  | nil => intro q h; exact h
  | cons c css ih => intro q h; rw [List.foldl_cons]; exact ih _ (qturn_nodup h _ _)
theorem runQ_size (n : Nat) (css : List (List Value)) : (runQ n css).size = n := fold_size css _
theorem runQ_nodup (n : Nat) (css : List (List Value)) : (runQ n css).l.Nodup := fold_nodup css _ (by simp)

/-- Where an id stands among the first k. -/
def atK (l : List Int) (id : Int) (k : Nat) : Int := match fnd l id with
  | some i => if i < k then (i : Int) else -1
  | none => -1
theorem fnd_nodup {l : List Int} (hn : l.Nodup) {k : Nat} (hk : k < l.length) : fnd l l[k] = some k := by
  refine fnd_some hk rfl (fun i x hi hx => ?_)
  rintro rfl
  have hil := (List.getElem?_eq_some_iff.1 hx).1
  have h2 := (List.getElem?_eq_some_iff.1 hx).2
  have := (List.getElem_inj (h₀ := hil) (h₁ := hk) hn).1 h2
  omega
theorem atK_zero (l : List Int) (id : Int) : atK l id 0 = -1 := by unfold atK; split <;> simp
theorem atK_hit {l : List Int} (hn : l.Nodup) {id : Int} {k : Nat} (hk : k < l.length) (h : l[k] = id) : atK l id (k + 1) = k := by
  subst h
  unfold atK; rw [fnd_nodup hn hk]; simp
theorem atK_miss {l : List Int} {id : Int} {k : Nat} (hk : k < l.length) (h : l[k] ≠ id) : atK l id (k + 1) = atK l id k := by
  unfold atK
  cases hf : fnd l id with
  | none => rfl
  | some i =>
    obtain ⟨hi, hx⟩ := fnd_spec hf
    have hne : i ≠ k := by rintro rfl; exact h hx
    show (if i < k + 1 then (i : Int) else -1) = if i < k then (i : Int) else -1
    by_cases h1 : i < k
    · rw [if_pos h1, if_pos (by omega)]
    · rw [if_neg h1, if_neg (by omega)]
theorem atK_all (l : List Int) (id : Int) : atK l id l.length = fndI l id := by
  unfold atK fndI
  cases hf : fnd l id with
  | none => rfl
  | some i =>
    obtain ⟨hi, _⟩ := fnd_spec hf
    show (if i < l.length then (i : Int) else -1) = (i : Int)
    rw [if_pos hi]

/-- Cut at the start: by the capacity that is left. -/
theorem SlAt.drop1 {w : World} {e n c g off : Nat} {xs : List Value} (h : SlAt w e 1 (.slice (some ⟨g, off, none⟩) n c) n xs) {i : Nat} (hi : i ≤ n) (hc : i < c) : SlAt w e 1 (.slice (some ⟨g, off + i, none⟩) (n - i) (c - i)) (n - i) (xs.drop i) := by
  obtain ⟨h1, h2, a', c', h3, h4, h5, h6, h7⟩ := h
  simp at h3
  obtain ⟨rfl, rfl⟩ := h3
  refine ⟨by simp; omega, fun x hx => h2 x (List.mem_of_mem_drop hx), _, _, rfl, by omega, by omega, by simp, ?_⟩
  rcases h7 with h7 | ⟨g', off', cur, ha, hg, hs, hr⟩
  · left; omega
  · simp at ha
    obtain ⟨rfl, rfl⟩ := ha
    refine .inr ⟨g, off + i, cur, rfl, hg, by omega, fun j x hx => ?_⟩
    rw [List.getElem?_drop] at hx
    rw [Nat.add_assoc]
    exact hr (i + j) x hx
theorem sl_empty (w : World) (e : Nat) (a : Option Addr) : SlAt w e 1 (.slice a 0 0) 0 [] :=
  ⟨rfl, by simp, a, 0, rfl, Nat.le_refl _, Nat.zero_le _, fun _ => rfl, .inl rfl⟩

end Go.Proofs.Ytjmaibobhjcajaa
