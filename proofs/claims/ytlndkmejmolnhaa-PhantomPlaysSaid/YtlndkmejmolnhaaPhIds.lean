/-
  Contract of the package phantom: Ids: the ids that watch something, in order. Conditions: the table is as New and its own calls leave it.
-/
import Derived.Test.YtlndkmejmolnhaaPhSort
namespace Go.Proofs.Ytlndkmejmolnhaa
open Go.RowKit Go.Maps

/-- The ids that watch something, in order. -/
def idsG (g : Nat → Option Rf) : List Int := ((List.range 256).filter fun i => (g i).isSome).map fun i : Nat => (i : Int)
theorem idsG_length (g : Nat → Option Rf) : (idsG g).length = cardG g := by
  unfold idsG cardG cntP; simp
theorem idsG_mem (g : Nat → Option Rf) (x : Int) : x ∈ idsG g ↔ ∃ i : Nat, i < 256 ∧ (g i).isSome = true ∧ x = i := by
  unfold idsG
  simp only [List.mem_map, List.mem_filter, List.mem_range]
  constructor
  · rintro ⟨i, ⟨h1, h2⟩, rfl⟩; exact ⟨i, h1, h2, rfl⟩
  · rintro ⟨i, h1, h2, rfl⟩; exact ⟨i, ⟨h1, h2⟩, rfl⟩
theorem idsG_rising (g : Nat → Option Rf) : (idsG g).Pairwise (· < ·) := by
  unfold idsG
  rw [List.pairwise_map]
  refine List.Pairwise.filter _ ?_
  refine (List.pairwise_lt_range (n := 256)).imp ?_
  intro a b h
  omega
theorem rising_eq : ∀ (l k : List Int), l.Pairwise (· < ·) → k.Pairwise (· < ·) → (∀ x, x ∈ l ↔ x ∈ k) → l = k
  | [], [], _, _, _ => rfl
  | [], y :: k, _, _, h => by have := (h y).2 (by simp); simp at this
  | x :: l, [], _, _, h => by have := (h x).1 (by simp); simp at this
  | x :: l, y :: k, h1, h2, h => by
    obtain ⟨a1, a2⟩ := List.pairwise_cons.1 h1
    obtain ⟨b1, b2⟩ := List.pairwise_cons.1 h2
    have hxy : x = y := by
      have c1 := (h x).1 (by simp)
      have c2 := (h y).2 (by simp)
      rcases List.mem_cons.1 c1 with c1 | c1
      · exact c1
      · rcases List.mem_cons.1 c2 with c2 | c2
        · exact c2.symm
        · have := b1 x c1; have := a1 y c2; omega
    subst hxy
    rw [rising_eq l k a2 b2 fun z => ?_]
    constructor
    · intro hz
      rcases List.mem_cons.1 ((h z).1 (List.mem_cons_of_mem _ hz)) with e | e
      · subst e; have := a1 z hz; omega
      · exact e
    · intro hz
      rcases List.mem_cons.1 ((h z).2 (List.mem_cons_of_mem _ hz)) with e | e
      · subst e; have := b1 z hz; omega
      · exact e
theorem srt_perm (l : List Int) : (srt l).Perm l := List.mergeSort_perm l _
theorem srt_rising (l : List Int) (h : l.Nodup) : (srt l).Pairwise (· < ·) := by
  have h1 : (srt l).Pairwise (fun a b => decide (a ≤ b) = true) := List.pairwise_mergeSort (fun a b c h1 h2 => by simp at h1 h2 ⊢; omega) (fun a b => by simp; omega) l
  have h2 : (srt l).Nodup := (srt_perm l).nodup_iff.2 h
  have h3 := h1.and h2
  refine h3.imp ?_
  rintro a b ⟨h4, h5⟩
  simp at h4
  omega
theorem srt_eq {g : Nat → Option Rf} {l : List Int} (h : l.Nodup) (hm : ∀ x, x ∈ l ↔ x ∈ idsG g) : srt l = idsG g :=
  rising_eq _ _ (srt_rising l h) (idsG_rising g) fun x => ((srt_perm l).mem_iff).trans (hm x)

/-- What the loop has met. -/
structure Met (g : Nat → Option Rf) (left : Lit → Bool) (l : List Int) : Prop where
  nodup : l.Nodup
  mem : ∀ x, x ∈ l ↔ ∃ i : Nat, i < 256 ∧ (g i).isSome = true ∧ x = i ∧ left (.int .i64 i) = false
theorem Met.start {g : Nat → Option Rf} {D : DataW Unit} (h : Reads1 D g) : Met g (Maps.has D) [] := by
  refine ⟨by simp, fun x => ?_⟩
  simp only [List.not_mem_nil, false_iff]
  rintro ⟨i, h1, h2, -, h4⟩
  rw [h.has h1, h2] at h4
  cases h4
theorem Met.step {g : Nat → Option Rf} {left : Lit → Bool} {l : List Int} (h : Met g left l) {i : Nat} (hi : i < 256) (hg : (g i).isSome = true) (hl : left (.int .i64 i) = true) :
    Met g (fun z => left z && !z.sameKey (.int .i64 i)) (l ++ [(i : Int)]) := by
  have hn : (i : Int) ∉ l := fun hm => by
    obtain ⟨j, -, -, e, hj⟩ := (h.mem _).1 hm
    have : i = j := by omega
    subst this
    rw [hl] at hj; cases hj
  refine ⟨List.nodup_append.2 ⟨h.nodup, by simp, fun a ha c hc e => hn (by simp at hc; subst hc; exact e ▸ ha)⟩, fun x => ?_⟩
  rw [List.mem_append, List.mem_singleton, h.mem]
  constructor
  · rintro (⟨j, h1, h2, h3, h4⟩ | rfl)
    · exact ⟨j, h1, h2, h3, by rw [h4]; rfl⟩
    · exact ⟨i, hi, hg, rfl, by rw [sameKey_self]; simp⟩
  · rintro ⟨j, h1, h2, rfl, h4⟩
    by_cases e : j = i
    · subst e; exact .inr rfl
    · left
      refine ⟨j, h1, h2, rfl, ?_⟩
      rw [sameKey_ne (lit_ne e)] at h4
      simpa using h4
theorem Met.done {g : Nat → Option Rf} {left : Lit → Bool} {l : List Int} (h : Met g left l) (hl : ∀ kl, left kl = false) : srt l = idsG g :=
  srt_eq h.nodup fun x => by
    rw [h.mem, idsG_mem]
    constructor
    · rintro ⟨i, h1, h2, h3, -⟩; exact ⟨i, h1, h2, h3⟩
    · rintro ⟨i, h1, h2, h3⟩; exact ⟨i, h1, h2, h3, hl _⟩
theorem Met.length_le {g : Nat → Option Rf} {left : Lit → Bool} {l : List Int} (h : Met g left l) : l.length ≤ 256 := by
  have hp : srt l = (srt l).filter (fun x => decide (x ∈ idsG g)) := by
    rw [List.filter_eq_self.2]
    intro x hx
    obtain ⟨i, h1, h2, h3, -⟩ := (h.mem x).1 ((srt_perm l).mem_iff.1 hx)
    simpa using (idsG_mem g x).2 ⟨i, h1, h2, h3⟩
  have hs : ((idsG g).filter fun x => decide (x ∈ l)) = srt l := by
    refine rising_eq _ _ ((idsG_rising g).filter _) (srt_rising l h.nodup) fun x => ?_
    rw [List.mem_filter, (srt_perm l).mem_iff]
    constructor
    · rintro ⟨-, hx⟩; simpa using hx
    · intro hx
      obtain ⟨i, h1, h2, h3, -⟩ := (h.mem x).1 hx
      exact ⟨(idsG_mem g x).2 ⟨i, h1, h2, h3⟩, by simpa using hx⟩
  rw [← srt_length l, ← hs]
  exact Nat.le_trans (List.length_filter_le _ _) (by rw [idsG_length]; exact cardG_le g)

theorem info3 : (Try.prog.info? 3).map (fun i => (i.zero, i.size, i.bytes)) = some (some (.int .i64 0), 1, 8) := by kernel_rfl
/-- A slice that holds the integers l. -/
def Ints (w : World) (v : Value) (l : List Int) : Prop := SlAt w 3 1 v l.length (l.map (Value.int .i64))
theorem Ints.ofOwn {w : World} {base : Nat} {v : Value} {l : List Int} (h : w.ownsRow base 3 1 v l.length (l.map (Value.int .i64))) : Ints w v l := SlAt.ofOwn h (one_ints _)
theorem Ints.upd0 {w w' : World} {v : Value} {l : List Int} (h : Ints w v l) (u : Upd [] w w') : Ints w' v l := SlAt.upd h u (by simp)
theorem Ints.at {w : World} {a : Option Addr} {n c : Nat} {l : List Int} (h : Ints w (.slice a n c) l) {i : Nat} (hi : i < l.length) :
    ∃ g off, a = some ⟨g, off, none⟩ ∧ g < w.heap.size ∧ n ≤ c ∧ w.cell? ⟨g, off + i, none⟩ = some (.int .i64 l[i]) := by
  have hn : n = l.length := by obtain ⟨_, _, _, _, h3, _⟩ := h; simp at h3; exact h3.2.1
  subst hn
  obtain ⟨g, off, ha, hg, hc, h2, _⟩ := SlAt.at1 h hi
  exact ⟨g, off, ha, hg, hc, by rw [h2]; simp [hi]⟩
theorem Ints.form {w : World} {v : Value} {l : List Int} (h : Ints w v l) : ∃ a c, v = .slice a l.length c ∧ l.length ≤ c ∧ c ≤ 9223372036854775807 := by
  obtain ⟨_, _, a, c, h3, h4, h5, _⟩ := h
  exact ⟨a, c, h3, h4, by unfold maxLen at h5; omega⟩
set_option maxHeartbeats 2000000 in
theorem pids {b m n : Nat} {s : Pt} {w : World} (h : PtAt w b m n s) :
    Calls Try.prog 13 #[.pointer (some ⟨b, 0, none⟩)] w fun e w' => ∃ v, e = .returned v ∧ w'.ownsRow w.heap.size 3 1 v (idsG s.g).length ((idsG s.g).map (Value.int .i64)) ∧ Upd [] w w' := by
  have H := Lib.hid h
  obtain ⟨ho, hmn, hb, D, E, hD, hE, hR1, hR2⟩ := h
  obtain ⟨i0, hi, hz0, hz1, hz2⟩ := info_parts info3
  have c1 := cell_of hb 1
  have HD := Lib.hid hD
  have HR := Lib.hid hR1
  have hml := hD.lt
  clear hb hD hE hR1 hR2 ho hmn
  go_enter Try.func13, Try.ntmps13
  go_wp2_with (first | (go_at_call 26; refine (pmade H.out).mono ?_; rintro e w' ⟨rfl, rfl⟩) | (at_range; refine wpList_range_own _ rfl _ 26 rfl 3 24 law3 Try.underlying26 _ m 256 _ rfl HD.out ?_; intro w0 hrg0 hg0 hs0))
  go_frame
  have u0 : Upd [] w w0 := (Upd.refl [] w).grown hg0 (by simp)
  generalize hN : w.heap.size = N at hrg0 hs0 hml ⊢
  have HN := Lib.hid hN; clear hN hg0
  go_loopw [3] (fun y wr => ∃ (left : Lit → Bool) (cn : Nat) (l : List Int), wr.ranges Try.prog 3 refElem m N 256 D left cn ∧ Met s.g left l ∧ wr.ownsRow (N + 1) 3 1 y l.length (l.map (Value.int .i64)) ∧ N + 1 ≤ wr.heap.size ∧ Upd [] w wr) (fun _ wr => wr.rangeLeft m N)
  case atStart => exact ⟨_, _, [], hrg0, Met.start HR.out, World.ownsRow_nil _ _ _ _, by omega, u0⟩
  case round =>
    clear hrg0 u0 hs0 c1
    obtain ⟨left, cn, l, hrg, hmet, hown, hsz, hup⟩ := hrel
    go_wp2_with (at_next; refine wpList_next_ranges _ rfl _ rfl 3 law3 refElem (Value.int .i64) refV (fun key kl hk => by obtain ⟨x, rfl, _⟩ := Maps.keyOf_int_inv Try.underlying3 hk; exact ⟨x, rfl⟩) (fun v y hv => by obtain ⟨r, rfl, _⟩ := refElem_inv hv; exact ⟨r, rfl⟩) m N 256 _ _ _ rfl hrg ?_ ?_)
    · intro _ hl0
      have hdone := hmet.done hl0
      have hlen := hmet.length_le
      have hle : (idsG s.g).length = l.length := by rw [← hdone, srt_length]
      have HS := Lib.hid (psort rfl hown hlen)
      have HDN := Lib.hid hdone
      have HLE := Lib.hid hle
      have OL := Lib.hid hown.lt
      have HUP := Lib.hid hup
      clear hmet hown hdone hrg hl0 hle hup hsz hml
      go_wp2_with (go_at_call 27; refine HS.out.mono ?_; rintro e w5 ⟨rfl, hown5, hg5⟩)
      go_ret
      have hn := HN.out
      refine ⟨_, rfl, ?_, HUP.out.grown hg5 (fun g hg => by have := (OL.out g hg).1; omega)⟩
      rw [HLE.out, ← HDN.out]
      refine ⟨hown5.1, ?_⟩
      rcases hown5.2 with h | ⟨g, cap, cur, h1, h2, h3⟩
      · exact .inl h
      · exact .inr ⟨g, cap, cur, h1, by omega, h3⟩
    · intro x c1' c2' kl yd yp w2 cnt2 hkey hlk hv hat hrg2 hlt hg2 hs2 hen
      obtain ⟨x', ex, rfl, -⟩ := Maps.keyOf_int_inv Try.underlying3 hkey
      obtain rfl : x = x' := by cases ex; rfl
      obtain ⟨i, hi', e⟩ := HR.out.keys _ (has_true_of_atKey hat)
      simp at e
      subst e
      have hgi : (s.g i).isSome = true := by rw [← HR.out.has hi']; exact has_true_of_atKey hat
      have hmet2 := hmet.step hi' hgi hlk
      have hlen := hmet2.length_le
      rw [List.length_append, List.length_singleton] at hlen
      have hsz2 : N + 1 ≤ w2.heap.size := by omega
      have u2 : Upd [N] wr w2 := ⟨hg2.os, hg2.tape, hg2.output, hg2.size, fun k hk hn => hg2.block k hk (fun e => hn (by simp at e; simp [e]))⟩
      have hown2 := owns_upd hown u2 (fun g hg => by have := (hown.lt g hg).1; simp; omega)
      have hupn : Upd [] w w2 := hup.after u2 (by simp; exact Nat.le_of_eq HN.out)
      have HW2 := Lib.hid hown2
      have HRG := Lib.hid hrg2
      have HMT := Lib.hid hmet2
      have HLT := Lib.hid hlt
      have HRO := Lib.hid hrg
      unfold refV at hen
      dsimp only at hen
      clear hs2 hg2 u2 hown hown2 hrg hrg2 hmet hmet2 hlk hv hat hlt hup hgi ex hkey hml
      go_wp2_with (at_builtin; refine wpList_append_any _ rfl (.tmp 17) (.tmp 19) 39 rfl (N + 1) 3 i0 (.int .i64 0) 1 8 Try.underlying39 hi hz0 hz1 hz2 rfl (by decide) _ l.length _ rfl (HW2.out.alloc _) _ 1 [.int .i64 i] rfl (sl_lit1 _ _ _ _) ?c1 ?c2 ?c3 ?_)
      case c1 => unfold maxLen; omega
      case c2 => omega
      case c3 => simp; omega
      intro g c w3 hown3 hgrow
      have hlt2 := HW2.out.lt
      have hn := HN.out
      have hmN := HRO.out.owns.lt
      have hmm : m < N := by have := HD.out.lt; omega
      have hrg3 := (HRG.out.alloc (.cells #[.int .i64 i] 3)).kept hgrow (fun e => by have := (hlt2 m e.symm).1; omega) (fun e => by have := (hlt2 N e.symm).1; omega)
      have u3 : Upd [] w w3 := (hupn.alloc _).grown hgrow (fun g hg => by have := (hlt2 g hg).1; omega)
      have hs3 : N + 1 ≤ w3.heap.size := by have := hgrow.size; simp at this; omega
      have hown4 : w3.ownsRow (N + 1) 3 1 (.slice g (l.length + 1) c) (l ++ [(i : Int)]).length ((l ++ [(i : Int)]).map (Value.int .i64)) := by
        rw [List.length_append, List.length_singleton, List.map_append]; exact hown3
      have H4 := Lib.hid hown4
      have R3 := Lib.hid hrg3
      clear hown3 hgrow hlt2 hown4 hrg3 hmN hmm
      go_wp2
      go_roundw
      case rel => exact ⟨_, cnt2, _, R3.out, HMT.out, H4.out, hs3, u3⟩
      case measure => rw [R3.out.left_eq, HRO.out.left_eq]; exact HLT.out

end Go.Proofs.Ytlndkmejmolnhaa
