/-
  Contracts of the document's queue (estrayref28): find, Peek, Add. Conditions: the queue is as New and its own calls leave it.
-/
import Derived.Test.YtjmaibobhjcajaaQueRef
namespace Go.Proofs.Ytjmaibobhjcajaa
open Go.RowKit

theorem rfind_at {b : Nat} {q : Qu} {w : World} (id : Int) (h : RqAt w b q) : Calls Try.prog 41 #[.pointer (some ⟨b, 0, none⟩), .int .i64 id] w fun e w' => e = .returned (.int .i64 (fndI q.l id)) ∧ w = w' := by
  obtain ⟨hok, a, c, hb, hl⟩ := h
  have hsz : (0 : Int) < q.size := by have := hok.1; omega
  have hl64 : q.l.length ≤ 64 := Nat.le_trans hok.2.2.1 hok.2.1
  have c0 := cell_of hb 0
  have c1 := cell_of hb 1
  have HL := Lib.hid hl
  clear hb hl hok
  go_enter Try.func41, Try.ntmps41
  go_wp2_with fail
  go_loop [5] (fun y => ∃ k : Nat, k ≤ q.l.length ∧ y = .int .i64 k ∧ ∀ i x, i < k → q.l[i]? = some x → x ≠ id) (fun y => q.l.length - (intOf y).toNat)
  case atStart => exact ⟨0, by omega, rfl, fun i x hi => absurd hi (Nat.not_lt_zero _)⟩
  case round =>
    obtain ⟨k, hk, rfl, hne⟩ := hrel
    have HNE := Lib.hid hne; clear hne
    by_cases hlt : k < q.l.length
    · obtain ⟨g, off, rfl, hg, hcap, hc⟩ := HL.out.at hlt
      have HX := Lib.hid (rfl : q.l[k] = q.l[k])
      by_cases hx : q.l[k] = id
      · have hf : fndI q.l id = k := by rw [fndI, fnd_some hlt hx HNE.out]
        have HF := Lib.hid hf
        rw [hx] at hc
        clear hx hf HX
        go_wp2_with (go_at_call 40; refine (rvalid_at b _ _ c0 hsz).mono ?_; rintro e w' ⟨rfl, rfl⟩)
        go_ret
        exact ⟨by rw [HF.out]; rfl, rfl⟩
      · have hbx : (q.l[k] == id) = false := by simpa using hx
        have HN2 := Lib.hid (show ∀ i x, i < k + 1 → q.l[i]? = some x → x ≠ id from fun i x hi hix => by
          by_cases e : i = k
          · subst e; rw [List.getElem?_eq_getElem hlt] at hix; cases hix; exact hx
          · exact HNE.out i x (by omega) hix)
        clear hx HX
        generalize q.l[k] = y at *
        go_wp2_with (go_at_call 40; refine (rvalid_at b _ _ c0 hsz).mono ?_; rintro e w' ⟨rfl, rfl⟩)
        go_round
        case rel => exact ⟨k + 1, by omega, by go_num, HN2.out⟩
        case measure => simp [intOf]; omega
    · obtain rfl : k = q.l.length := by omega
      have hf : fndI q.l id = -1 := by
        have : fnd q.l id = none := fnd_none.2 (fun hm => by
          obtain ⟨i, hi⟩ := List.mem_iff_getElem?.1 hm
          exact HNE.out i id (List.getElem?_eq_some_iff.1 hi).1 hi rfl)
        rw [fndI, this]
      have HF := Lib.hid hf
      clear hf
      go_wp2_with (go_at_call 40; refine (rvalid_at b _ _ c0 hsz).mono ?_; rintro e w' ⟨rfl, rfl⟩)
      go_ret
      exact ⟨by rw [HF.out]; rfl, rfl⟩
theorem rpeek_any {b : Nat} {q : Qu} {w : World} (i : Int) (h : RqAt w b q) : Calls Try.prog 31 #[.pointer (some ⟨b, 0, none⟩), .int .i64 i] w fun e w' => e = .returned (.tuple #[.int .i64 (q.peekX i), .int .i64 (q.peekE i)]) ∧ w = w' := by
  obtain ⟨hok, a, c, hb, hl⟩ := h
  have hsz : (0 : Int) < q.size := by have := hok.1; omega
  have hl64 : q.l.length ≤ 64 := Nat.le_trans hok.2.2.1 hok.2.1
  have c0 := cell_of hb 0
  have c1 := cell_of hb 1
  clear hb hok
  unfold Qu.peekX Qu.peekE
  by_cases hi : 0 ≤ i ∧ i < q.l.length
  · rw [if_pos hi, if_pos hi]
    obtain ⟨j, rfl⟩ : ∃ j : Nat, i = j := ⟨i.toNat, by omega⟩
    have hj : j < q.l.length := by omega
    obtain ⟨g, off, rfl, hg, hcap, hc⟩ := hl.at hj
    rw [show q.l.getD (j : Int).toNat 0 = q.l[j] from by simp [hj]]
    generalize q.l[j] = x at *
    clear hl hi
    go_enter Try.func31, Try.ntmps31
    go_wp2_with (go_at_call 40; refine (rvalid_at b _ _ c0 hsz).mono ?_; rintro e w' ⟨rfl, rfl⟩)
    go_ret2
    exact ⟨rfl, rfl⟩
  · rw [if_neg hi, if_neg hi]
    clear hl
    by_cases hn : i < 0
    · clear hi
      go_enter Try.func31, Try.ntmps31
      go_wp2_with (go_at_call 40; refine (rvalid_at b _ _ c0 hsz).mono ?_; rintro e w' ⟨rfl, rfl⟩)
      go_ret2
      exact ⟨rfl, rfl⟩
    · have hge : (q.l.length : Int) ≤ i := by omega
      clear hi
      go_enter Try.func31, Try.ntmps31
      go_wp2_with (go_at_call 40; refine (rvalid_at b _ _ c0 hsz).mono ?_; rintro e w' ⟨rfl, rfl⟩)
      go_ret2
      exact ⟨rfl, rfl⟩
theorem radd_no {b : Nat} {q : Qu} {w : World} (id : Int) (h : RqAt w b q) (hn : id < 0 ∨ 256 ≤ id) : Calls Try.prog 24 #[.pointer (some ⟨b, 0, none⟩), .int .i64 id] w fun e w' => e = .returned (.int .i64 3) ∧ w = w' := by
  obtain ⟨hok, a, c, hb, hl⟩ := h
  have hsz : (0 : Int) < q.size := by have := hok.1; omega
  have c0 := cell_of hb 0
  clear hb hok hl
  rcases hn with hn | hn
  · go_enter Try.func24, Try.ntmps24
    go_wp2_with (go_at_call 40; refine (rvalid_at b _ _ c0 hsz).mono ?_; rintro e w' ⟨rfl, rfl⟩)
    go_ret
    exact ⟨rfl, rfl⟩
  · have h0 : ¬ id < 0 := by omega
    go_enter Try.func24, Try.ntmps24
    go_wp2_with (go_at_call 40; refine (rvalid_at b _ _ c0 hsz).mono ?_; rintro e w' ⟨rfl, rfl⟩)
    go_ret
    exact ⟨rfl, rfl⟩
theorem radd_have {b : Nat} {q : Qu} {w : World} (id : Int) (h : RqAt w b q) (h0 : 0 ≤ id) (h1 : id < 256) (hm : id ∈ q.l) : Calls Try.prog 24 #[.pointer (some ⟨b, 0, none⟩), .int .i64 id] w fun e w' => e = .returned (.int .i64 6) ∧ w = w' := by
  have HR := Lib.hid h
  obtain ⟨hok, a, c, hb, hl⟩ := h
  have hsz : (0 : Int) < q.size := by have := hok.1; omega
  have c0 := cell_of hb 0
  have hf : 0 ≤ fndI q.l id := by
    unfold fndI
    cases e : fnd q.l id with
    | none => exact absurd hm (fnd_none.1 e)
    | some j => simp
  clear hb hok hl hm
  go_enter Try.func24, Try.ntmps24
  go_wp2_with (first | (go_at_call 40; refine (rvalid_at b _ _ c0 hsz).mono ?_; rintro e w' ⟨rfl, rfl⟩) | (go_at_call 41; refine (rfind_at id HR.out).mono ?_; rintro e w' ⟨rfl, rfl⟩))
  go_ret
  exact ⟨rfl, rfl⟩

end Go.Proofs.Ytjmaibobhjcajaa
