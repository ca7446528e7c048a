/-
  The document's table: its counts, a new one, a copy. Conditions: none.
-/
import Derived.Test.YtphpimbhhmkdkaaClnRef
namespace Go.Proofs.Ytphpimbhhmkdkaa
open Go.RowKit Go.Maps

/-- How many of the first i ids have the state s. -/
def nC (f : Nat → Nat) (i s : Nat) : Nat := cntP (fun q => decide (f q = s)) i
theorem nC_succ (f : Nat → Nat) (i s : Nat) : nC f (i + 1) s = nC f i s + if f i = s then 1 else 0 := by
  unfold nC; rw [cntP_succ]; simp
theorem nC_le (f : Nat → Nat) (i s : Nat) : nC f i s ≤ i := cntP_le _ _
theorem nC_all (f : Nat → Nat) (s : Nat) : nC f 256 s = cnt f s := rfl
def nCells (f : Nat → Nat) (i : Nat) : Array Value := #[.int .i64 (nC f i 0), .int .i64 (nC f i 1), .int .i64 (nC f i 2), .int .i64 (nC f i 3)]

set_option maxRecDepth 100000 in
set_option maxHeartbeats 1000000 in
theorem rcounts_at (r : Nat) (f : Nat → Nat) (w : World) (h : RAt w r f) (hf : ∀ i, i < 256 → f i ≤ 3) :
    Calls Try.prog 34 #[.pointer (some ⟨r, 0, none⟩)] w fun e w' => e = .returned (.tuple #[.int .i64 (cnt f 1), .int .i64 (cnt f 2), .int .i64 (cnt f 3)]) ∧ Upd [] w w' := by
  have hrl := h.lt
  have HF := Lib.hid hf; clear hf
  go_enter Try.func34, Try.ntmps34
  go_wp2
  have hN : (w.alloc (.cells #[.int .i64 0, .int .i64 0, .int .i64 0, .int .i64 0] 35)).heap[w.heap.size]? = some (.cells (nCells f 0) 35 (0, 0)) := new_of _ _
  have ha : Upd [] w (w.alloc (.cells #[.int .i64 0, .int .i64 0, .int .i64 0, .int .i64 0] 35)) := (Upd.refl [] w).alloc _
  have h1 := h.upd ha (by simp)
  generalize w.alloc (.cells #[.int .i64 0, .int .i64 0, .int .i64 0, .int .i64 0] 35) = w1 at *
  have hNw : w.heap.size ≤ w.heap.size := Nat.le_refl _
  generalize hNe : w.heap.size = N at hN hrl ⊢
  have HN := Lib.hid (Nat.le_of_eq hNe); clear hNe hNw h
  go_loopw [6] (fun x wr => ∃ i : Nat, i ≤ 256 ∧ x = .int .i64 i ∧ RAt wr r f ∧ wr.heap[N]? = some (.cells (nCells f i) 35 (0, 0)) ∧ Upd [] w wr) (fun x _ => 256 - (intOf x).toNat)
  case atStart => exact ⟨0, by omega, rfl, h1, hN, ha⟩
  case round =>
    obtain ⟨i, hi, rfl, hr, hn, hup⟩ := hrel
    by_cases hlt : i < 256
    · have c0 := hr.cell hlt
      have hlr := hr.lt
      have hlN := lt_of_block hn
      have hc := HF.out i hlt
      have hcs : f i = 0 ∨ f i = 1 ∨ f i = 2 ∨ f i = 3 := by omega
      have s0 := nC_succ f i 0
      have s1 := nC_succ f i 1
      have s2 := nC_succ f i 2
      have s3 := nC_succ f i 3
      rcases hcs with hc | hc | hc | hc
      · rw [hc] at c0 s0 s1 s2 s3
        have d : wr.cell? ⟨N, 0, none⟩ = some (.int .i64 (nC f i 0)) := cell_of hn 0
        have fr : wr.frozen? ⟨N, 0, none⟩ = false := free_of hn 0
        have bd := nC_le f i 0
        have HH := Lib.hid hn
        have HR := Lib.hid hr
        have S0 := Lib.hid s0; have S1 := Lib.hid s1; have S2 := Lib.hid s2; have S3 := Lib.hid s3
        clear hn hr s0 s1 s2 s3 hc
        go_wp2
        go_region
        go_wp2
        go_roundw
        case rel =>
          refine ⟨i + 1, by omega, by go_num, ?_, ?_, (hup.drew).setNew HN.out _⟩
          · exact HR.out.upd (S := [N]) (((Upd.refl _ _).drew).setCell (by simp) _) (by simp; omega)
          · show (wr.setCell ⟨N, 0, none⟩ (.int .i64 ((nC f i 0 : Int) + 1))).heap[N]? = _
            rw [set_of HH.out 0]
            unfold nCells
            rw [S0.out, S1.out, S2.out, S3.out]
            simp
        case measure => simp [intOf]; omega
      · rw [hc] at c0 s0 s1 s2 s3
        have d : wr.cell? ⟨N, 1, none⟩ = some (.int .i64 (nC f i 1)) := cell_of hn 1
        have fr : wr.frozen? ⟨N, 1, none⟩ = false := free_of hn 1
        have bd := nC_le f i 1
        have HH := Lib.hid hn
        have HR := Lib.hid hr
        have S0 := Lib.hid s0; have S1 := Lib.hid s1; have S2 := Lib.hid s2; have S3 := Lib.hid s3
        clear hn hr s0 s1 s2 s3 hc
        go_wp2
        go_region
        go_wp2
        go_roundw
        case rel =>
          refine ⟨i + 1, by omega, by go_num, ?_, ?_, (hup.drew).setNew HN.out _⟩
          · exact HR.out.upd (S := [N]) (((Upd.refl _ _).drew).setCell (by simp) _) (by simp; omega)
          · show (wr.setCell ⟨N, 1, none⟩ (.int .i64 ((nC f i 1 : Int) + 1))).heap[N]? = _
            rw [set_of HH.out 1]
            unfold nCells
            rw [S0.out, S1.out, S2.out, S3.out]
            simp
        case measure => simp [intOf]; omega
      · rw [hc] at c0 s0 s1 s2 s3
        have d : wr.cell? ⟨N, 2, none⟩ = some (.int .i64 (nC f i 2)) := cell_of hn 2
        have fr : wr.frozen? ⟨N, 2, none⟩ = false := free_of hn 2
        have bd := nC_le f i 2
        have HH := Lib.hid hn
        have HR := Lib.hid hr
        have S0 := Lib.hid s0; have S1 := Lib.hid s1; have S2 := Lib.hid s2; have S3 := Lib.hid s3
        clear hn hr s0 s1 s2 s3 hc
        go_wp2
        go_region
        go_wp2
        go_roundw
        case rel =>
          refine ⟨i + 1, by omega, by go_num, ?_, ?_, (hup.drew).setNew HN.out _⟩
          · exact HR.out.upd (S := [N]) (((Upd.refl _ _).drew).setCell (by simp) _) (by simp; omega)
          · show (wr.setCell ⟨N, 2, none⟩ (.int .i64 ((nC f i 2 : Int) + 1))).heap[N]? = _
            rw [set_of HH.out 2]
            unfold nCells
            rw [S0.out, S1.out, S2.out, S3.out]
            simp
        case measure => simp [intOf]; omega
      · rw [hc] at c0 s0 s1 s2 s3
        have d : wr.cell? ⟨N, 3, none⟩ = some (.int .i64 (nC f i 3)) := cell_of hn 3
        have fr : wr.frozen? ⟨N, 3, none⟩ = false := free_of hn 3
        have bd := nC_le f i 3
        have HH := Lib.hid hn
        have HR := Lib.hid hr
        have S0 := Lib.hid s0; have S1 := Lib.hid s1; have S2 := Lib.hid s2; have S3 := Lib.hid s3
        clear hn hr s0 s1 s2 s3 hc
        go_wp2
        go_region
        go_wp2
        go_roundw
        case rel =>
          refine ⟨i + 1, by omega, by go_num, ?_, ?_, (hup.drew).setNew HN.out _⟩
          · exact HR.out.upd (S := [N]) (((Upd.refl _ _).drew).setCell (by simp) _) (by simp; omega)
          · show (wr.setCell ⟨N, 3, none⟩ (.int .i64 ((nC f i 3 : Int) + 1))).heap[N]? = _
            rw [set_of HH.out 3]
            unfold nCells
            rw [S0.out, S1.out, S2.out, S3.out]
            simp
        case measure => simp [intOf]; omega
    · obtain rfl : i = 256 := by omega
      rw [show Value.int .i64 ((256 : Nat) : Int) = .int .i64 256 from rfl]
      have e1 : wr.cell? ⟨N, 1, none⟩ = some (.int .i64 (cnt f 1)) := cell_of hn 1
      have e2 : wr.cell? ⟨N, 2, none⟩ = some (.int .i64 (cnt f 2)) := cell_of hn 2
      have e3 : wr.cell? ⟨N, 3, none⟩ = some (.int .i64 (cnt f 3)) := cell_of hn 3
      have hlN := lt_of_block hn
      clear hn hr
      go_wp2
      go_quiet (fail)
      go_wp2
      go_ret3
      exact ⟨rfl, hup.drewN _⟩

theorem rlen_at (r : Nat) (f : Nat → Nat) (w : World) (h : RAt w r f) (hf : ∀ i, i < 256 → f i ≤ 3) :
    Calls Try.prog 35 #[.pointer (some ⟨r, 0, none⟩)] w fun e w' => e = .returned (.int .i64 (card f)) ∧ Upd [] w w' := by
  rw [card_eq f hf]
  have c1 : cnt f 1 ≤ 256 := cntP_le _ _
  have c2 : cnt f 2 ≤ 256 := cntP_le _ _
  have c3 : cnt f 3 ≤ 256 := cntP_le _ _
  have H := Lib.hid h; clear h
  have HF := Lib.hid hf; clear hf
  go_enter Try.func35, Try.ntmps35
  go_wp2_with (go_at_call 34; refine (rcounts_at r f _ H.out HF.out).mono ?_; rintro e w' ⟨rfl, u⟩)
  go_ret
  exact ⟨by simp, u⟩

end Go.Proofs.Ytphpimbhhmkdkaa
