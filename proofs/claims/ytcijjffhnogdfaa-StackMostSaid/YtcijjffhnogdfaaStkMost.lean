/-
  The law StackMost: Most is at least Len, at most the size, and becomes smaller by Clear only. Conditions: none.
-/
import Derived.Test.YtcijjffhnogdfaaStkMade
namespace Go.Proofs.Ytcijjffhnogdfaa
open Go.RowKit

theorem foldS_ok (us : List Int) : ∀ s : St, s.ok → (us.foldl turnS s).ok := by
  induction us with
  | nil => intro s h; exact h
  | cons u us ih =>
    intro s h
    rw [List.foldl_cons]
    refine ih _ ?_
    simp only [St.ok] at h ⊢
    unfold turnS
    split
    · split
      · exact h
      · simp; omega
    · split
      · simp; omega
      · split
        · exact h
        · simp; omega
theorem runS_ok (n : Nat) (us : List Int) (h0 : 1 ≤ n) (h1 : n ≤ 64) : (runS n us).ok := foldS_ok us _ (by simp only [St.ok]; simp; omega)
theorem turn_most (s : St) (h : s.ok) (u : Int) : (u < 250 → s.most ≤ (turnS s u).most) ∧ (250 ≤ u → (turnS s u).most = 0) ∧ (turnS s u).most ≤ s.most + 1 := by
  simp only [St.ok] at h
  unfold turnS
  split
  · split
    · simp; omega
    · simp; omega
  · split
    · simp; omega
    · split
      · simp; omega
      · simp; omega

/-- Most before the turn at an index. -/
def wasM (n : Nat) (us : List Int) : Nat → Nat
  | 0 => 0
  | k + 1 => (runS n (us.take k)).most

set_option maxHeartbeats 1000000 in
theorem most_ok (sz : Int) (h0 : 0 ≤ sz) (h1 : sz < 256) (v : Value) (us : List Int) (w : World) (hv : Bytes .u8 w v us) :
    Calls Try.prog 4 #[.int .u8 sz, v] w fun e w' => e = .returned (.bool true) ∧ Upd [] w w' := by
  have HV := Lib.hid hv
  obtain ⟨a, cap, rfl, hlc, hcm, _, hnil, _⟩ := hv
  have hm : cap ≤ 9223372036854775807 := by unfold maxLen at hcm; omega
  have HNIL := Lib.hid hnil; clear hnil
  by_cases hlong : 60 < us.length
  · go_enter Try.func4, Try.ntmps4
    go_wp2_with (go_at_call 11; refine (works_ok _).mono ?_; rintro e w' ⟨rfl, u⟩)
    go_ret
    exact ⟨rfl, u⟩
  · obtain ⟨n, hn⟩ : ∃ n : Nat, n = (1 + sz % 64).toNat := ⟨_, rfl⟩
    have hn1 : 1 ≤ n := by omega
    have hn2 : n ≤ 64 := by omega
    have hnz : (n : Int) = 1 + sz % 64 := by omega
    have HN := Lib.hid hn; clear hn
    have HZ := Lib.hid hnz; clear hnz
    go_enter Try.func4, Try.ntmps4
    go_wp2_with fail
    go_loopw [5, 6] (fun was i wr => ∃ k : Nat, k ≤ us.length + 1 ∧ i = .int .i64 k ∧ was = .int .i64 (wasM n us k) ∧ Upd [] w wr) (fun _ i _ => us.length + 1 - (intOf i).toNat)
    case atStart => exact ⟨0, by omega, rfl, rfl, Upd.refl _ _⟩
    case round =>
      obtain ⟨k, hk, rfl, rfl, hup⟩ := hrel
      by_cases hlt : k ≤ us.length
      · have hbt := Bytes.take (HV.out.upd hup (by simp)) hlt
        have hok := runS_ok n (us.take k) hn1 hn2
        have hlm : (runS n (us.take k)).l.length ≤ (runS n (us.take k)).most := by simp only [St.ok] at hok; omega
        have hmn : ((runS n (us.take k)).most : Int) ≤ 1 + sz % 64 := by have := runS_size n (us.take k); have := HZ.out; simp only [St.ok] at hok; omega
        rcases Nat.eq_zero_or_pos k with hk0 | hk0
        · have hw1 : wasM n us k ≤ (runS n (us.take k)).most := by subst hk0; exact Nat.zero_le _
          have hw2 : (runS n (us.take k)).most ≤ wasM n us k + 1 := by subst hk0; show 0 ≤ _; exact Nat.zero_le _
          have hnx : wasM n us (k + 1) = (runS n (us.take k)).most := rfl
          have HX := Lib.hid hnx; clear hnx
          generalize wasM n us k = W at *
          have hk00 : ¬ 0 < k := by omega
          clear hk0
          go_wp2_with fail
          refine (made_ok sz h0 h1 _ (us.take k) _ hbt).mono ?_
          rintro e w1 ⟨want, rfl, a1, own, u1⟩
          obtain ⟨wa, wc, rfl⟩ := ownsRow_slice own
          rw [← HN.out] at a1
          rw [← HN.out]
          generalize runS n (us.take k) = s at *
          go_wp2_with (first | (go_at_call 16; refine (most_at _ _ _ a1).mono ?_; rintro e w2 ⟨rfl, rfl⟩) | (go_at_call 14; refine (len_at _ _ _ a1).mono ?_; rintro e w2 ⟨rfl, rfl⟩))
          go_roundw
          case rel => exact ⟨k + 1, by omega, by go_num, by rw [HX.out], hup.trans u1⟩
          case measure => simp [intOf]; omega
        · obtain ⟨i, rfl⟩ : ∃ i, k = i + 1 := ⟨k - 1, by omega⟩
          have hi : i < us.length := by omega
          obtain ⟨ab, off, rfl, hab, hcell, hwf⟩ := (HV.out.upd hup (by simp)).at hi
          obtain ⟨hu0, hu1⟩ := wf_u8 hwf
          have htm := turn_most (runS n (us.take i)) (runS_ok n _ hn1 hn2) us[i]
          have hts : runS n (us.take (i + 1)) = turnS (runS n (us.take i)) us[i] := by
            rw [List.take_succ_eq_append_getElem hi, runS_snoc]
          rw [← hts] at htm
          obtain ⟨hw0, hw3, hw2⟩ := htm
          have hwe : wasM n us (i + 1) = (runS n (us.take i)).most := rfl
          rw [← hwe] at hw0 hw2
          have hWb : wasM n us (i + 1) ≤ 64 := by have := runS_ok n (us.take i) hn1 hn2; simp only [St.ok] at this; omega
          have hnx : wasM n us (i + 1 + 1) = (runS n (us.take (i + 1))).most := rfl
          have HX := Lib.hid hnx; clear hnx hwe hts hwf
          generalize wasM n us (i + 1) = W at *
          generalize us[i] = u at *
          have HI := hi
          by_cases hu : u < 250
          · have hw1 := hw0 hu
            clear hw0 hw3
            go_wp2_with fail
            refine (made_ok sz h0 h1 _ (us.take (i + 1)) _ hbt).mono ?_
            rintro e w1 ⟨want, rfl, a1, own, u1⟩
            obtain ⟨wa, wc, rfl⟩ := ownsRow_slice own
            rw [← HN.out] at a1
            rw [← HN.out]
            generalize runS n (us.take (i + 1)) = s at *
            have hcell1 : w1.cell? ⟨ab, off + i, none⟩ = some (.int .u8 u) := by rw [u1.cell (by exact hab) (by simp)]; exact hcell
            go_wp2_with (first | (go_at_call 16; refine (most_at _ _ _ a1).mono ?_; rintro e w2 ⟨rfl, rfl⟩) | (go_at_call 14; refine (len_at _ _ _ a1).mono ?_; rintro e w2 ⟨rfl, rfl⟩))
            go_roundw
            case rel => exact ⟨i + 1 + 1, by omega, by go_num, by rw [HX.out], hup.trans u1⟩
            case measure => simp [intOf]; omega
          · have hw1 := hw3 (by omega)
            have hw1' : (runS n (us.take (i + 1))).most ≤ 0 := by omega
            have hlm' : (runS n (us.take (i + 1))).l.length ≤ 0 := by omega
            have hmm : (((runS n (us.take (i + 1))).most : Int) == 0) = true := by simp [hw1]
            have hmn' : (((runS n (us.take (i + 1))).most : Int) != 0) = false := by simp [hw1]
            have HW := Lib.hid hw1; clear hw0 hw3 hw1
            go_wp2_with fail
            refine (made_ok sz h0 h1 _ (us.take (i + 1)) _ hbt).mono ?_
            rintro e w1 ⟨want, rfl, a1, own, u1⟩
            obtain ⟨wa, wc, rfl⟩ := ownsRow_slice own
            rw [← HN.out] at a1
            rw [← HN.out]
            generalize runS n (us.take (i + 1)) = s at *
            have hcell1 : w1.cell? ⟨ab, off + i, none⟩ = some (.int .u8 u) := by rw [u1.cell (by exact hab) (by simp)]; exact hcell
            go_wp2_with (first | (go_at_call 16; refine (most_at _ _ _ a1).mono ?_; rintro e w2 ⟨rfl, rfl⟩) | (go_at_call 14; refine (len_at _ _ _ a1).mono ?_; rintro e w2 ⟨rfl, rfl⟩))
            go_roundw
            case rel => exact ⟨i + 1 + 1, by omega, by go_num, by rw [HX.out], hup.trans u1⟩
            case measure => simp [intOf]; omega
      · go_wp2_with (go_at_call 11; refine (works_ok _).mono ?_; rintro e w' ⟨rfl, u⟩)
        go_ret
        exact ⟨rfl, hup.trans u⟩

theorem most_fr (w : World) (sz : Int) (h : (Lit.int .u8 sz).wf = true) (v : Value) (us : List Int) (hv : Bytes .u8 w v us) :
    Calls Try.prog 4 #[.int .u8 sz, v] w fun e w' => e = .returned (.bool true) ∧ Upd [] w w' :=
  most_ok sz (wf_u8 h).1 (wf_u8 h).2 v us w hv

end Go.Proofs.Ytcijjffhnogdfaa
