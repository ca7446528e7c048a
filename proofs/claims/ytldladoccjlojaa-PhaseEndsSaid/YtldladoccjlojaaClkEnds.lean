/-
  PhaseEnds: with all answers whole cycles pass; without one none does. Conditions: none.
-/
import Derived.Test.YtldladoccjlojaaClkMore
namespace Go.Proofs.Ytldladoccjlojaa
open Go.RowKit

/-- The first m mutators have answered. -/
def ckPre (p n c m : Nat) : Ck := ⟨p, n, c, fun j => decide (j < m)⟩
theorem ack_pre (p n c m : Nat) : (ckPre p n c m).ack m = ckPre p n c (m + 1) := by
  simp only [ckPre, Ck.ack, Ck.mk.injEq, true_and]
  funext j
  by_cases e : j = m
  · subst e; simp
  · rw [if_neg e]; simp; omega
theorem rd_pre (p n c m : Nat) (h1 : 1 ≤ n) (h4 : n ≤ 4) (hm : m ≤ n) : (ckPre p n c m).rd = decide (n ≤ m) := by
  have hn : n = 1 ∨ n = 2 ∨ n = 3 ∨ n = 4 := by omega
  have hm' : m = 0 ∨ m = 1 ∨ m = 2 ∨ m = 3 ∨ m = 4 := by omega
  rcases hn with rfl | rfl | rfl | rfl <;> rcases hm' with rfl | rfl | rfl | rfl | rfl <;> first | omega | simp [ckPre, Ck.rd]
theorem pre_ready (p n c m : Nat) (h1 : 1 ≤ n) (h4 : n ≤ 4) (hm : m < n) (hp : p = 1 ∨ p = 2) : (ckPre p n c (m + 1)).ready = ((m : Int) == (n : Int) - 1) := by
  have hs : (ckPre p n c (m + 1)).shakes = true := by simp [ckPre, Ck.shakes, hp]
  rw [Ck.ready, hs, Bool.true_and, rd_pre _ _ _ _ h1 h4 (by omega)]
  by_cases e : n ≤ m + 1
  · have : (m : Int) = (n : Int) - 1 := by omega
    simp [e, this]
  · have : ¬ (m : Int) = (n : Int) - 1 := by omega
    simp [e, this]
/-- All but one of the first m have answered. -/
def ckBut (n c x m : Nat) : Ck := ⟨1, n, c, fun j => decide (j < m ∧ j ≠ x)⟩
theorem ack_but (n c x m : Nat) (h : m ≠ x) : (ckBut n c x m).ack m = ckBut n c x (m + 1) := by
  simp only [ckBut, Ck.ack, Ck.mk.injEq, true_and]
  funext j
  by_cases e : j = m
  · subst e; simp [h]
  · rw [if_neg e]; exact decide_eq_decide.2 (by constructor <;> intro h <;> omega)
theorem but_skip (n c x : Nat) : ckBut n c x x = ckBut n c x (x + 1) := by
  simp only [ckBut, Ck.mk.injEq, true_and]
  funext j
  exact decide_eq_decide.2 (by constructor <;> intro h <;> omega)
theorem rd_but (n c x m : Nat) (h4 : n ≤ 4) (hx : x < n) : (ckBut n c x m).rd = false := by
  have hx' : x = 0 ∨ x = 1 ∨ x = 2 ∨ x = 3 := by omega
  rcases hx' with rfl | rfl | rfl | rfl <;> simp [ckBut, Ck.rd, hx]

theorem next_pre (p n c m : Nat) : (ckPre p n c m).next = ckPre ((p + 1) % 6) n (if p = 5 then c + 1 else c) 0 := by
  simp only [ckPre, Ck.next, Ck.mk.injEq, true_and]
  refine ⟨rfl, ?_⟩
  funext j
  simp
theorem but_ready (n c x m : Nat) (h4 : n ≤ 4) (hx : x < n) : (ckBut n c x m).ready = false := by
  rw [Ck.ready, rd_but _ _ _ _ h4 hx, Bool.and_false]
set_option maxRecDepth 100000 in
set_option maxHeartbeats 8000000 in
theorem ends_ok (u cy si : Int) (hu0 : 0 ≤ u) (hu1 : u < 256) (hc0 : 0 ≤ cy) (hc1 : cy < 256) (hs0 : 0 ≤ si) (hs1 : si < 256) (w : World) :
    Calls Try.prog 5 #[.int .u8 u, .int .u8 cy, .int .u8 si] w fun e w' => e = .returned (.bool true) ∧ Upd [] w w' := by
  obtain ⟨n, hn⟩ : ∃ n : Nat, 1 + u % 4 = n := ⟨(1 + u % 4).toNat, by omega⟩
  have hn1 : 1 ≤ n := by omega
  have hn4 : n ≤ 4 := by omega
  obtain ⟨K, hK⟩ : ∃ K : Nat, cy % 40 = K := ⟨(cy % 40).toNat, by omega⟩
  have hK40 : K < 40 := by omega
  obtain ⟨X, hX, hXn⟩ : ∃ X : Nat, si % (n : Int) = X ∧ X < n := ⟨si.toNat % n, by
    obtain ⟨q, rfl⟩ : ∃ q : Nat, si = q := ⟨si.toNat, by omega⟩
    rw [Int.toNat_natCast]; rfl, Nat.mod_lt _ (by omega)⟩
  have HN := Lib.hid hn; clear hn
  have hnz : (n : Int) ≠ 0 := by omega
  go_enter Try.func5, Try.ntmps5
  go_wp2_with fail
  refine (begin_ok u n _ hu0 hu1 HN.out).mono ?_; rintro e w1 ⟨rfl, a1, u1⟩
  have hw0 : w.heap.size ≤ w.heap.size := Nat.le_refl _
  generalize hb : w.heap.size = b at a1 ⊢
  have HW := Lib.hid (Nat.le_of_eq hb); clear hb hw0
  go_wp2_with fail
  go_loopw [9] (fun x wr => ∃ i : Nat, i ≤ K ∧ x = .int .i64 i ∧ CkAt wr b (ckPre 0 n i 0) ∧ Upd [] w wr) (fun x _ => K - (intOf x).toNat)
  case atStart => exact ⟨0, by omega, rfl, by simpa [ckPre, ckNew] using a1, u1⟩
  case round =>
    obtain ⟨i, hi, rfl, hk, hup⟩ := hrel
    by_cases hlt : i < K
    · go_wp2_with fail
      refine (begin_idle b _ _ hk rfl).mono ?_; rintro e w2 ⟨rfl, a2, u2⟩
      have hw := HW.out
      have up2 := hup.fresh1 u2 hw
      have a2' : CkAt w2 b (ckPre 1 n i 0) := by simpa [ckPre, Ck.to] using a2
      clear a2 hk hup u2
      obtain ⟨wo, rfl⟩ : ∃ wo : World, wo = wr := ⟨_, rfl⟩
      go_wp2_with fail
      go_loopw [10] (fun x wr => ∃ p : Nat, 1 ≤ p ∧ p ≤ 6 ∧ x = .int .i64 p ∧ CkAt wr b (ckPre (p % 6) n (if p = 6 then i + 1 else i) 0) ∧ Upd [] w wr) (fun x _ => 6 - (intOf x).toNat)
      case atStart => exact ⟨1, by omega, by omega, rfl, a2', up2⟩
      case round =>
        obtain ⟨p, hp1, hp6, rfl, hk, hup⟩ := hrel
        by_cases hp : p < 6
        · have e1 : ckPre (p % 6) n (if p = 6 then i + 1 else i) 0 = ckPre p n i 0 := by rw [Nat.mod_eq_of_lt hp, if_neg (by omega)]
          rw [e1] at hk
          clear e1
          have e2 : ckPre ((p + 1) % 6) n (if p = 5 then i + 1 else i) 0 = ckPre ((p + 1) % 6) n (if p + 1 = 6 then i + 1 else i) 0 := by
            by_cases e : p = 5
            · rw [if_pos e, if_pos (by omega)]
            · rw [if_neg e, if_neg (by omega)]
          have E2 := Lib.hid e2; clear e2
          go_wp2_with fail
          refine (phase_at b _ _ hk).mono ?_; rw [show (ckPre p n i 0).p = p from rfl]; rintro e wx ⟨rfl, rfl⟩
          by_cases hp2 : p ≤ 2
          · have hp12 : p = 1 ∨ p = 2 := by omega
            have HP := Lib.hid hp12; clear hp12
            go_wp2_with fail
            obtain ⟨wo2, rfl⟩ : ∃ wo2 : World, wo2 = wr := ⟨_, rfl⟩
            go_loopw [11] (fun x wr => ∃ m : Nat, m ≤ n ∧ x = .int .i64 m ∧ CkAt wr b (ckPre p n i m) ∧ Upd [] w wr) (fun x _ => n - (intOf x).toNat)
            case atStart => exact ⟨0, by omega, rfl, hk, hup⟩
            case round =>
              obtain ⟨m, hm, rfl, hk, hup⟩ := hrel
              by_cases hlt : m < n
              · have hT := ack_in b (ckPre p n i m) m _ hk hlt (by have := HP.out; simp [ckPre, Ck.shakes, this])
                rw [ack_pre, show (ckPre p n i m).s m = false from by simp [ckPre]] at hT
                go_wp2_with fail
                refine hT.mono ?_; clear hT; rintro e w4 ⟨rfl, a4, u4⟩
                have hw := HW.out
                have up4 := hup.fresh1 u4 hw
                go_wp2_with fail
                refine (ready_at b _ _ a4).mono ?_; rw [pre_ready p n i m hn1 hn4 hlt HP.out]; rintro e w5 ⟨rfl, u5⟩
                have a5 := a4.upd u5 (by simp)
                go_wp2_with fail
                go_roundw
                case rel => exact ⟨m + 1, by omega, by go_num, a5, up4.trans u5⟩
                case measure => simp [intOf]; omega
              · obtain rfl : m = n := by omega
                have hT := go_next b (ckPre p m i m) _ hk (by have := HP.out; simp [ckPre]; omega) (.inr (by rw [rd_pre _ _ _ _ hn1 hn4 (by omega)]; simp)) (by simp [ckPre]; omega)
                rw [next_pre, E2.out] at hT
                go_wp2_with fail
                refine hT.mono ?_; clear hT; rintro e w4 ⟨rfl, a4, u4⟩
                have hw := HW.out
                have up4 := hup.fresh1 u4 hw
                go_wp2_with fail
                go_roundw
                case rel => exact ⟨p + 1, by omega, by omega, by go_num, a4, up4⟩
                case measure => simp [intOf]; omega
          · have hT := go_next b (ckPre p n i 0) _ hk (by simp [ckPre]; omega) (.inl (by simp [ckPre, Ck.shakes]; omega)) (by simp [ckPre]; omega)
            rw [next_pre, E2.out] at hT
            go_wp2_with fail
            refine wp_loop_rounds 1 ?_
            rw [rounds_succ]
            go_wp2_with fail
            refine hT.mono ?_; clear hT; rintro e w4 ⟨rfl, a4, u4⟩
            have hw := HW.out
            have up4 := hup.fresh1 u4 hw
            go_wp2_with fail
            go_roundw
            case rel => exact ⟨p + 1, by omega, by omega, by go_num, a4, up4⟩
            case measure => simp [intOf]; omega
        · obtain rfl : p = 6 := by omega
          have hk6 : CkAt wr b (ckPre 0 n (i + 1) 0) := by simpa using hk
          clear hk
          rw [show Value.int .i64 ((6 : Nat) : Int) = .int .i64 6 from rfl]
          go_wp2_with fail
          refine (phase_at b _ _ hk6).mono ?_; rw [show (ckPre 0 n (i + 1) 0).p = 0 from rfl]; rintro e wx ⟨rfl, rfl⟩
          go_wp2_with fail
          refine (cycles_at b _ _ hk6).mono ?_; rw [show (((ckPre 0 n (i + 1) 0).c : Nat) : Int) = (i : Int) + 1 from rfl]; rintro e wx ⟨rfl, rfl⟩
          go_wp2_with fail
          go_roundw
          case rel => exact ⟨i + 1, by omega, by go_num, hk6, hup⟩
          case measure => simp [intOf]; omega
    · obtain rfl : i = K := by omega
      go_wp2_with fail
      refine (begin_idle b _ _ hk rfl).mono ?_; rintro e w2 ⟨rfl, a2, u2⟩
      have hw := HW.out
      have up2 := hup.fresh1 u2 hw
      have a2' : CkAt w2 b (ckBut n i X 0) := by simpa [ckPre, Ck.to, ckBut] using a2
      clear a2 hk hup u2
      obtain ⟨wo, rfl⟩ : ∃ wo : World, wo = wr := ⟨_, rfl⟩
      go_wp2_with fail
      go_loopw [14] (fun x wr => ∃ m : Nat, m ≤ n ∧ x = .int .i64 m ∧ CkAt wr b (ckBut n i X m) ∧ Upd [] w wr) (fun x _ => n - (intOf x).toNat)
      case atStart => exact ⟨0, by omega, rfl, a2', up2⟩
      case round =>
        obtain ⟨m, hm, rfl, hk, hup⟩ := hrel
        by_cases hlt : m < n
        · by_cases hx : m = X
          · have b1 : ((m : Int) == (X : Int)) = true := by simp [hx]
            have b2 : ((m : Int) != (X : Int)) = false := by simp [hx]
            have hk2 : CkAt wr b (ckBut n i X (m + 1)) := by rw [hx] at hk ⊢; rw [← but_skip]; exact hk
            clear hx hk
            go_wp2_with fail
            go_roundw
            case rel => exact ⟨m + 1, by omega, by go_num, hk2, hup⟩
            case measure => simp [intOf]; omega
          · have b1 : ((m : Int) == (X : Int)) = false := by simp; omega
            have b2 : ((m : Int) != (X : Int)) = true := by simp; omega
            have hT := ack_in b (ckBut n i X m) m _ hk hlt (by simp [ckBut, Ck.shakes])
            rw [ack_but _ _ _ _ hx] at hT
            clear hx
            go_wp2_with fail
            refine hT.mono ?_; clear hT; rintro e w4 ⟨rfl, a4, u4⟩
            have hw := HW.out
            go_wp2_with fail
            go_roundw
            case rel => exact ⟨m + 1, by omega, by go_num, a4, hup.fresh1 u4 hw⟩
            case measure => simp [intOf]; omega
        · obtain rfl : m = n := by omega
          have R := Lib.hid (but_ready m i X m hn4 hXn)
          go_wp2_with fail
          refine (go_busy b _ _ hk (by simp [ckBut, Ck.shakes]) (rd_but _ _ _ _ hn4 hXn)).mono ?_; rintro e w4 ⟨rfl, u4⟩
          have a4 := hk.upd u4 (by simp)
          go_wp2_with fail
          refine (ready_at b _ _ a4).mono ?_; rw [R.out]; rintro e w5 ⟨rfl, u5⟩
          have a5 := a4.upd u5 (by simp)
          go_wp2_with fail
          refine (phase_at b _ _ a5).mono ?_; rw [show (ckBut m i X m).p = 1 from rfl]; rintro e wx ⟨rfl, rfl⟩
          go_wp2_with fail
          refine (cycles_at b _ _ a5).mono ?_; rw [show (ckBut m i X m).c = i from rfl]; rintro e wx ⟨rfl, rfl⟩
          go_wp2_with fail
          refine (works_ok _).mono ?_; rintro e w6 ⟨rfl, u6⟩
          go_wp2_with fail
          go_ret
          exact ⟨rfl, ((hup.trans u4).trans u5).trans u6⟩

theorem ends_fr (w : World) (u : Int) (hu : (Lit.int .u8 u).wf = true) (c : Int) (hc : (Lit.int .u8 c).wf = true) (s : Int) (hs : (Lit.int .u8 s).wf = true) :
    Calls Try.prog 5 #[.int .u8 u, .int .u8 c, .int .u8 s] w fun e w' => e = .returned (.bool true) ∧ Upd [] w w' :=
  ends_ok u c s (wf_u8 hu).1 (wf_u8 hu).2 (wf_u8 hc).1 (wf_u8 hc).2 (wf_u8 hs).1 (wf_u8 hs).2 w

end Go.Proofs.Ytldladoccjlojaa
