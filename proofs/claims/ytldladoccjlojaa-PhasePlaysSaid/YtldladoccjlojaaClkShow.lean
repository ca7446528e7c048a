/-
  Both clocks: what each call answers, in one word for both; 'shows'. Conditions: none.
-/
import Derived.Test.YtldladoccjlojaaClkRef2
import Derived.Test.YtldladoccjlojaaArgs
namespace Go.Proofs.Ytldladoccjlojaa
open Go.RowKit

def Ck.beginE (k : Ck) : Int := if k.p = 0 then 0 else 8
def Ck.beginS (k : Ck) : Ck := if k.p = 0 then k.to 1 else k
def Ck.goE (k : Ck) : Int := if k.p = 0 then 8 else if k.shakes = true ∧ k.rd = false then 13 else 0
def Ck.goS (k : Ck) : Ck := if k.p = 0 then k else if k.shakes = true ∧ k.rd = false then k else k.next
def Ck.isId (k : Ck) (m : Int) : Prop := 0 ≤ m ∧ m < k.n
instance (k : Ck) (m : Int) : Decidable (k.isId m) := by unfold Ck.isId; infer_instance
def Ck.seenB (k : Ck) (m : Int) : Bool := if k.isId m then k.s m.toNat else false
def Ck.seenE (k : Ck) (m : Int) : Int := if k.isId m then 0 else 3
def Ck.barB (k : Ck) (m : Int) : Bool := if k.isId m then k.bar m.toNat else false
def Ck.ackB (k : Ck) (m : Int) : Bool := if k.isId m then (if k.shakes = true then !k.s m.toNat else false) else false
def Ck.ackE (k : Ck) (m : Int) : Int := if k.isId m then (if k.shakes = true then 0 else 8) else 3
def Ck.ackS (k : Ck) (m : Int) : Ck := if k.isId m then (if k.shakes = true then k.ack m.toNat else k) else k
theorem beginS_n (k : Ck) : k.beginS.n = k.n := by unfold Ck.beginS; split <;> rfl
theorem goS_n (k : Ck) : k.goS.n = k.n := by unfold Ck.goS; repeat' split
                                             all_goals rfl
theorem ackS_n (k : Ck) (m : Int) : (k.ackS m).n = k.n := by unfold Ck.ackS; repeat' split
                                                             all_goals rfl
theorem beginS_c (k : Ck) : k.beginS.c = k.c := by unfold Ck.beginS; split <;> rfl
theorem goS_c (k : Ck) : k.goS.c ≤ k.c + 1 := by
  unfold Ck.goS; repeat' split
  all_goals simp [Ck.next]
  all_goals split <;> omega
theorem ackS_c (k : Ck) (m : Int) : (k.ackS m).c = k.c := by unfold Ck.ackS; repeat' split
                                                             all_goals rfl
def CkPost (b : Nat) (v : Value) (k : Ck) (w : World) (e : Ending) (w' : World) : Prop := e = .returned v ∧ CkAt w' b k ∧ Upd [b] w w'
def RkPost (b : Nat) (v : Value) (k : Ck) (w : World) (e : Ending) (w' : World) : Prop := e = .returned v ∧ RkAt w' b k ∧ Upd [b] w w'

theorem begin_any (b : Nat) (k : Ck) (w : World) (h : CkAt w b k) : Calls Try.prog 13 #[.pointer (some ⟨b, 0, none⟩)] w (CkPost b (.int .i64 k.beginE) k.beginS w) := by
  unfold Ck.beginE Ck.beginS
  by_cases hp : k.p = 0
  · rw [if_pos hp, if_pos hp]
    exact (begin_idle b k w h hp).mono fun _ _ h => h
  · rw [if_neg hp, if_neg hp]
    exact (begin_not b k w h hp).mono fun _ _ ⟨h1, h2⟩ => ⟨h1, by subst h2; exact h, by subst h2; exact Upd.refl _ _⟩
theorem rbegin_any (b : Nat) (k : Ck) (w : World) (h : RkAt w b k) : Calls Try.prog 23 #[.pointer (some ⟨b, 0, none⟩)] w (RkPost b (.int .i64 k.beginE) k.beginS w) := by
  unfold Ck.beginE Ck.beginS
  by_cases hp : k.p = 0
  · rw [if_pos hp, if_pos hp]
    exact (rbegin_idle b k w h hp).mono fun _ _ h => h
  · rw [if_neg hp, if_neg hp]
    exact (rbegin_not b k w h hp).mono fun _ _ ⟨h1, h2⟩ => ⟨h1, by subst h2; exact h, by subst h2; exact Upd.refl _ _⟩
theorem go_any (b : Nat) (k : Ck) (w : World) (h : CkAt w b k) (hc : k.c < 1000000) : Calls Try.prog 14 #[.pointer (some ⟨b, 0, none⟩)] w (CkPost b (.int .i64 k.goE) k.goS w) := by
  unfold Ck.goE Ck.goS
  by_cases hp : k.p = 0
  · rw [if_pos hp, if_pos hp]
    exact (go_idle b k w h hp).mono fun _ _ ⟨h1, h2⟩ => ⟨h1, by subst h2; exact h, by subst h2; exact Upd.refl _ _⟩
  · rw [if_neg hp, if_neg hp]
    by_cases hs : k.shakes = true ∧ k.rd = false
    · rw [if_pos hs, if_pos hs]
      exact (go_busy b k w h hs.1 hs.2).mono fun _ _ ⟨h1, h2⟩ => ⟨h1, h.upd h2 (by simp), h2.nil⟩
    · rw [if_neg hs, if_neg hs]
      have hs2 : k.shakes = false ∨ k.rd = true := by cases h1 : k.shakes <;> cases h2 : k.rd <;> simp_all
      exact (go_next b k w h hp hs2 hc).mono fun _ _ h => h
theorem rgo_any (b : Nat) (k : Ck) (w : World) (h : RkAt w b k) (hc : k.c < 1000000) : Calls Try.prog 25 #[.pointer (some ⟨b, 0, none⟩)] w (RkPost b (.int .i64 k.goE) k.goS w) := by
  unfold Ck.goE Ck.goS
  by_cases hp : k.p = 0
  · rw [if_pos hp, if_pos hp]
    exact (rgo_idle b k w h hp).mono fun _ _ ⟨h1, h2⟩ => ⟨h1, by subst h2; exact h, by subst h2; exact Upd.refl _ _⟩
  · rw [if_neg hp, if_neg hp]
    by_cases hs : k.shakes = true ∧ k.rd = false
    · rw [if_pos hs, if_pos hs]
      exact (rgo_busy b k w h hs.1 hs.2).mono fun _ _ ⟨h1, h2⟩ => ⟨h1, by subst h2; exact h, by subst h2; exact Upd.refl _ _⟩
    · rw [if_neg hs, if_neg hs]
      have hs2 : k.shakes = false ∨ k.rd = true := by cases h1 : k.shakes <;> cases h2 : k.rd <;> simp_all
      exact (rgo_next b k w h hp hs2 hc).mono fun _ _ h => h
theorem ack_any (b : Nat) (k : Ck) (m : Int) (w : World) (h : CkAt w b k) : Calls Try.prog 15 #[.pointer (some ⟨b, 0, none⟩), .int .i64 m] w (CkPost b (.tuple #[.bool (k.ackB m), .int .i64 (k.ackE m)]) (k.ackS m) w) := by
  unfold Ck.ackB Ck.ackE Ck.ackS
  by_cases hi : k.isId m
  · rw [if_pos hi, if_pos hi, if_pos hi]
    obtain ⟨j, rfl⟩ : ∃ j : Nat, m = j := ⟨m.toNat, by have := hi.1; omega⟩
    have hj : j < k.n := by have := hi.2; omega
    rw [Int.toNat_natCast]
    by_cases hs : k.shakes = true
    · rw [if_pos hs, if_pos hs, if_pos hs]
      exact (ack_in b k j w h hj hs).mono fun _ _ h => h
    · rw [if_neg hs, if_neg hs, if_neg hs]
      exact (ack_not b k j w h hj (by simpa using hs)).mono fun _ _ ⟨h1, h2⟩ => ⟨h1, by subst h2; exact h, by subst h2; exact Upd.refl _ _⟩
  · rw [if_neg hi, if_neg hi, if_neg hi]
    exact (ack_beyond b k m w h (by unfold Ck.isId at hi; omega)).mono fun _ _ ⟨h1, h2⟩ => ⟨h1, by subst h2; exact h, by subst h2; exact Upd.refl _ _⟩
theorem rack_any (b : Nat) (k : Ck) (m : Int) (w : World) (h : RkAt w b k) : Calls Try.prog 24 #[.pointer (some ⟨b, 0, none⟩), .int .i64 m] w (RkPost b (.tuple #[.bool (k.ackB m), .int .i64 (k.ackE m)]) (k.ackS m) w) := by
  unfold Ck.ackB Ck.ackE Ck.ackS
  by_cases hi : k.isId m
  · rw [if_pos hi, if_pos hi, if_pos hi]
    obtain ⟨j, rfl⟩ : ∃ j : Nat, m = j := ⟨m.toNat, by have := hi.1; omega⟩
    have hj : j < k.n := by have := hi.2; omega
    rw [Int.toNat_natCast]
    by_cases hs : k.shakes = true
    · rw [if_pos hs, if_pos hs, if_pos hs]
      exact (rack_in b k j w h hj hs).mono fun _ _ h => h
    · rw [if_neg hs, if_neg hs, if_neg hs]
      exact (rack_not b k j w h hj (by simpa using hs)).mono fun _ _ ⟨h1, h2⟩ => ⟨h1, by subst h2; exact h, by subst h2; exact Upd.refl _ _⟩
  · rw [if_neg hi, if_neg hi, if_neg hi]
    exact (rack_beyond b k m w h (by unfold Ck.isId at hi; omega)).mono fun _ _ ⟨h1, h2⟩ => ⟨h1, by subst h2; exact h, by subst h2; exact Upd.refl _ _⟩
theorem seen_any (b : Nat) (k : Ck) (m : Int) (w : World) (h : CkAt w b k) : Calls Try.prog 18 #[.pointer (some ⟨b, 0, none⟩), .int .i64 m] w fun e w' => e = .returned (.tuple #[.bool (k.seenB m), .int .i64 (k.seenE m)]) ∧ w = w' := by
  unfold Ck.seenB Ck.seenE
  by_cases hi : k.isId m
  · rw [if_pos hi, if_pos hi]
    obtain ⟨j, rfl⟩ : ∃ j : Nat, m = j := ⟨m.toNat, by have := hi.1; omega⟩
    rw [Int.toNat_natCast]
    exact seen_in b k j w h (by have := hi.2; omega)
  · rw [if_neg hi, if_neg hi]
    exact seen_beyond b k m w h (by unfold Ck.isId at hi; omega)
theorem rseen_any (b : Nat) (k : Ck) (m : Int) (w : World) (h : RkAt w b k) : Calls Try.prog 35 #[.pointer (some ⟨b, 0, none⟩), .int .i64 m] w fun e w' => e = .returned (.tuple #[.bool (k.seenB m), .int .i64 (k.seenE m)]) ∧ w = w' := by
  unfold Ck.seenB Ck.seenE
  by_cases hi : k.isId m
  · rw [if_pos hi, if_pos hi]
    obtain ⟨j, rfl⟩ : ∃ j : Nat, m = j := ⟨m.toNat, by have := hi.1; omega⟩
    rw [Int.toNat_natCast]
    exact rseen_in b k j w h (by have := hi.2; omega)
  · rw [if_neg hi, if_neg hi]
    exact rseen_beyond b k m w h (by unfold Ck.isId at hi; omega)
theorem bar_any (b : Nat) (k : Ck) (m : Int) (w : World) (h : CkAt w b k) : Calls Try.prog 20 #[.pointer (some ⟨b, 0, none⟩), .int .i64 m] w fun e w' => e = .returned (.bool (k.barB m)) ∧ w = w' := by
  unfold Ck.barB
  by_cases hi : k.isId m
  · rw [if_pos hi]
    obtain ⟨j, rfl⟩ : ∃ j : Nat, m = j := ⟨m.toNat, by have := hi.1; omega⟩
    rw [Int.toNat_natCast]
    exact barrier_in b k j w h (by have := hi.2; omega)
  · rw [if_neg hi]
    exact barrier_beyond b k m w h (by unfold Ck.isId at hi; omega)
theorem rbar_any (b : Nat) (k : Ck) (m : Int) (w : World) (h : RkAt w b k) : Calls Try.prog 38 #[.pointer (some ⟨b, 0, none⟩), .int .i64 m] w fun e w' => e = .returned (.bool (k.barB m)) ∧ w = w' := by
  unfold Ck.barB
  by_cases hi : k.isId m
  · rw [if_pos hi]
    obtain ⟨j, rfl⟩ : ∃ j : Nat, m = j := ⟨m.toNat, by have := hi.1; omega⟩
    rw [Int.toNat_natCast]
    exact rbarrier_in b k j w h (by have := hi.2; omega)
  · rw [if_neg hi]
    exact rbarrier_beyond b k m w h (by unfold Ck.isId at hi; omega)
theorem rready_at (b : Nat) (k : Ck) (w : World) (h : RkAt w b k) : Calls Try.prog 37 #[.pointer (some ⟨b, 0, none⟩)] w fun e w' => e = .returned (.bool k.ready) ∧ w = w' := by
  cases hs : k.shakes
  · rw [show k.ready = false from by simp [Ck.ready, hs]]
    exact rready_not b k w h hs
  · rw [show k.ready = k.rd from by simp [Ck.ready, hs]]
    exact rready_shakes b k w h hs

set_option maxRecDepth 100000 in
set_option maxHeartbeats 1000000 in
theorem shows_at (b r : Nat) (k : Ck) (m : Int) (w : World) (h : CkAt w b k) (hr : RkAt w r k) :
    Calls Try.prog 28 #[.pointer (some ⟨b, 0, none⟩), .pointer (some ⟨r, 0, none⟩), .int .i64 m] w fun e w' => e = .returned (.bool true) ∧ Upd [] w w' := by
  have H := Lib.hid h; have HR := Lib.hid hr
  clear h hr
  go_enter Try.func28, Try.ntmps28
  go_wp2_with fail
  go_loop [7] (fun x => ∃ i : Int, -1 ≤ i ∧ i ≤ 6 ∧ x = .int .i64 i) (fun x => (6 - intOf x).toNat)
  case atStart => exact ⟨-1, by omega, by omega, rfl⟩
  case round =>
    obtain ⟨i, hi0, hi6, rfl⟩ := hrel
    by_cases hlt : i < 6
    · by_cases h5 : i = 5
      · subst h5
        clear hi0 hi6 hlt
        generalize hsb : k.seenB m = sb
        generalize hse : k.seenE m = se
        generalize hbb : k.barB m = bb
        have S1 := Lib.hid hsb; have S2 := Lib.hid hse; have S3 := Lib.hid hbb
        clear hsb hse hbb
        go_wp2_with (first | (go_at_call 18; refine (seen_any b k _ _ H.out).mono ?_; rw [S1.out, S2.out]; rintro e wx ⟨rfl, rfl⟩) | (go_at_call 35; refine (rseen_any r k _ _ HR.out).mono ?_; rw [S1.out, S2.out]; rintro e wx ⟨rfl, rfl⟩) | (go_at_call 20; refine (bar_any b k _ _ H.out).mono ?_; rw [S3.out]; rintro e wx ⟨rfl, rfl⟩) | (go_at_call 38; refine (rbar_any r k _ _ HR.out).mono ?_; rw [S3.out]; rintro e wx ⟨rfl, rfl⟩))
        go_round
        case rel => exact ⟨6, by omega, by omega, rfl⟩
        case measure => simp [intOf]
      · have hb5 : (i == 5) = false := by simpa using h5
        clear h5
        generalize hsb : k.seenB i = sb
        generalize hse : k.seenE i = se
        generalize hbb : k.barB i = bb
        have S1 := Lib.hid hsb; have S2 := Lib.hid hse; have S3 := Lib.hid hbb
        clear hsb hse hbb
        go_wp2_with (first | (go_at_call 18; refine (seen_any b k _ _ H.out).mono ?_; rw [S1.out, S2.out]; rintro e wx ⟨rfl, rfl⟩) | (go_at_call 35; refine (rseen_any r k _ _ HR.out).mono ?_; rw [S1.out, S2.out]; rintro e wx ⟨rfl, rfl⟩) | (go_at_call 20; refine (bar_any b k _ _ H.out).mono ?_; rw [S3.out]; rintro e wx ⟨rfl, rfl⟩) | (go_at_call 38; refine (rbar_any r k _ _ HR.out).mono ?_; rw [S3.out]; rintro e wx ⟨rfl, rfl⟩))
        go_round
        case rel => exact ⟨i + 1, by omega, by omega, rfl⟩
        case measure => simp [intOf]; omega
    · go_wp2_with fail
      refine (phase_at b k _ H.out).mono ?_; rintro e wx ⟨rfl, rfl⟩
      go_wp2_with fail
      refine (rphase_at r k _ HR.out).mono ?_; rintro e wx ⟨rfl, rfl⟩
      go_wp2_with fail
      refine (ready_at b k _ H.out).mono ?_; rintro e w2 ⟨rfl, u2⟩
      have a2 := H.out.upd u2 (by simp)
      have r2 := HR.out.upd0 u2
      go_wp2_with fail
      refine (rready_at r k _ r2).mono ?_; rintro e wx ⟨rfl, rfl⟩
      go_wp2_with fail
      refine (cycles_at b k _ a2).mono ?_; rintro e wx ⟨rfl, rfl⟩
      go_wp2_with fail
      refine (rcycles_at r k _ r2).mono ?_; rintro e wx ⟨rfl, rfl⟩
      go_wp2_with fail
      go_ret
      exact ⟨rfl, u2⟩

end Go.Proofs.Ytldladoccjlojaa
