/-
  Contracts of 'begin' and 'turn'. Conditions: none.
-/
import Derived.Test.YtldladoccjlojaaClkWorks
namespace Go.Proofs.Ytldladoccjlojaa
open Go.RowKit

theorem begin_ok (u : Int) (n : Nat) (w : World) (h0 : 0 ≤ u) (h1 : u < 256) (hn : 1 + u % 4 = n) :
    Calls Try.prog 11 #[.int .u8 u] w fun e w' => e = .returned (.tuple #[.pointer (some ⟨w.heap.size, 0, none⟩), .int .i64 n]) ∧ CkAt w' w.heap.size (ckNew n) ∧ Upd [] w w' := by
  have hn1 : 1 ≤ n := by omega
  have hn4 : n ≤ 4 := by omega
  go_enter Try.func11, Try.ntmps11
  go_wp2_with (go_at_call 21; refine (new_at n _ hn1 hn4).mono ?_; rintro e w' ⟨rfl, a, up⟩)
  go_ret2
  exact ⟨rfl, a, up⟩

/-- A clock behind a turn. -/
def Ck.turn (k : Ck) (t : Int) : Ck :=
  if t % 8 = 0 then (if k.p = 0 then k.to 1 else k)
  else if t % 8 < 4 then (if k.p = 0 then k else if k.shakes = true ∧ k.rd = false then k else k.next)
  else (if k.shakes = true then k.ack ((t / 8).toNat % k.n) else k)
theorem turn_begin (b : Nat) (k : Ck) (t n : Int) (w : World) (h : CkAt w b k) (h0 : 0 ≤ t) (h1 : t < 256) (h8 : t % 8 = 0) :
    Calls Try.prog 19 #[.pointer (some ⟨b, 0, none⟩), .int .i64 n, .int .u8 t] w fun e w' => e = .returned (.tuple #[]) ∧ CkAt w' b (k.turn t) ∧ Upd [b] w w' := by
  unfold Ck.turn
  rw [if_pos h8]
  have H := Lib.hid h; clear h
  by_cases hp : k.p = 0
  · rw [if_pos hp]
    have HP := Lib.hid hp; clear hp
    go_enter Try.func19, Try.ntmps19
    go_wp2_with (go_at_call 13; refine (begin_idle b k _ H.out HP.out).mono ?_; rintro e w' ⟨rfl, a, u⟩)
    go_end0
    exact ⟨rfl, a, u⟩
  · rw [if_neg hp]
    have HP := Lib.hid hp; clear hp
    go_enter Try.func19, Try.ntmps19
    go_wp2_with (go_at_call 13; refine (begin_not b k _ H.out HP.out).mono ?_; rintro e w' ⟨rfl, rfl⟩)
    go_end0
    exact ⟨rfl, H.out, Upd.refl _ _⟩

theorem turn_go (b : Nat) (k : Ck) (t n : Int) (w : World) (h : CkAt w b k) (h0 : 0 ≤ t) (h1 : t < 256) (h8 : t % 8 ≠ 0) (h4 : t % 8 < 4) (hc : k.c < 1000000) :
    Calls Try.prog 19 #[.pointer (some ⟨b, 0, none⟩), .int .i64 n, .int .u8 t] w fun e w' => e = .returned (.tuple #[]) ∧ CkAt w' b (k.turn t) ∧ Upd [b] w w' := by
  unfold Ck.turn
  rw [if_neg h8, if_pos h4]
  have hb : (t % 8 == 0) = false := by simpa using h8
  clear h8
  have H := Lib.hid h; clear h
  have hc' := Lib.hid hc; clear hc
  by_cases hp : k.p = 0
  · rw [if_pos hp]
    have HP := Lib.hid hp; clear hp
    go_enter Try.func19, Try.ntmps19
    go_wp2_with (go_at_call 14; refine (go_idle b k _ H.out HP.out).mono ?_; rintro e w' ⟨rfl, rfl⟩)
    go_end0
    exact ⟨rfl, H.out, Upd.refl _ _⟩
  · rw [if_neg hp]
    have HP := Lib.hid hp; clear hp
    by_cases hs : k.shakes = true ∧ k.rd = false
    · rw [if_pos hs]
      have HS := Lib.hid hs; clear hs
      go_enter Try.func19, Try.ntmps19
      go_wp2_with (go_at_call 14; refine (go_busy b k _ H.out HS.out.1 HS.out.2).mono ?_; rintro e w' ⟨rfl, u⟩)
      go_end0
      exact ⟨rfl, H.out.upd u (by simp), u.nil⟩
    · rw [if_neg hs]
      have hs2 : k.shakes = false ∨ k.rd = true := by cases h1 : k.shakes <;> cases h2 : k.rd <;> simp_all
      have HS := Lib.hid hs2; clear hs hs2
      go_enter Try.func19, Try.ntmps19
      go_wp2_with (go_at_call 14; refine (go_next b k _ H.out HP.out HS.out hc'.out).mono ?_; rintro e w' ⟨rfl, a, u⟩)
      go_end0
      exact ⟨rfl, a, u⟩

theorem turn_ack (b : Nat) (k : Ck) (t : Int) (w : World) (h : CkAt w b k) (h0 : 0 ≤ t) (h1 : t < 256) (h4 : ¬ t % 8 < 4) :
    Calls Try.prog 19 #[.pointer (some ⟨b, 0, none⟩), .int .i64 k.n, .int .u8 t] w fun e w' => e = .returned (.tuple #[]) ∧ CkAt w' b (k.turn t) ∧ Upd [b] w w' := by
  unfold Ck.turn
  have h8 : ¬ t % 8 = 0 := by omega
  rw [if_neg h8, if_neg h4]
  have hb : (t % 8 == 0) = false := by simpa using h8
  clear h8
  have hn : 0 < k.n := h.1.1
  have hm : (t / 8).toNat % k.n < k.n := Nat.mod_lt _ hn
  have he : t / 8 % (k.n : Int) = (((t / 8).toNat % k.n : Nat) : Int) := by
    obtain ⟨q, hq⟩ : ∃ q : Nat, t / 8 = q := ⟨(t / 8).toNat, by omega⟩
    rw [hq, Int.toNat_natCast]; rfl
  generalize (t / 8).toNat % k.n = m at hm he ⊢
  have H := Lib.hid h; clear h
  have hnn : (k.n : Int) ≠ 0 := by omega
  by_cases hs : k.shakes = true
  · rw [if_pos hs]
    have HS := Lib.hid hs; clear hs
    go_enter Try.func19, Try.ntmps19
    go_wp2_with (go_at_call 15; refine (ack_in b k m _ H.out hm HS.out).mono ?_; rintro e w' ⟨rfl, a, u⟩)
    go_end0
    exact ⟨rfl, a, u⟩
  · rw [if_neg hs]
    have hs2 : k.shakes = false := by simpa using hs
    have HS := Lib.hid hs2; clear hs hs2
    go_enter Try.func19, Try.ntmps19
    go_wp2_with (go_at_call 15; refine (ack_not b k m _ H.out hm HS.out).mono ?_; rintro e w' ⟨rfl, rfl⟩)
    go_end0
    exact ⟨rfl, H.out, Upd.refl _ _⟩

theorem turn_at (b : Nat) (k : Ck) (t : Int) (w : World) (h : CkAt w b k) (h0 : 0 ≤ t) (h1 : t < 256) (hc : k.c < 1000000) :
    Calls Try.prog 19 #[.pointer (some ⟨b, 0, none⟩), .int .i64 k.n, .int .u8 t] w fun e w' => e = .returned (.tuple #[]) ∧ CkAt w' b (k.turn t) ∧ Upd [b] w w' := by
  by_cases h8 : t % 8 = 0
  · exact turn_begin b k t k.n w h h0 h1 h8
  · by_cases h4 : t % 8 < 4
    · exact turn_go b k t k.n w h h0 h1 h8 h4 hc
    · exact turn_ack b k t w h h0 h1 h4
theorem turn_n (k : Ck) (t : Int) : (k.turn t).n = k.n := by
  unfold Ck.turn
  repeat' split
  all_goals rfl
theorem turn_c (k : Ck) (t : Int) : (k.turn t).c ≤ k.c + 1 := by
  unfold Ck.turn
  repeat' split
  all_goals simp [Ck.to, Ck.next, Ck.ack]
  all_goals (try split) <;> omega

end Go.Proofs.Ytldladoccjlojaa
