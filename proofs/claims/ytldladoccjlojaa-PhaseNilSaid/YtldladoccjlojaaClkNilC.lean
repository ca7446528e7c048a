/-
  Contracts of the package phase at clocks that are nil, or zero. Conditions: none.
-/
import Derived.Test.YtldladoccjlojaaClkWorks
namespace Go.Proofs.Ytldladoccjlojaa
open Go.RowKit

def ckZero : Array Value := #[.int .i64 0, .int .i64 0, .int .i64 0, .bool false, .bool false, .bool false, .bool false, .bool false, .bool false, .bool false, .bool false]
/-- A clock that is nil, or zero. -/
def NoC (w : World) (p : Option Addr) : Prop := p = none ∨ ∃ b, p = some ⟨b, 0, none⟩ ∧ w.heap[b]? = some (.cells ckZero 55 (0, 0))
theorem NoC.upd {w w' : World} {p : Option Addr} (h : NoC w p) (u : Upd [] w w') : NoC w' p := by
  rcases h with h | ⟨b, h, hb⟩
  · exact .inl h
  · exact .inr ⟨b, h, u.keep hb (by simp)⟩
theorem nvalid (p : Option Addr) (w : World) (h : NoC w p) : Calls Try.prog 29 #[.pointer p] w fun e w' => e = .returned (.bool false) ∧ w = w' := by
  rcases h with rfl | ⟨b, rfl, hb⟩
  · go_enter Try.func29, Try.ntmps29
    go_wp2
    go_ret
    exact ⟨rfl, rfl⟩
  · have c1 : w.cell? ⟨b, 1, none⟩ = some (.int .i64 0) := cell_of hb 1
    clear hb
    go_enter Try.func29, Try.ntmps29
    go_wp2
    go_ret
    exact ⟨rfl, rfl⟩
theorem nvalid_q {p : Option Addr} {w : World} {n : Nat} (h : NoC w p) : Calls Try.prog 29 #[.pointer p] (w.drewN n) fun x w'' => x = .returned (.bool false) ∧ ∃ i, w'' = w.drewN i :=
  (nvalid p _ (h.upd ((Upd.refl [] w).drewN n))).mono fun _ _ ⟨h1, h2⟩ => ⟨h1, n, h2.symm⟩
theorem nfind (p : Option Addr) (m : Int) (w : World) (h : NoC w p) : Calls Try.prog 32 #[.pointer p, .int .i64 m] w fun e w' => e = .returned (.int .i64 1) ∧ w = w' := by
  have H := Lib.hid h; clear h
  go_enter Try.func32, Try.ntmps32
  go_wp2_with (go_at_call 29; refine (nvalid p _ H.out).mono ?_; rintro e w' ⟨rfl, rfl⟩)
  go_ret
  exact ⟨rfl, rfl⟩
theorem nack (p : Option Addr) (m : Int) (w : World) (h : NoC w p) : Calls Try.prog 15 #[.pointer p, .int .i64 m] w fun e w' => e = .returned (.tuple #[.bool false, .int .i64 1]) ∧ w = w' := by
  have H := Lib.hid h; clear h
  go_enter Try.func15, Try.ntmps15
  go_wp2_with (go_at_call 32; refine (nfind p m _ H.out).mono ?_; rintro e w' ⟨rfl, rfl⟩)
  go_ret2
  exact ⟨rfl, rfl⟩
theorem nseen (p : Option Addr) (m : Int) (w : World) (h : NoC w p) : Calls Try.prog 18 #[.pointer p, .int .i64 m] w fun e w' => e = .returned (.tuple #[.bool false, .int .i64 1]) ∧ w = w' := by
  have H := Lib.hid h; clear h
  go_enter Try.func18, Try.ntmps18
  go_wp2_with (go_at_call 32; refine (nfind p m _ H.out).mono ?_; rintro e w' ⟨rfl, rfl⟩)
  go_ret2
  exact ⟨rfl, rfl⟩
theorem nbarrier (p : Option Addr) (m : Int) (w : World) (h : NoC w p) : Calls Try.prog 20 #[.pointer p, .int .i64 m] w fun e w' => e = .returned (.bool false) ∧ w = w' := by
  have H := Lib.hid h; clear h
  go_enter Try.func20, Try.ntmps20
  go_wp2_with (go_at_call 32; refine (nfind p m _ H.out).mono ?_; rintro e w' ⟨rfl, rfl⟩)
  go_ret
  exact ⟨rfl, rfl⟩
theorem nbegin (p : Option Addr) (w : World) (h : NoC w p) : Calls Try.prog 13 #[.pointer p] w fun e w' => e = .returned (.int .i64 1) ∧ w = w' := by
  have H := Lib.hid h; clear h
  go_enter Try.func13, Try.ntmps13
  go_wp2_with (go_at_call 29; refine (nvalid p _ H.out).mono ?_; rintro e w' ⟨rfl, rfl⟩)
  go_ret
  exact ⟨rfl, rfl⟩
theorem ngo (p : Option Addr) (w : World) (h : NoC w p) : Calls Try.prog 14 #[.pointer p] w fun e w' => e = .returned (.int .i64 1) ∧ w = w' := by
  have H := Lib.hid h; clear h
  go_enter Try.func14, Try.ntmps14
  go_wp2_with (go_at_call 29; refine (nvalid p _ H.out).mono ?_; rintro e w' ⟨rfl, rfl⟩)
  go_ret
  exact ⟨rfl, rfl⟩
theorem nphase (p : Option Addr) (w : World) (h : NoC w p) : Calls Try.prog 16 #[.pointer p] w fun e w' => e = .returned (.int .i64 0) ∧ w = w' := by
  have H := Lib.hid h; clear h
  go_enter Try.func16, Try.ntmps16
  go_wp2_with (go_at_call 29; refine (nvalid p _ H.out).mono ?_; rintro e w' ⟨rfl, rfl⟩)
  go_ret
  exact ⟨rfl, rfl⟩
theorem ncycles (p : Option Addr) (w : World) (h : NoC w p) : Calls Try.prog 17 #[.pointer p] w fun e w' => e = .returned (.int .i64 0) ∧ w = w' := by
  have H := Lib.hid h; clear h
  go_enter Try.func17, Try.ntmps17
  go_wp2_with (go_at_call 29; refine (nvalid p _ H.out).mono ?_; rintro e w' ⟨rfl, rfl⟩)
  go_ret
  exact ⟨rfl, rfl⟩
theorem ncopy (p : Option Addr) (w : World) (h : NoC w p) : Calls Try.prog 26 #[.pointer p] w fun e w' => e = .returned (.pointer none) ∧ w = w' := by
  have H := Lib.hid h; clear h
  go_enter Try.func26, Try.ntmps26
  go_wp2_with (go_at_call 29; refine (nvalid p _ H.out).mono ?_; rintro e w' ⟨rfl, rfl⟩)
  go_ret
  exact ⟨rfl, rfl⟩
theorem nready (p : Option Addr) (w : World) (h : NoC w p) : Calls Try.prog 12 #[.pointer p] w fun e w' => e = .returned (.bool false) ∧ Upd [] w w' := by
  have H := Lib.hid h; clear h
  go_enter Try.func12, Try.ntmps12
  go_wp2_with fail
  go_quiet (first | (go_at_call 29; exact nvalid_q H.out))
  go_wp2
  go_ret
  exact ⟨rfl, (Upd.refl _ _).drewN _⟩

end Go.Proofs.Ytldladoccjlojaa
