/-
  What a move does: the contract of Move.do. Conditions: none.
-/
import Derived.Test.YtphpimbhhmkdkaaClnWorks
namespace Go.Proofs.Ytphpimbhhmkdkaa
open Go.RowKit Go.Maps

/-- A move's effect on an id, by its number modulo 5. -/
def doS (f : Nat → Nat) (k : Int) (i : Nat) : Nat → Nat :=
  if k = 0 ∨ k = 1 then (if f i = 0 then upd f i 1 else f)
  else if k = 2 then (if f i = 1 then upd f i 2 else f)
  else if k = 3 then (if f i = 1 then upd f i 3 else f)
  else (if f i = 2 ∨ f i = 3 then upd f i 0 else f)
/-- Whether a cleaner has ended by it. -/
def doB (f : Nat → Nat) (k : Int) (i : Nat) : Bool := decide ((k = 2 ∨ k = 3) ∧ f i = 1)
def DoPost (b m : Nat) (f : Nat → Nat) (k : Int) (i : Nat) (w : World) (e : Ending) (w' : World) : Prop :=
  e = .returned (.tuple #[.bool (doB f k i), .bool true]) ∧ ClAt w' b m (doS f k i) ∧ Upd [m] w w'

set_option maxHeartbeats 1000000 in
theorem do_at (b m : Nat) (f : Nat → Nat) (d x : Int) (w : World) (h : ClAt w b m f) (hd0 : 0 ≤ d) (hd1 : d < 256) (hx0 : 0 ≤ x) (hx1 : x < 256) :
    Calls Try.prog 11 #[.agg #[.int .u8 d, .int .u8 x], .pointer (some ⟨b, 0, none⟩)] w (DoPost b m f (d % 5) (x % 16).toNat w) := by
  obtain ⟨i, hi⟩ : ∃ i : Nat, x % 16 = i := ⟨(x % 16).toNat, by omega⟩
  have hi16 : i < 16 := by omega
  rw [hi, Int.toNat_natCast]
  have hsm := h.small i (by omega)
  have ua : Upd [m] w (w.alloc (Obj.cells #[.int .u8 d, .int .u8 x] 27)) := (Upd.refl [m] w).alloc _
  have h1 := h.upd ((Upd.refl [] w).alloc (Obj.cells #[.int .u8 d, .int .u8 x] 27)) (by simp) (by simp)
  have H := Lib.hid h1; clear h1 h
  have UA := Lib.hid ua; clear ua
  have hk : d % 5 = 0 ∨ d % 5 = 1 ∨ d % 5 = 2 ∨ d % 5 = 3 ∨ d % 5 = 4 := by omega
  rcases hk with hk | hk | hk | hk | hk
  · rw [hk]
    by_cases hf : f i = 0
    · unfold DoPost
      have eB : doB f 0 i = false := by simp [doB, hf]
      rw [eB]
      have eS : doS f 0 i = upd f i 1 := by simp [doS, hf]
      rw [eS]
      have HF := Lib.hid hf; clear hf eB eS
      go_enter Try.func11, Try.ntmps11
      go_wp2_with (go_at_call 16; refine (arm_new b m f i _ H.out (by omega) HF.out).mono ?_; rintro e w' ⟨rfl, a, u⟩)
      go_ret2
      exact ⟨rfl, a, UA.out.trans u⟩
    · unfold DoPost
      have eB : doB f 0 i = false := by simp [doB]
      rw [eB]
      have eS : doS f 0 i = f := by simp [doS, hf]
      rw [eS]
      have HF := Lib.hid hf; clear hf eB eS
      go_enter Try.func11, Try.ntmps11
      go_wp2_with (go_at_call 16; refine (arm_have b m f i _ H.out (by omega) HF.out).mono ?_; rintro e w' ⟨rfl, rfl⟩)
      go_ret2
      exact ⟨rfl, H.out, UA.out⟩
  · rw [hk]
    by_cases hf : f i = 0
    · unfold DoPost
      have eB : doB f 1 i = false := by simp [doB, hf]
      rw [eB]
      have eS : doS f 1 i = upd f i 1 := by simp [doS, hf]
      rw [eS]
      have HF := Lib.hid hf; clear hf eB eS
      go_enter Try.func11, Try.ntmps11
      go_wp2_with (go_at_call 16; refine (arm_new b m f i _ H.out (by omega) HF.out).mono ?_; rintro e w' ⟨rfl, a, u⟩)
      go_ret2
      exact ⟨rfl, a, UA.out.trans u⟩
    · unfold DoPost
      have eB : doB f 1 i = false := by simp [doB]
      rw [eB]
      have eS : doS f 1 i = f := by simp [doS, hf]
      rw [eS]
      have HF := Lib.hid hf; clear hf eB eS
      go_enter Try.func11, Try.ntmps11
      go_wp2_with (go_at_call 16; refine (arm_have b m f i _ H.out (by omega) HF.out).mono ?_; rintro e w' ⟨rfl, rfl⟩)
      go_ret2
      exact ⟨rfl, H.out, UA.out⟩
  · rw [hk]
    by_cases hf : f i = 1
    · unfold DoPost
      have eB : doB f 2 i = true := by simp [doB, hf]
      rw [eB]
      have eS : doS f 2 i = upd f i 2 := by simp [doS, hf]
      rw [eS]
      have HF := Lib.hid hf; clear hf eB eS
      go_enter Try.func11, Try.ntmps11
      go_wp2_with (go_at_call 18; refine (fire_armed b m f i _ H.out (by omega) HF.out).mono ?_; rintro e w' ⟨rfl, a, u⟩)
      go_ret2
      exact ⟨rfl, a, UA.out.trans u⟩
    · unfold DoPost
      by_cases hz : f i = 0
      · have hE : findE f i = 5 := by rw [findE, if_pos hz]
        have HE := Lib.hid hE; clear hE hz
        have eB : doB f 2 i = false := by simp [doB, hf]
        rw [eB]
        have eS : doS f 2 i = f := by simp [doS, hf]
        rw [eS]
        have HF := Lib.hid hf; clear hf eB eS
        go_enter Try.func11, Try.ntmps11
        go_wp2_with (go_at_call 18; refine (fire_not b m f i _ H.out (by omega) HF.out).mono ?_; rw [HE.out]; rintro e w' ⟨rfl, rfl⟩)
        go_ret2
        exact ⟨rfl, H.out, UA.out⟩
      · have hE : findE f i = 0 := by rw [findE, if_neg hz]
        have HE := Lib.hid hE; clear hE hz
        have eB : doB f 2 i = false := by simp [doB, hf]
        rw [eB]
        have eS : doS f 2 i = f := by simp [doS, hf]
        rw [eS]
        have HF := Lib.hid hf; clear hf eB eS
        go_enter Try.func11, Try.ntmps11
        go_wp2_with (go_at_call 18; refine (fire_not b m f i _ H.out (by omega) HF.out).mono ?_; rw [HE.out]; rintro e w' ⟨rfl, rfl⟩)
        go_ret2
        exact ⟨rfl, H.out, UA.out⟩
  · rw [hk]
    by_cases hf : f i = 1
    · unfold DoPost
      have eB : doB f 3 i = true := by simp [doB, hf]
      rw [eB]
      have eS : doS f 3 i = upd f i 3 := by simp [doS, hf]
      rw [eS]
      have HF := Lib.hid hf; clear hf eB eS
      go_enter Try.func11, Try.ntmps11
      go_wp2_with (go_at_call 19; refine (cancel_armed b m f i _ H.out (by omega) HF.out).mono ?_; rintro e w' ⟨rfl, a, u⟩)
      go_ret2
      exact ⟨rfl, a, UA.out.trans u⟩
    · unfold DoPost
      by_cases hz : f i = 0
      · have hE : findE f i = 5 := by rw [findE, if_pos hz]
        have HE := Lib.hid hE; clear hE hz
        have eB : doB f 3 i = false := by simp [doB, hf]
        rw [eB]
        have eS : doS f 3 i = f := by simp [doS, hf]
        rw [eS]
        have HF := Lib.hid hf; clear hf eB eS
        go_enter Try.func11, Try.ntmps11
        go_wp2_with (go_at_call 19; refine (cancel_not b m f i _ H.out (by omega) HF.out).mono ?_; rw [HE.out]; rintro e w' ⟨rfl, rfl⟩)
        go_ret2
        exact ⟨rfl, H.out, UA.out⟩
      · have hE : findE f i = 0 := by rw [findE, if_neg hz]
        have HE := Lib.hid hE; clear hE hz
        have eB : doB f 3 i = false := by simp [doB, hf]
        rw [eB]
        have eS : doS f 3 i = f := by simp [doS, hf]
        rw [eS]
        have HF := Lib.hid hf; clear hf eB eS
        go_enter Try.func11, Try.ntmps11
        go_wp2_with (go_at_call 19; refine (cancel_not b m f i _ H.out (by omega) HF.out).mono ?_; rw [HE.out]; rintro e w' ⟨rfl, rfl⟩)
        go_ret2
        exact ⟨rfl, H.out, UA.out⟩
  · rw [hk]
    unfold DoPost
    have h4 : f i = 0 ∨ f i = 1 ∨ f i = 2 ∨ f i = 3 := by omega
    rcases h4 with hf | hf | hf | hf
    · have eB : doB f 4 i = false := by simp [doB, hf]
      rw [eB]
      have eS : doS f 4 i = f := by simp [doS, hf]
      rw [eS]
      have HF := Lib.hid hf; clear hf eB eS
      go_enter Try.func11, Try.ntmps11
      go_wp2_with (go_at_call 17; refine (forget_none b m f i _ H.out (by omega) HF.out).mono ?_; rintro e w' ⟨rfl, rfl⟩)
      go_ret2
      exact ⟨rfl, H.out, UA.out⟩
    · have eB : doB f 4 i = false := by simp [doB, hf]
      rw [eB]
      have eS : doS f 4 i = f := by simp [doS, hf]
      rw [eS]
      have HF := Lib.hid hf; clear hf eB eS
      go_enter Try.func11, Try.ntmps11
      go_wp2_with (go_at_call 17; refine (forget_armed b m f i _ H.out (by omega) HF.out).mono ?_; rintro e w' ⟨rfl, rfl⟩)
      go_ret2
      exact ⟨rfl, H.out, UA.out⟩
    · have eB : doB f 4 i = false := by simp [doB, hf]
      rw [eB]
      have eS : doS f 4 i = upd f i 0 := by simp [doS, hf]
      rw [eS]
      have HF := Lib.hid hf; clear hf eB eS
      go_enter Try.func11, Try.ntmps11
      go_wp2_with (go_at_call 17; refine (forget_done b m f i _ H.out (by omega) (by rw [HF.out]; omega) (by rw [HF.out]; omega)).mono ?_; rintro e w' ⟨rfl, a, u⟩)
      go_ret2
      exact ⟨rfl, a, UA.out.trans u⟩
    · have eB : doB f 4 i = false := by simp [doB, hf]
      rw [eB]
      have eS : doS f 4 i = upd f i 0 := by simp [doS, hf]
      rw [eS]
      have HF := Lib.hid hf; clear hf eB eS
      go_enter Try.func11, Try.ntmps11
      go_wp2_with (go_at_call 17; refine (forget_done b m f i _ H.out (by omega) (by rw [HF.out]; omega) (by rw [HF.out]; omega)).mono ?_; rintro e w' ⟨rfl, a, u⟩)
      go_ret2
      exact ⟨rfl, a, UA.out.trans u⟩

end Go.Proofs.Ytphpimbhhmkdkaa
