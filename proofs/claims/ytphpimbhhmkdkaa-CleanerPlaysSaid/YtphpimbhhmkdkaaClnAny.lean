/-
  Each call at any id: what both tables do. Conditions: none.
-/
import Derived.Test.YtphpimbhhmkdkaaClnShow
namespace Go.Proofs.Ytphpimbhhmkdkaa
open Go.RowKit Go.Maps

def armE (f : Nat → Nat) (id : Int) : Int := if 0 ≤ id ∧ id < 256 then (if f id.toNat = 0 then 0 else 6) else 3
def armS (f : Nat → Nat) (id : Int) : Nat → Nat := if (0 ≤ id ∧ id < 256) ∧ f id.toNat = 0 then upd f id.toNat 1 else f
def endB (f : Nat → Nat) (id : Int) : Bool := decide ((0 ≤ id ∧ id < 256) ∧ f id.toNat = 1)
def endS (f : Nat → Nat) (id : Int) (s : Nat) : Nat → Nat := if (0 ≤ id ∧ id < 256) ∧ f id.toNat = 1 then upd f id.toNat s else f
def forE (f : Nat → Nat) (id : Int) : Int := if 0 ≤ id ∧ id < 256 then (if f id.toNat = 0 then 5 else if f id.toNat = 1 then 8 else 0) else 3
def forS (f : Nat → Nat) (id : Int) : Nat → Nat := if (0 ≤ id ∧ id < 256) ∧ f id.toNat ≠ 0 ∧ f id.toNat ≠ 1 then upd f id.toNat 0 else f

theorem arm_any (b m : Nat) (f : Nat → Nat) (id : Int) (w : World) (h : ClAt w b m f) :
    Calls Try.prog 16 #[.pointer (some ⟨b, 0, none⟩), .int .i64 id] w fun e w' => e = .returned (.int .i64 (armE f id)) ∧ ClAt w' b m (armS f id) ∧ Upd [m] w w' := by
  by_cases hi : 0 ≤ id ∧ id < 256
  · obtain ⟨i, rfl⟩ : ∃ i : Nat, id = i := ⟨id.toNat, by omega⟩
    have hi' : i < 256 := by omega
    have hI : (i : Int) < 256 := by omega
    have hJ : ¬ 256 ≤ (i : Int) := by omega
    by_cases hz : f i = 0
    · skip
      refine (arm_new b m f i w h hi' hz).mono ?_
      rintro e w' ⟨he, ha, hu⟩
      have eS : (armS f (i : Int)) = upd f i 1 := by simp [armS, hI, hz]
      rw [eS]
      exact ⟨by rw [he]; simp [armE, hI, hz], ha, hu⟩
    · skip
      refine (arm_have b m f i w h hi' hz).mono ?_
      rintro e w' ⟨he, rfl⟩
      have eS : (armS f (i : Int)) = f := by simp [armS, hI, hz]
      rw [eS]
      exact ⟨by rw [he]; simp [armE, hI, hz], h, Upd.refl _ _⟩
  · refine (arm_beyond b m f id w h (by omega)).mono ?_
    rintro e w' ⟨he, rfl⟩
    have eS : (armS f id) = f := by simp [armS, hi]
    rw [eS]
    exact ⟨by rw [he]; simp [armE, hi], h, Upd.refl _ _⟩
theorem rarm_any (r : Nat) (f : Nat → Nat) (id : Int) (w : World) (h : RAt w r f) :
    Calls Try.prog 21 #[.pointer (some ⟨r, 0, none⟩), .int .i64 id] w fun e w' => e = .returned (.int .i64 (armE f id)) ∧ RAt w' r (armS f id) ∧ Upd [r] w w' := by
  by_cases hi : 0 ≤ id ∧ id < 256
  · obtain ⟨i, rfl⟩ : ∃ i : Nat, id = i := ⟨id.toNat, by omega⟩
    have hi' : i < 256 := by omega
    have hI : (i : Int) < 256 := by omega
    have hJ : ¬ 256 ≤ (i : Int) := by omega
    by_cases hz : f i = 0
    · skip
      refine (rarm_new r f i w h hi' hz).mono ?_
      rintro e w' ⟨he, ha, hu⟩
      have eS : (armS f (i : Int)) = upd f i 1 := by simp [armS, hI, hz]
      rw [eS]
      exact ⟨by rw [he]; simp [armE, hI, hz], ha, hu⟩
    · skip
      refine (rarm_have r f i w h hi' hz).mono ?_
      rintro e w' ⟨he, rfl⟩
      have eS : (armS f (i : Int)) = f := by simp [armS, hI, hz]
      rw [eS]
      exact ⟨by rw [he]; simp [armE, hI, hz], h, Upd.refl _ _⟩
  · refine (rarm_beyond r id w (by omega)).mono ?_
    rintro e w' ⟨he, rfl⟩
    have eS : (armS f id) = f := by simp [armS, hi]
    rw [eS]
    exact ⟨by rw [he]; simp [armE, hi], h, Upd.refl _ _⟩
theorem fire_any (b m : Nat) (f : Nat → Nat) (id : Int) (w : World) (h : ClAt w b m f) :
    Calls Try.prog 18 #[.pointer (some ⟨b, 0, none⟩), .int .i64 id] w fun e w' => e = .returned (.tuple #[.bool (endB f id), .int .i64 (gE f id)]) ∧ ClAt w' b m (endS f id 2) ∧ Upd [m] w w' := by
  by_cases hi : 0 ≤ id ∧ id < 256
  · obtain ⟨i, rfl⟩ : ∃ i : Nat, id = i := ⟨id.toNat, by omega⟩
    have hi' : i < 256 := by omega
    have hI : (i : Int) < 256 := by omega
    have hJ : ¬ 256 ≤ (i : Int) := by omega
    by_cases hz : f i = 1
    · skip
      refine (fire_armed b m f i w h hi' hz).mono ?_
      rintro e w' ⟨he, ha, hu⟩
      have eS : (endS f (i : Int) 2) = upd f i 2 := by simp [endS, hI, hz]
      rw [eS]
      exact ⟨by rw [he]; simp [endB, gE, findE, hI, hz], ha, hu⟩
    · skip
      refine (fire_not b m f i w h hi' hz).mono ?_
      rintro e w' ⟨he, rfl⟩
      have eS : (endS f (i : Int) 2) = f := by simp [endS, hI, hz]
      rw [eS]
      exact ⟨by rw [he]; simp [endB, gE, hI, hz], h, Upd.refl _ _⟩
  · refine (fire_beyond b m f id w h (by omega)).mono ?_
    rintro e w' ⟨he, rfl⟩
    have eS : (endS f id 2) = f := by simp [endS, hi]
    rw [eS]
    exact ⟨by rw [he]; simp [endB, gE, hi], h, Upd.refl _ _⟩
theorem rfire_any (r : Nat) (f : Nat → Nat) (id : Int) (w : World) (h : RAt w r f) :
    Calls Try.prog 22 #[.pointer (some ⟨r, 0, none⟩), .int .i64 id] w fun e w' => e = .returned (.tuple #[.bool (endB f id), .int .i64 (gE f id)]) ∧ RAt w' r (endS f id 2) ∧ Upd [r] w w' := by
  by_cases hi : 0 ≤ id ∧ id < 256
  · obtain ⟨i, rfl⟩ : ∃ i : Nat, id = i := ⟨id.toNat, by omega⟩
    have hi' : i < 256 := by omega
    have hI : (i : Int) < 256 := by omega
    have hJ : ¬ 256 ≤ (i : Int) := by omega
    by_cases hz : f i = 1
    · skip
      refine (rfire_armed r f i w h hi' hz).mono ?_
      rintro e w' ⟨he, ha, hu⟩
      have eS : (endS f (i : Int) 2) = upd f i 2 := by simp [endS, hI, hz]
      rw [eS]
      exact ⟨by rw [he]; simp [endB, gE, findE, hI, hz], ha, hu⟩
    · skip
      refine (rfire_not r f i w h hi' hz).mono ?_
      rintro e w' ⟨he, rfl⟩
      have eS : (endS f (i : Int) 2) = f := by simp [endS, hI, hz]
      rw [eS]
      exact ⟨by rw [he]; simp [endB, gE, hI, hz], h, Upd.refl _ _⟩
  · refine (rfire_beyond r id w (by omega)).mono ?_
    rintro e w' ⟨he, rfl⟩
    have eS : (endS f id 2) = f := by simp [endS, hi]
    rw [eS]
    exact ⟨by rw [he]; simp [endB, gE, hi], h, Upd.refl _ _⟩
theorem cancel_any (b m : Nat) (f : Nat → Nat) (id : Int) (w : World) (h : ClAt w b m f) :
    Calls Try.prog 19 #[.pointer (some ⟨b, 0, none⟩), .int .i64 id] w fun e w' => e = .returned (.tuple #[.bool (endB f id), .int .i64 (gE f id)]) ∧ ClAt w' b m (endS f id 3) ∧ Upd [m] w w' := by
  by_cases hi : 0 ≤ id ∧ id < 256
  · obtain ⟨i, rfl⟩ : ∃ i : Nat, id = i := ⟨id.toNat, by omega⟩
    have hi' : i < 256 := by omega
    have hI : (i : Int) < 256 := by omega
    have hJ : ¬ 256 ≤ (i : Int) := by omega
    by_cases hz : f i = 1
    · skip
      refine (cancel_armed b m f i w h hi' hz).mono ?_
      rintro e w' ⟨he, ha, hu⟩
      have eS : (endS f (i : Int) 3) = upd f i 3 := by simp [endS, hI, hz]
      rw [eS]
      exact ⟨by rw [he]; simp [endB, gE, findE, hI, hz], ha, hu⟩
    · skip
      refine (cancel_not b m f i w h hi' hz).mono ?_
      rintro e w' ⟨he, rfl⟩
      have eS : (endS f (i : Int) 3) = f := by simp [endS, hI, hz]
      rw [eS]
      exact ⟨by rw [he]; simp [endB, gE, hI, hz], h, Upd.refl _ _⟩
  · refine (cancel_beyond b m f id w h (by omega)).mono ?_
    rintro e w' ⟨he, rfl⟩
    have eS : (endS f id 3) = f := by simp [endS, hi]
    rw [eS]
    exact ⟨by rw [he]; simp [endB, gE, hi], h, Upd.refl _ _⟩
theorem rcancel_any (r : Nat) (f : Nat → Nat) (id : Int) (w : World) (h : RAt w r f) :
    Calls Try.prog 23 #[.pointer (some ⟨r, 0, none⟩), .int .i64 id] w fun e w' => e = .returned (.tuple #[.bool (endB f id), .int .i64 (gE f id)]) ∧ RAt w' r (endS f id 3) ∧ Upd [r] w w' := by
  by_cases hi : 0 ≤ id ∧ id < 256
  · obtain ⟨i, rfl⟩ : ∃ i : Nat, id = i := ⟨id.toNat, by omega⟩
    have hi' : i < 256 := by omega
    have hI : (i : Int) < 256 := by omega
    have hJ : ¬ 256 ≤ (i : Int) := by omega
    by_cases hz : f i = 1
    · skip
      refine (rcancel_armed r f i w h hi' hz).mono ?_
      rintro e w' ⟨he, ha, hu⟩
      have eS : (endS f (i : Int) 3) = upd f i 3 := by simp [endS, hI, hz]
      rw [eS]
      exact ⟨by rw [he]; simp [endB, gE, findE, hI, hz], ha, hu⟩
    · skip
      refine (rcancel_not r f i w h hi' hz).mono ?_
      rintro e w' ⟨he, rfl⟩
      have eS : (endS f (i : Int) 3) = f := by simp [endS, hI, hz]
      rw [eS]
      exact ⟨by rw [he]; simp [endB, gE, hI, hz], h, Upd.refl _ _⟩
  · refine (rcancel_beyond r id w (by omega)).mono ?_
    rintro e w' ⟨he, rfl⟩
    have eS : (endS f id 3) = f := by simp [endS, hi]
    rw [eS]
    exact ⟨by rw [he]; simp [endB, gE, hi], h, Upd.refl _ _⟩
theorem forget_any (b m : Nat) (f : Nat → Nat) (id : Int) (w : World) (h : ClAt w b m f) :
    Calls Try.prog 17 #[.pointer (some ⟨b, 0, none⟩), .int .i64 id] w fun e w' => e = .returned (.int .i64 (forE f id)) ∧ ClAt w' b m (forS f id) ∧ Upd [m] w w' := by
  by_cases hi : 0 ≤ id ∧ id < 256
  · obtain ⟨i, rfl⟩ : ∃ i : Nat, id = i := ⟨id.toNat, by omega⟩
    have hi' : i < 256 := by omega
    have hI : (i : Int) < 256 := by omega
    have hJ : ¬ 256 ≤ (i : Int) := by omega
    by_cases hz : f i = 0
    · skip
      refine (forget_none b m f i w h hi' hz).mono ?_
      rintro e w' ⟨he, rfl⟩
      have eS : (forS f (i : Int)) = f := by simp [forS, hI, hz]
      rw [eS]
      exact ⟨by rw [he]; simp [forE, hI, hz], h, Upd.refl _ _⟩
    · by_cases h1 : f i = 1
      · skip
        refine (forget_armed b m f i w h hi' h1).mono ?_
        rintro e w' ⟨he, rfl⟩
        have eS : (forS f (i : Int)) = f := by simp [forS, hI, h1]
        rw [eS]
        exact ⟨by rw [he]; simp [forE, hI, h1], h, Upd.refl _ _⟩
      · skip
        refine (forget_done b m f i w h hi' hz h1).mono ?_
        rintro e w' ⟨he, ha, hu⟩
        have eS : (forS f (i : Int)) = upd f i 0 := by simp [forS, hI, hz, h1]
        rw [eS]
        exact ⟨by rw [he]; simp [forE, hI, hz, h1], ha, hu⟩
  · refine (forget_beyond b m f id w h (by omega)).mono ?_
    rintro e w' ⟨he, rfl⟩
    have eS : (forS f id) = f := by simp [forS, hi]
    rw [eS]
    exact ⟨by rw [he]; simp [forE, hi], h, Upd.refl _ _⟩
theorem rforget_any (r : Nat) (f : Nat → Nat) (id : Int) (w : World) (h : RAt w r f) :
    Calls Try.prog 24 #[.pointer (some ⟨r, 0, none⟩), .int .i64 id] w fun e w' => e = .returned (.int .i64 (forE f id)) ∧ RAt w' r (forS f id) ∧ Upd [r] w w' := by
  by_cases hi : 0 ≤ id ∧ id < 256
  · obtain ⟨i, rfl⟩ : ∃ i : Nat, id = i := ⟨id.toNat, by omega⟩
    have hi' : i < 256 := by omega
    have hI : (i : Int) < 256 := by omega
    have hJ : ¬ 256 ≤ (i : Int) := by omega
    by_cases hz : f i = 0
    · skip
      refine (rforget_none r f i w h hi' hz).mono ?_
      rintro e w' ⟨he, rfl⟩
      have eS : (forS f (i : Int)) = f := by simp [forS, hI, hz]
      rw [eS]
      exact ⟨by rw [he]; simp [forE, hI, hz], h, Upd.refl _ _⟩
    · by_cases h1 : f i = 1
      · skip
        refine (rforget_armed r f i w h hi' h1).mono ?_
        rintro e w' ⟨he, rfl⟩
        have eS : (forS f (i : Int)) = f := by simp [forS, hI, h1]
        rw [eS]
        exact ⟨by rw [he]; simp [forE, hI, h1], h, Upd.refl _ _⟩
      · skip
        refine (rforget_done r f i w h hi' hz h1).mono ?_
        rintro e w' ⟨he, ha, hu⟩
        have eS : (forS f (i : Int)) = upd f i 0 := by simp [forS, hI, hz, h1]
        rw [eS]
        exact ⟨by rw [he]; simp [forE, hI, hz, h1], ha, hu⟩
  · refine (rforget_beyond r id w (by omega)).mono ?_
    rintro e w' ⟨he, rfl⟩
    have eS : (forS f id) = f := by simp [forS, hi]
    rw [eS]
    exact ⟨by rw [he]; simp [forE, hi], h, Upd.refl _ _⟩

end Go.Proofs.Ytphpimbhhmkdkaa
