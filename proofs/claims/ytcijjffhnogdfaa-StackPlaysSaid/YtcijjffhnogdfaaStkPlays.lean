/-
  The law StackPlays: after every step of a script the stack shows what the document's shows. Conditions: none.
-/
import Derived.Test.YtcijjffhnogdfaaStkRef
import Derived.Test.YtcijjffhnogdfaaStkNil
import Derived.Test.YtcijjffhnogdfaaArgs
namespace Go.Proofs.Ytcijjffhnogdfaa
open Go.RowKit

/-- The cells of a step. -/
def IsStep (cs : List Value) : Prop := ∃ d s : Int, cs = [.int .i64 d, .int .i64 s] ∧ (Lit.int .i64 d).wf = true ∧ (Lit.int .i64 s).wf = true

theorem steps_of {H : Type} {enc : TypeId × Value → H} {w : World} {v : Value} {d : DataW H} {p : List MemPlace}
    (hval : Value.okWide Try.prog w .any 0 39 v) (h : DataW.Trod enc Try.prog w 0 (fun _ => true) true 39 v d p) : ∃ css, Recs w v 2 css ∧ ∀ cs ∈ css, IsStep cs := by
  refine recs_of Try.underlying39 2 (by kernel_rfl) (by decide) IsStep (fun n cs y hl ht => ?_) hval h
  match cs, hl with
  | [c0, c1], _ =>
    obtain ⟨_, _, h0⟩ := field_of (c := 1) Try.underlying44 ht 0 _ rfl rfl rfl (by kernel_rfl)
    obtain ⟨_, _, h1⟩ := field_of (c := 1) Try.underlying44 ht 1 _ rfl rfl rfl (by kernel_rfl)
    obtain ⟨x, rfl, wx⟩ := int_cell Try.underlying3 h0
    obtain ⟨z, rfl, wz⟩ := int_cell Try.underlying3 h1
    exact ⟨x, z, rfl, wx, wz⟩

/-- The nil pointer is no stack of the document's either. -/
theorem rvalid_nil (w : World) : Calls Try.prog 32 #[.pointer none] w fun e w' => e = .returned (.bool false) ∧ w = w' := by
  go_enter Try.func32, Try.ntmps32
  go_wp2
  go_ret
  exact ⟨rfl, rfl⟩
theorem rpush_nil (slot : Int) (w : World) : Calls Try.prog 22 #[.pointer none, .int .i64 slot] w fun e w' => e = .returned (.tuple #[.bool false, .int .i64 1]) ∧ w = w' := by
  go_enter Try.func22, Try.ntmps22
  go_wp2_with (go_at_call 32; refine (rvalid_nil _).mono ?_; rintro e w' ⟨rfl, rfl⟩)
  go_ret2
  exact ⟨rfl, rfl⟩
theorem rpop_nil (w : World) : Calls Try.prog 23 #[.pointer none] w fun e w' => e = .returned (.tuple #[.int .i64 0, .bool false]) ∧ w = w' := by
  go_enter Try.func23, Try.ntmps23
  go_wp2_with (go_at_call 32; refine (rvalid_nil _).mono ?_; rintro e w' ⟨rfl, rfl⟩)
  go_ret2
  exact ⟨rfl, rfl⟩
theorem rover_nil (w : World) : Calls Try.prog 28 #[.pointer none] w fun e w' => e = .returned (.bool false) ∧ w = w' := by
  go_enter Try.func28, Try.ntmps28
  go_wp2_with (go_at_call 32; refine (rvalid_nil _).mono ?_; rintro e w' ⟨rfl, rfl⟩)
  go_ret
  exact ⟨rfl, rfl⟩
theorem rlen_nil (w : World) : Calls Try.prog 29 #[.pointer none] w fun e w' => e = .returned (.int .i64 0) ∧ w = w' := by
  go_enter Try.func29, Try.ntmps29
  go_wp2_with (go_at_call 32; refine (rvalid_nil _).mono ?_; rintro e w' ⟨rfl, rfl⟩)
  go_ret
  exact ⟨rfl, rfl⟩
theorem rmost_nil (w : World) : Calls Try.prog 30 #[.pointer none] w fun e w' => e = .returned (.int .i64 0) ∧ w = w' := by
  go_enter Try.func30, Try.ntmps30
  go_wp2_with (go_at_call 32; refine (rvalid_nil _).mono ?_; rintro e w' ⟨rfl, rfl⟩)
  go_ret
  exact ⟨rfl, rfl⟩
theorem rsettle_nil (w : World) : Calls Try.prog 24 #[.pointer none] w fun e w' => e = .returned (.tuple #[]) ∧ w = w' := by
  go_enter Try.func24, Try.ntmps24
  go_wp2_with (go_at_call 32; refine (rvalid_nil _).mono ?_; rintro e w' ⟨rfl, rfl⟩)
  go_end0
  exact ⟨rfl, rfl⟩
theorem rclear_nil (w : World) : Calls Try.prog 25 #[.pointer none] w fun e w' => e = .returned (.tuple #[]) ∧ w = w' := by
  go_enter Try.func25, Try.ntmps25
  go_wp2_with (go_at_call 32; refine (rvalid_nil _).mono ?_; rintro e w' ⟨rfl, rfl⟩)
  go_end0
  exact ⟨rfl, rfl⟩
theorem rcopy_nil (w : World) : Calls Try.prog 27 #[.pointer none] w fun e w' => e = .returned (.pointer none) ∧ w = w' := by
  go_enter Try.func27, Try.ntmps27
  go_wp2_with (go_at_call 32; refine (rvalid_nil _).mono ?_; rintro e w' ⟨rfl, rfl⟩)
  go_ret
  exact ⟨rfl, rfl⟩

/-- What both stacks do at a push. -/
def pushB (s : St) (x : Int) : Bool := decide (0 ≤ x ∧ x < 256 ∧ s.l.length < s.size)
def pushE (x : Int) : Int := if 0 ≤ x ∧ x < 256 then 0 else 3
def pushS (s : St) (x : Int) : St :=
  if 0 ≤ x ∧ x < 256 then (if s.l.length < s.size then { s with l := s.l ++ [x], most := max s.most (s.l.length + 1) } else { s with over := true }) else s
def popX (s : St) : Int := s.l.getLast?.getD 0
def popB (s : St) : Bool := !s.l.isEmpty
def popS (s : St) : St := { s with l := s.l.dropLast }
def StPost (b : Nat) (v : Value) (s : St) (w : World) (e : Ending) (w' : World) : Prop := e = .returned v ∧ StAt w' b s ∧ Upd [b] w w'
def RtPost (b : Nat) (v : Value) (s : St) (w : World) (e : Ending) (w' : World) : Prop := e = .returned v ∧ RtAt w' b s ∧ Upd [b] w w'

theorem push_any (b : Nat) (s : St) (x : Int) (w : World) (h : StAt w b s) :
    Calls Try.prog 17 #[.pointer (some ⟨b, 0, none⟩), .int .i64 x] w (StPost b (.tuple #[.bool (pushB s x), .int .i64 (pushE x)]) (pushS s x) w) := by
  by_cases hx : 0 ≤ x ∧ x < 256
  · by_cases hl : s.l.length < s.size
    · refine (push_room b s x w h hx.1 hx.2 hl).mono ?_
      rintro e w' ⟨rfl, a, u⟩
      refine ⟨by simp [pushB, pushE, hx, hl], ?_, u⟩
      simpa [pushS, hx, hl] using a
    · refine (push_full b s x w h hx.1 hx.2 (by have h := h.1; simp only [St.ok] at h; omega)).mono ?_
      rintro e w' ⟨rfl, a, u⟩
      refine ⟨by simp [pushB, pushE, hx, hl], ?_, u⟩
      simpa [pushS, hx, hl] using a
  · refine (push_beyond b s x w h (by omega)).mono ?_
    rintro e w' ⟨rfl, rfl⟩
    have hB : pushB s x = false := by simp only [pushB, decide_eq_false_iff_not]; omega
    refine ⟨by rw [hB, pushE, if_neg hx], ?_, Upd.refl _ _⟩
    rw [pushS, if_neg hx]; exact h
theorem rpush_any (b : Nat) (s : St) (x : Int) (w : World) (h : RtAt w b s) :
    Calls Try.prog 22 #[.pointer (some ⟨b, 0, none⟩), .int .i64 x] w (RtPost b (.tuple #[.bool (pushB s x), .int .i64 (pushE x)]) (pushS s x) w) := by
  by_cases hx : 0 ≤ x ∧ x < 256
  · by_cases hl : s.l.length < s.size
    · refine (rpush_room b s x w h hx.1 hx.2 hl).mono ?_
      rintro e w' ⟨rfl, a, u⟩
      refine ⟨by simp [pushB, pushE, hx, hl], ?_, u⟩
      simpa [pushS, hx, hl] using a
    · refine (rpush_full b s x w h hx.1 hx.2 (by have h := h.1; simp only [St.ok] at h; omega)).mono ?_
      rintro e w' ⟨rfl, a, u⟩
      refine ⟨by simp [pushB, pushE, hx, hl], ?_, u⟩
      simpa [pushS, hx, hl] using a
  · refine (rpush_beyond b s x w h (by omega)).mono ?_
    rintro e w' ⟨rfl, rfl⟩
    have hB : pushB s x = false := by simp only [pushB, decide_eq_false_iff_not]; omega
    refine ⟨by rw [hB, pushE, if_neg hx], ?_, Upd.refl _ _⟩
    rw [pushS, if_neg hx]; exact h
theorem pop_any (b : Nat) (s : St) (w : World) (h : StAt w b s) :
    Calls Try.prog 15 #[.pointer (some ⟨b, 0, none⟩)] w (StPost b (.tuple #[.int .i64 (popX s), .bool (popB s)]) (popS s) w) := by
  rcases List.eq_nil_or_concat s.l with hl | ⟨l, x, hl⟩
  · refine (pop_empty b s w h hl).mono ?_
    rintro e w' ⟨rfl, rfl⟩
    refine ⟨by simp [popX, popB, hl], ?_, Upd.refl _ _⟩
    have : popS s = s := by simp only [popS, hl]; rw [show ([] : List Int).dropLast = s.l from hl.symm]
    rw [this]; exact h
  · rw [List.concat_eq_append] at hl
    refine (pop_some b s l x w h hl).mono ?_
    rintro e w' ⟨rfl, a, u⟩
    refine ⟨by simp [popX, popB, hl], ?_, u⟩
    simpa [popS, hl] using a
theorem rpop_any (b : Nat) (s : St) (w : World) (h : RtAt w b s) :
    Calls Try.prog 23 #[.pointer (some ⟨b, 0, none⟩)] w (RtPost b (.tuple #[.int .i64 (popX s), .bool (popB s)]) (popS s) w) := by
  rcases List.eq_nil_or_concat s.l with hl | ⟨l, x, hl⟩
  · refine (rpop_empty b s w h hl).mono ?_
    rintro e w' ⟨rfl, rfl⟩
    refine ⟨by simp [popX, popB, hl], ?_, Upd.refl _ _⟩
    have : popS s = s := by simp only [popS, hl]; rw [show ([] : List Int).dropLast = s.l from hl.symm]
    rw [this]; exact h
  · rw [List.concat_eq_append] at hl
    refine (rpop_some b s l x w h hl).mono ?_
    rintro e w' ⟨rfl, a, u⟩
    refine ⟨by simp [popX, popB, hl], ?_, u⟩
    simpa [popS, hl] using a

set_option maxRecDepth 100000 in
set_option maxHeartbeats 4000000 in
theorem plays_nil (size : Int) (hs : size < 1 ∨ 64 < size) (v : Value) (css : List (List Value)) (w : World) (hv : Recs w v 2 css) (hF : ∀ cs ∈ css, IsStep cs) (hlong : css.length ≤ 200) :
    Calls Try.prog 8 #[.int .i64 size, v] w fun e w' => e = .returned (.bool true) ∧ Upd [] w w' := by
  have HV := Lib.hid hv
  obtain ⟨a, cap, rfl, hcc, hcm, _⟩ := hv
  have hm : cap ≤ 9223372036854775807 := by unfold maxLen at hcm; omega
  have HS := Lib.hid hs; clear hs
  have HF := Lib.hid hF; clear hF
  have hm : ∀ w, NoSt w (.pointer none) := fun w => .inl rfl
  have HM0 := Lib.hid hm; clear hm
  have hlg : decide (200 < (css.length : Int)) = false := by simp; omega
  go_enter Try.func8, Try.ntmps8
  go_wp2_with (first | (go_at_call 18; refine (new_err _ _ HS.out).mono ?_; rintro e w2 ⟨rfl, rfl⟩) | (go_at_call 21; refine (rnew_err _ _ HS.out).mono ?_; rintro e w2 ⟨rfl, rfl⟩))
  go_loopw [5, 7, 9] (fun s r i wr => ∃ k : Nat, k ≤ css.length ∧ i = .int .i64 k ∧ s = .pointer none ∧ r = .pointer none ∧ Upd [] w wr) (fun _ _ i _ => css.length - (intOf i).toNat)
  case atStart => exact ⟨0, by omega, rfl, rfl, rfl, Upd.refl _ _⟩
  case round =>
    obtain ⟨k, hk, rfl, rfl, rfl, hup⟩ := hrel
    by_cases hlt : k < css.length
    · have HM := Lib.hid (HM0.out wr)
      obtain ⟨ab, off, rfl, hab, hcl, hat⟩ := (HV.out.upd hup (by simp)).at hlt
      obtain ⟨d, x, hcs, hwd, hwx⟩ := HF.out _ (List.getElem_mem hlt)
      have hc0 : wr.cell? ⟨ab, off + k * 2, none⟩ = some (.int .i64 d) := hat 0 _ (by rw [hcs]; rfl)
      have hc1 : wr.cell? ⟨ab, off + k * 2 + 1, none⟩ = some (.int .i64 x) := hat 1 _ (by rw [hcs]; rfl)
      clear hcl hat hcs hwd hwx hab
      by_cases hd0 : d = 0
      · subst hd0
        go_wp2_with (first | (go_at_call 17; refine (push_no _ _ _ HM.out).mono ?_; rintro e w2 ⟨rfl, rfl⟩) | (go_at_call 22; refine (rpush_nil _ _).mono ?_; rintro e w2 ⟨rfl, rfl⟩) | (go_at_call 15; refine (pop_no _ _ HM.out).mono ?_; rintro e w2 ⟨rfl, rfl⟩) | (go_at_call 23; refine (rpop_nil _).mono ?_; rintro e w2 ⟨rfl, rfl⟩) | (go_at_call 19; refine (settle_no _ _ HM.out).mono ?_; rintro e w2 ⟨rfl, rfl⟩) | (go_at_call 24; refine (rsettle_nil _).mono ?_; rintro e w2 ⟨rfl, rfl⟩) | (go_at_call 20; refine (clear_no _ _ HM.out).mono ?_; rintro e w2 ⟨rfl, rfl⟩) | (go_at_call 25; refine (rclear_nil _).mono ?_; rintro e w2 ⟨rfl, rfl⟩) | (go_at_call 13; refine (over_no _ _ HM.out).mono ?_; rintro e w2 ⟨rfl, rfl⟩) | (go_at_call 28; refine (rover_nil _).mono ?_; rintro e w2 ⟨rfl, rfl⟩) | (go_at_call 14; refine (len_no _ _ HM.out).mono ?_; rintro e w2 ⟨rfl, rfl⟩) | (go_at_call 29; refine (rlen_nil _).mono ?_; rintro e w2 ⟨rfl, rfl⟩) | (go_at_call 16; refine (most_no _ _ HM.out).mono ?_; rintro e w2 ⟨rfl, rfl⟩) | (go_at_call 30; refine (rmost_nil _).mono ?_; rintro e w2 ⟨rfl, rfl⟩) | (go_at_call 26; refine (copy_no _ _ HM.out).mono ?_; rintro e w2 ⟨rfl, rfl⟩) | (go_at_call 27; refine (rcopy_nil _).mono ?_; rintro e w2 ⟨rfl, rfl⟩))
        go_roundw
        case rel => exact ⟨k + 1, by omega, by go_num, rfl, rfl, hup⟩
        case measure => simp [intOf]; omega
      by_cases hd1 : d = 1
      · subst hd1
        clear hd0
        go_wp2_with (first | (go_at_call 17; refine (push_no _ _ _ HM.out).mono ?_; rintro e w2 ⟨rfl, rfl⟩) | (go_at_call 22; refine (rpush_nil _ _).mono ?_; rintro e w2 ⟨rfl, rfl⟩) | (go_at_call 15; refine (pop_no _ _ HM.out).mono ?_; rintro e w2 ⟨rfl, rfl⟩) | (go_at_call 23; refine (rpop_nil _).mono ?_; rintro e w2 ⟨rfl, rfl⟩) | (go_at_call 19; refine (settle_no _ _ HM.out).mono ?_; rintro e w2 ⟨rfl, rfl⟩) | (go_at_call 24; refine (rsettle_nil _).mono ?_; rintro e w2 ⟨rfl, rfl⟩) | (go_at_call 20; refine (clear_no _ _ HM.out).mono ?_; rintro e w2 ⟨rfl, rfl⟩) | (go_at_call 25; refine (rclear_nil _).mono ?_; rintro e w2 ⟨rfl, rfl⟩) | (go_at_call 13; refine (over_no _ _ HM.out).mono ?_; rintro e w2 ⟨rfl, rfl⟩) | (go_at_call 28; refine (rover_nil _).mono ?_; rintro e w2 ⟨rfl, rfl⟩) | (go_at_call 14; refine (len_no _ _ HM.out).mono ?_; rintro e w2 ⟨rfl, rfl⟩) | (go_at_call 29; refine (rlen_nil _).mono ?_; rintro e w2 ⟨rfl, rfl⟩) | (go_at_call 16; refine (most_no _ _ HM.out).mono ?_; rintro e w2 ⟨rfl, rfl⟩) | (go_at_call 30; refine (rmost_nil _).mono ?_; rintro e w2 ⟨rfl, rfl⟩) | (go_at_call 26; refine (copy_no _ _ HM.out).mono ?_; rintro e w2 ⟨rfl, rfl⟩) | (go_at_call 27; refine (rcopy_nil _).mono ?_; rintro e w2 ⟨rfl, rfl⟩))
        go_roundw
        case rel => exact ⟨k + 1, by omega, by go_num, rfl, rfl, hup⟩
        case measure => simp [intOf]; omega
      by_cases hd2 : d = 2
      · subst hd2
        clear hd0 hd1
        go_wp2_with (first | (go_at_call 17; refine (push_no _ _ _ HM.out).mono ?_; rintro e w2 ⟨rfl, rfl⟩) | (go_at_call 22; refine (rpush_nil _ _).mono ?_; rintro e w2 ⟨rfl, rfl⟩) | (go_at_call 15; refine (pop_no _ _ HM.out).mono ?_; rintro e w2 ⟨rfl, rfl⟩) | (go_at_call 23; refine (rpop_nil _).mono ?_; rintro e w2 ⟨rfl, rfl⟩) | (go_at_call 19; refine (settle_no _ _ HM.out).mono ?_; rintro e w2 ⟨rfl, rfl⟩) | (go_at_call 24; refine (rsettle_nil _).mono ?_; rintro e w2 ⟨rfl, rfl⟩) | (go_at_call 20; refine (clear_no _ _ HM.out).mono ?_; rintro e w2 ⟨rfl, rfl⟩) | (go_at_call 25; refine (rclear_nil _).mono ?_; rintro e w2 ⟨rfl, rfl⟩) | (go_at_call 13; refine (over_no _ _ HM.out).mono ?_; rintro e w2 ⟨rfl, rfl⟩) | (go_at_call 28; refine (rover_nil _).mono ?_; rintro e w2 ⟨rfl, rfl⟩) | (go_at_call 14; refine (len_no _ _ HM.out).mono ?_; rintro e w2 ⟨rfl, rfl⟩) | (go_at_call 29; refine (rlen_nil _).mono ?_; rintro e w2 ⟨rfl, rfl⟩) | (go_at_call 16; refine (most_no _ _ HM.out).mono ?_; rintro e w2 ⟨rfl, rfl⟩) | (go_at_call 30; refine (rmost_nil _).mono ?_; rintro e w2 ⟨rfl, rfl⟩) | (go_at_call 26; refine (copy_no _ _ HM.out).mono ?_; rintro e w2 ⟨rfl, rfl⟩) | (go_at_call 27; refine (rcopy_nil _).mono ?_; rintro e w2 ⟨rfl, rfl⟩))
        go_roundw
        case rel => exact ⟨k + 1, by omega, by go_num, rfl, rfl, hup⟩
        case measure => simp [intOf]; omega
      by_cases hd3 : d = 3
      · subst hd3
        clear hd0 hd1 hd2
        go_wp2_with (first | (go_at_call 17; refine (push_no _ _ _ HM.out).mono ?_; rintro e w2 ⟨rfl, rfl⟩) | (go_at_call 22; refine (rpush_nil _ _).mono ?_; rintro e w2 ⟨rfl, rfl⟩) | (go_at_call 15; refine (pop_no _ _ HM.out).mono ?_; rintro e w2 ⟨rfl, rfl⟩) | (go_at_call 23; refine (rpop_nil _).mono ?_; rintro e w2 ⟨rfl, rfl⟩) | (go_at_call 19; refine (settle_no _ _ HM.out).mono ?_; rintro e w2 ⟨rfl, rfl⟩) | (go_at_call 24; refine (rsettle_nil _).mono ?_; rintro e w2 ⟨rfl, rfl⟩) | (go_at_call 20; refine (clear_no _ _ HM.out).mono ?_; rintro e w2 ⟨rfl, rfl⟩) | (go_at_call 25; refine (rclear_nil _).mono ?_; rintro e w2 ⟨rfl, rfl⟩) | (go_at_call 13; refine (over_no _ _ HM.out).mono ?_; rintro e w2 ⟨rfl, rfl⟩) | (go_at_call 28; refine (rover_nil _).mono ?_; rintro e w2 ⟨rfl, rfl⟩) | (go_at_call 14; refine (len_no _ _ HM.out).mono ?_; rintro e w2 ⟨rfl, rfl⟩) | (go_at_call 29; refine (rlen_nil _).mono ?_; rintro e w2 ⟨rfl, rfl⟩) | (go_at_call 16; refine (most_no _ _ HM.out).mono ?_; rintro e w2 ⟨rfl, rfl⟩) | (go_at_call 30; refine (rmost_nil _).mono ?_; rintro e w2 ⟨rfl, rfl⟩) | (go_at_call 26; refine (copy_no _ _ HM.out).mono ?_; rintro e w2 ⟨rfl, rfl⟩) | (go_at_call 27; refine (rcopy_nil _).mono ?_; rintro e w2 ⟨rfl, rfl⟩))
        go_roundw
        case rel => exact ⟨k + 1, by omega, by go_num, rfl, rfl, hup⟩
        case measure => simp [intOf]; omega
      by_cases hd4 : d = 4
      · subst hd4
        clear hd0 hd1 hd2 hd3
        go_wp2_with (first | (go_at_call 17; refine (push_no _ _ _ HM.out).mono ?_; rintro e w2 ⟨rfl, rfl⟩) | (go_at_call 22; refine (rpush_nil _ _).mono ?_; rintro e w2 ⟨rfl, rfl⟩) | (go_at_call 15; refine (pop_no _ _ HM.out).mono ?_; rintro e w2 ⟨rfl, rfl⟩) | (go_at_call 23; refine (rpop_nil _).mono ?_; rintro e w2 ⟨rfl, rfl⟩) | (go_at_call 19; refine (settle_no _ _ HM.out).mono ?_; rintro e w2 ⟨rfl, rfl⟩) | (go_at_call 24; refine (rsettle_nil _).mono ?_; rintro e w2 ⟨rfl, rfl⟩) | (go_at_call 20; refine (clear_no _ _ HM.out).mono ?_; rintro e w2 ⟨rfl, rfl⟩) | (go_at_call 25; refine (rclear_nil _).mono ?_; rintro e w2 ⟨rfl, rfl⟩) | (go_at_call 13; refine (over_no _ _ HM.out).mono ?_; rintro e w2 ⟨rfl, rfl⟩) | (go_at_call 28; refine (rover_nil _).mono ?_; rintro e w2 ⟨rfl, rfl⟩) | (go_at_call 14; refine (len_no _ _ HM.out).mono ?_; rintro e w2 ⟨rfl, rfl⟩) | (go_at_call 29; refine (rlen_nil _).mono ?_; rintro e w2 ⟨rfl, rfl⟩) | (go_at_call 16; refine (most_no _ _ HM.out).mono ?_; rintro e w2 ⟨rfl, rfl⟩) | (go_at_call 30; refine (rmost_nil _).mono ?_; rintro e w2 ⟨rfl, rfl⟩) | (go_at_call 26; refine (copy_no _ _ HM.out).mono ?_; rintro e w2 ⟨rfl, rfl⟩) | (go_at_call 27; refine (rcopy_nil _).mono ?_; rintro e w2 ⟨rfl, rfl⟩))
        go_roundw
        case rel => exact ⟨k + 1, by omega, by go_num, rfl, rfl, hup⟩
        case measure => simp [intOf]; omega
      · have b0 : (d == 0) = false := by simpa using hd0
        have b1 : (d == 1) = false := by simpa using hd1
        have b2 : (d == 2) = false := by simpa using hd2
        have b3 : (d == 3) = false := by simpa using hd3
        have b4 : (d == 4) = false := by simpa using hd4
        clear hd0 hd1 hd2 hd3 hd4
        go_wp2_with (first | (go_at_call 17; refine (push_no _ _ _ HM.out).mono ?_; rintro e w2 ⟨rfl, rfl⟩) | (go_at_call 22; refine (rpush_nil _ _).mono ?_; rintro e w2 ⟨rfl, rfl⟩) | (go_at_call 15; refine (pop_no _ _ HM.out).mono ?_; rintro e w2 ⟨rfl, rfl⟩) | (go_at_call 23; refine (rpop_nil _).mono ?_; rintro e w2 ⟨rfl, rfl⟩) | (go_at_call 19; refine (settle_no _ _ HM.out).mono ?_; rintro e w2 ⟨rfl, rfl⟩) | (go_at_call 24; refine (rsettle_nil _).mono ?_; rintro e w2 ⟨rfl, rfl⟩) | (go_at_call 20; refine (clear_no _ _ HM.out).mono ?_; rintro e w2 ⟨rfl, rfl⟩) | (go_at_call 25; refine (rclear_nil _).mono ?_; rintro e w2 ⟨rfl, rfl⟩) | (go_at_call 13; refine (over_no _ _ HM.out).mono ?_; rintro e w2 ⟨rfl, rfl⟩) | (go_at_call 28; refine (rover_nil _).mono ?_; rintro e w2 ⟨rfl, rfl⟩) | (go_at_call 14; refine (len_no _ _ HM.out).mono ?_; rintro e w2 ⟨rfl, rfl⟩) | (go_at_call 29; refine (rlen_nil _).mono ?_; rintro e w2 ⟨rfl, rfl⟩) | (go_at_call 16; refine (most_no _ _ HM.out).mono ?_; rintro e w2 ⟨rfl, rfl⟩) | (go_at_call 30; refine (rmost_nil _).mono ?_; rintro e w2 ⟨rfl, rfl⟩) | (go_at_call 26; refine (copy_no _ _ HM.out).mono ?_; rintro e w2 ⟨rfl, rfl⟩) | (go_at_call 27; refine (rcopy_nil _).mono ?_; rintro e w2 ⟨rfl, rfl⟩))
        go_roundw
        case rel => exact ⟨k + 1, by omega, by go_num, rfl, rfl, hup⟩
        case measure => simp [intOf]; omega
    · go_wp2_with (go_at_call 11; refine (works_ok _).mono ?_; rintro e w' ⟨rfl, u⟩)
      go_ret
      exact ⟨rfl, hup.trans u⟩

theorem keepR {w w2 : World} {B R : Nat} {s t : St} (h : StAt w B s) (r : RtAt w R t) (u : Upd [B] w w2) : RtAt w2 R t := by
  obtain ⟨_, _, _, hb⟩ := h
  obtain ⟨h1, a, c, h2, h3⟩ := r
  have hne : R ≠ B := by
    rintro rfl
    rw [hb] at h2; simp at h2
  exact ⟨h1, a, c, u.keep h2 (by simpa using hne), h3.upd1 u hb (by decide)⟩
theorem keepL {w w2 : World} {B R : Nat} {s t : St} (h : StAt w B s) (r : RtAt w R t) (u : Upd [R] w w2) : StAt w2 B s := by
  obtain ⟨h1, tl, h2, hb⟩ := h
  obtain ⟨_, a, c, h3, _⟩ := r
  have hne : B ≠ R := by
    rintro rfl
    rw [hb] at h3; simp at h3
  exact ⟨h1, tl, h2, u.keep hb (by simpa using hne)⟩

set_option maxRecDepth 100000 in
set_option maxHeartbeats 4000000 in
theorem plays_val (n : Nat) (hn1 : 1 ≤ n) (hn2 : n ≤ 64) (v : Value) (css : List (List Value)) (w : World) (hv : Recs w v 2 css) (hF : ∀ cs ∈ css, IsStep cs) (hlong : css.length ≤ 200) :
    Calls Try.prog 8 #[.int .i64 n, v] w fun e w' => e = .returned (.bool true) ∧ Upd [] w w' := by
  have HV := Lib.hid hv
  obtain ⟨a, cap, rfl, hcc, hcm, _⟩ := hv
  have hm : cap ≤ 9223372036854775807 := by unfold maxLen at hcm; omega
  have HF := Lib.hid hF; clear hF
  have hlg : decide (200 < (css.length : Int)) = false := by simp; omega
  go_enter Try.func8, Try.ntmps8
  go_wp2_with fail
  refine (new_ok n _ hn1 hn2).mono ?_; rintro e w1 ⟨rfl, a1, u1⟩
  go_wp2_with fail
  refine (rnew_ok n _ hn1 hn2).mono ?_; rintro e w2 ⟨rfl, r1, u2⟩
  have a2 := a1.upd u2 (by simp)
  have hB0 : w.heap.size ≤ w.heap.size := Nat.le_refl _
  have hR0 := u1.size
  generalize hB : w.heap.size = B0 at a2 hB0 ⊢
  have HB := Lib.hid hB; clear hB
  generalize w1.heap.size = R0 at r1 hR0 ⊢
  clear a1
  go_wp2_with fail
  go_loopw [5, 7, 9] (fun sv rv i wr => ∃ (k : Nat) (s : St) (B R : Nat), k ≤ css.length ∧ i = .int .i64 k ∧ sv = .pointer (some ⟨B, 0, none⟩) ∧ rv = .pointer (some ⟨R, 0, none⟩) ∧ StAt wr B s ∧ RtAt wr R s ∧ w.heap.size ≤ B ∧ w.heap.size ≤ R ∧ Upd [] w wr) (fun _ _ i _ => css.length - (intOf i).toNat)
  case atStart => exact ⟨0, _, B0, R0, by omega, rfl, rfl, rfl, a2, r1, by rw [HB.out]; omega, by rw [HB.out]; have := HB.out; omega, u1.trans u2⟩
  case round =>
    obtain ⟨k, s, B, R, hk, rfl, rfl, rfl, hst, hrt, hBw, hRw, hup⟩ := hrel
    by_cases hlt : k < css.length
    · obtain ⟨ab, off, rfl, hab, hcl, hat⟩ := (HV.out.upd hup (by simp)).at hlt
      obtain ⟨d, x, hcs, hwd, hwx⟩ := HF.out _ (List.getElem_mem hlt)
      have hc0 : wr.cell? ⟨ab, off + k * 2, none⟩ = some (.int .i64 d) := hat 0 _ (by rw [hcs]; rfl)
      have hc1 : wr.cell? ⟨ab, off + k * 2 + 1, none⟩ = some (.int .i64 x) := hat 1 _ (by rw [hcs]; rfl)
      have habB : ab ≠ B := by
        obtain ⟨_, _, he, _, _, _, _, hh⟩ := HV.out
        simp at he
        rcases hh with hh | ⟨b', off', hh, hb', _⟩
        · rw [hh] at hlt; simp at hlt
        · rw [← he.1] at hh; simp at hh; omega
      clear hcl hat hcs hwd hwx
      by_cases hd0 : d = 0
      · subst hd0
        go_wp2_with fail
        refine (push_any B s x _ hst).mono ?_; rintro e w2 ⟨rfl, a2, u2⟩
        have r2 := keepR hst hrt u2
        have hc1' : w2.cell? ⟨ab, off + k * 2 + 1, none⟩ = some (.int .i64 x) := by rw [u2.cell (by exact hab) (by simpa using habB)]; exact hc1
        go_wp2_with fail
        refine (rpush_any R s x _ r2).mono ?_; rintro e w3 ⟨rfl, r3, u3⟩
        have HA := Lib.hid (keepL a2 r2 u3)
        have HR := Lib.hid r3
        clear a2 r2 r3
        go_wp2_with (first | (go_at_call 13; refine (over_at _ _ _ HA.out).mono ?_; rintro e wx ⟨rfl, rfl⟩) | (go_at_call 28; refine (rover_at _ _ _ HR.out).mono ?_; rintro e wx ⟨rfl, rfl⟩) | (go_at_call 14; refine (len_at _ _ _ HA.out).mono ?_; rintro e wx ⟨rfl, rfl⟩) | (go_at_call 29; refine (rlen_at _ _ _ HR.out).mono ?_; rintro e wx ⟨rfl, rfl⟩) | (go_at_call 16; refine (most_at _ _ _ HA.out).mono ?_; rintro e wx ⟨rfl, rfl⟩) | (go_at_call 30; refine (rmost_at _ _ _ HR.out).mono ?_; rintro e wx ⟨rfl, rfl⟩))
        go_roundw
        case rel => exact ⟨k + 1, pushS s x, B, R, by omega, by go_num, rfl, rfl, HA.out, HR.out, hBw, hRw, (hup.fresh1 u2 hBw).fresh1 u3 hRw⟩
        case measure => simp [intOf]; omega
      by_cases hd1 : d = 1
      · subst hd1
        clear hd0
        go_wp2_with fail
        refine (pop_any B s _ hst).mono ?_; rintro e w2 ⟨rfl, a2, u2⟩
        have r2 := keepR hst hrt u2
        go_wp2_with fail
        refine (rpop_any R s _ r2).mono ?_; rintro e w3 ⟨rfl, r3, u3⟩
        have HA := Lib.hid (keepL a2 r2 u3)
        have HR := Lib.hid r3
        clear a2 r2 r3
        go_wp2_with (first | (go_at_call 13; refine (over_at _ _ _ HA.out).mono ?_; rintro e wx ⟨rfl, rfl⟩) | (go_at_call 28; refine (rover_at _ _ _ HR.out).mono ?_; rintro e wx ⟨rfl, rfl⟩) | (go_at_call 14; refine (len_at _ _ _ HA.out).mono ?_; rintro e wx ⟨rfl, rfl⟩) | (go_at_call 29; refine (rlen_at _ _ _ HR.out).mono ?_; rintro e wx ⟨rfl, rfl⟩) | (go_at_call 16; refine (most_at _ _ _ HA.out).mono ?_; rintro e wx ⟨rfl, rfl⟩) | (go_at_call 30; refine (rmost_at _ _ _ HR.out).mono ?_; rintro e wx ⟨rfl, rfl⟩))
        go_roundw
        case rel => exact ⟨k + 1, popS s, B, R, by omega, by go_num, rfl, rfl, HA.out, HR.out, hBw, hRw, (hup.fresh1 u2 hBw).fresh1 u3 hRw⟩
        case measure => simp [intOf]; omega
      by_cases hd2 : d = 2
      · subst hd2
        clear hd0 hd1
        go_wp2_with fail
        refine (settle_at B s _ hst).mono ?_; rintro e w2 ⟨rfl, a2, u2⟩
        have r2 := keepR hst hrt u2
        go_wp2_with fail
        refine (rsettle_at R s _ r2).mono ?_; rintro e w3 ⟨rfl, r3, u3⟩
        have HA := Lib.hid (keepL a2 r2 u3)
        have HR := Lib.hid r3
        clear a2 r2 r3
        go_wp2_with (first | (go_at_call 13; refine (over_at _ _ _ HA.out).mono ?_; rintro e wx ⟨rfl, rfl⟩) | (go_at_call 28; refine (rover_at _ _ _ HR.out).mono ?_; rintro e wx ⟨rfl, rfl⟩) | (go_at_call 14; refine (len_at _ _ _ HA.out).mono ?_; rintro e wx ⟨rfl, rfl⟩) | (go_at_call 29; refine (rlen_at _ _ _ HR.out).mono ?_; rintro e wx ⟨rfl, rfl⟩) | (go_at_call 16; refine (most_at _ _ _ HA.out).mono ?_; rintro e wx ⟨rfl, rfl⟩) | (go_at_call 30; refine (rmost_at _ _ _ HR.out).mono ?_; rintro e wx ⟨rfl, rfl⟩))
        go_roundw
        case rel => exact ⟨k + 1, { s with over := false }, B, R, by omega, by go_num, rfl, rfl, HA.out, HR.out, hBw, hRw, (hup.fresh1 u2 hBw).fresh1 u3 hRw⟩
        case measure => simp [intOf]; omega
      by_cases hd3 : d = 3
      · subst hd3
        clear hd0 hd1 hd2
        go_wp2_with fail
        refine (clear_at B s _ hst).mono ?_; rintro e w2 ⟨rfl, a2, u2⟩
        have r2 := keepR hst hrt u2
        go_wp2_with fail
        refine (rclear_at R s _ r2).mono ?_; rintro e w3 ⟨rfl, r3, u3⟩
        have HA := Lib.hid (keepL a2 r2 u3)
        have HR := Lib.hid r3
        clear a2 r2 r3
        go_wp2_with (first | (go_at_call 13; refine (over_at _ _ _ HA.out).mono ?_; rintro e wx ⟨rfl, rfl⟩) | (go_at_call 28; refine (rover_at _ _ _ HR.out).mono ?_; rintro e wx ⟨rfl, rfl⟩) | (go_at_call 14; refine (len_at _ _ _ HA.out).mono ?_; rintro e wx ⟨rfl, rfl⟩) | (go_at_call 29; refine (rlen_at _ _ _ HR.out).mono ?_; rintro e wx ⟨rfl, rfl⟩) | (go_at_call 16; refine (most_at _ _ _ HA.out).mono ?_; rintro e wx ⟨rfl, rfl⟩) | (go_at_call 30; refine (rmost_at _ _ _ HR.out).mono ?_; rintro e wx ⟨rfl, rfl⟩))
        go_roundw
        case rel => exact ⟨k + 1, { size := s.size, l := [], over := false, most := 0 }, B, R, by omega, by go_num, rfl, rfl, HA.out, HR.out, hBw, hRw, (hup.fresh1 u2 hBw).fresh1 u3 hRw⟩
        case measure => simp [intOf]; omega
      by_cases hd4 : d = 4
      · subst hd4
        clear hd0 hd1 hd2 hd3
        go_wp2_with fail
        refine (copy_at B s _ hst).mono ?_; rintro e w2 ⟨rfl, a2, u2⟩
        have r2 := hrt.upd u2 (by simp) (by simp)
        have hBn := hup.size
        generalize wr.heap.size = Bn at *
        go_wp2_with fail
        refine (rcopy_at R s _ r2).mono ?_; rintro e w3 ⟨Rn, rfl, hRn, r3, u3⟩
        have hRn2 := Nat.le_trans (hup.trans u2).size hRn
        have HA := Lib.hid (a2.upd u3 (by simp))
        have HR := Lib.hid r3
        clear a2 r2 r3
        go_wp2_with (first | (go_at_call 13; refine (over_at _ _ _ HA.out).mono ?_; rintro e wx ⟨rfl, rfl⟩) | (go_at_call 28; refine (rover_at _ _ _ HR.out).mono ?_; rintro e wx ⟨rfl, rfl⟩) | (go_at_call 14; refine (len_at _ _ _ HA.out).mono ?_; rintro e wx ⟨rfl, rfl⟩) | (go_at_call 29; refine (rlen_at _ _ _ HR.out).mono ?_; rintro e wx ⟨rfl, rfl⟩) | (go_at_call 16; refine (most_at _ _ _ HA.out).mono ?_; rintro e wx ⟨rfl, rfl⟩) | (go_at_call 30; refine (rmost_at _ _ _ HR.out).mono ?_; rintro e wx ⟨rfl, rfl⟩))
        go_roundw
        case rel => exact ⟨k + 1, s, Bn, Rn, by omega, by go_num, rfl, rfl, HA.out, HR.out, hBn, hRn2, (hup.trans u2).trans u3⟩
        case measure => simp [intOf]; omega
      · have b0 : (d == 0) = false := by simpa using hd0
        have b1 : (d == 1) = false := by simpa using hd1
        have b2 : (d == 2) = false := by simpa using hd2
        have b3 : (d == 3) = false := by simpa using hd3
        have b4 : (d == 4) = false := by simpa using hd4
        clear hd0 hd1 hd2 hd3 hd4
        have HA := Lib.hid hst
        have HR := Lib.hid hrt
        go_wp2_with (first | (go_at_call 13; refine (over_at _ _ _ HA.out).mono ?_; rintro e wx ⟨rfl, rfl⟩) | (go_at_call 28; refine (rover_at _ _ _ HR.out).mono ?_; rintro e wx ⟨rfl, rfl⟩) | (go_at_call 14; refine (len_at _ _ _ HA.out).mono ?_; rintro e wx ⟨rfl, rfl⟩) | (go_at_call 29; refine (rlen_at _ _ _ HR.out).mono ?_; rintro e wx ⟨rfl, rfl⟩) | (go_at_call 16; refine (most_at _ _ _ HA.out).mono ?_; rintro e wx ⟨rfl, rfl⟩) | (go_at_call 30; refine (rmost_at _ _ _ HR.out).mono ?_; rintro e wx ⟨rfl, rfl⟩))
        go_roundw
        case rel => exact ⟨k + 1, s, B, R, by omega, by go_num, rfl, rfl, HA.out, HR.out, hBw, hRw, hup⟩
        case measure => simp [intOf]; omega
    · go_wp2_with (go_at_call 11; refine (works_ok _).mono ?_; rintro e w' ⟨rfl, u⟩)
      go_ret
      exact ⟨rfl, hup.trans u⟩

theorem plays_fr (w : World) (size : Int) (_ : (Lit.int .i64 size).wf = true) (v : Value) (css : List (List Value)) (hv : Recs w v 2 css ∧ ∀ cs ∈ css, IsStep cs) :
    Calls Try.prog 8 #[.int .i64 size, v] w fun e w' => e = .returned (.bool true) ∧ Upd [] w w' := by
  obtain ⟨hv, hF⟩ := hv
  by_cases hlong : css.length ≤ 200
  · by_cases hs : size < 1 ∨ 64 < size
    · exact plays_nil size hs v css w hv hF hlong
    · obtain ⟨n, rfl⟩ := Int.eq_ofNat_of_zero_le (show 0 ≤ size by omega)
      exact plays_val n (by omega) (by omega) v css w hv hF hlong
  · obtain ⟨a, cap, rfl, hcc, hcm, _⟩ := hv
    have hm : cap ≤ 9223372036854775807 := by unfold maxLen at hcm; omega
    have hlg : (200 : Int) < css.length := by omega
    go_enter Try.func8, Try.ntmps8
    go_wp2_with (go_at_call 11; refine (works_ok _).mono ?_; rintro e w' ⟨rfl, u⟩)
    go_ret
    exact ⟨rfl, u⟩

end Go.Proofs.Ytcijjffhnogdfaa
