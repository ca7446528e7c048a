/-
  PhantomIds: Ids increase, and are those that watch an object. Conditions: none.
-/
import Derived.Test.YtlndkmejmolnhaaPhPlay2
namespace Go.Proofs.Ytlndkmejmolnhaa
open Go.RowKit Go.Maps

set_option maxRecDepth 100000 in
set_option maxHeartbeats 4000000 in
theorem ids_ok (N : Nat) (hN1 : 1 ≤ N) (hN2 : N ≤ 256) (v : Value) (css : List (List Value)) (w : World) (hv : Recs w v 2 css) (hF : ∀ cs ∈ css, IsMv cs) :
    Calls Try.prog 5 #[.int .u8 ((N - 1 : Nat) : Int), v] w fun e w' => e = .returned (.bool true) ∧ Upd [] w w' := by
  have hp := played_ok N hN1 hN2 v css w hv hF
  have HP := Lib.hid hp
  clear hp hv hF
  go_enter Try.func5, Try.ntmps5
  go_wp2_with fail
  refine HP.out.mono ?_; rintro e w1 ⟨b, m, n, h, k, s, rfl, p, -, -, u1⟩
  go_wp2_with fail
  refine (pids p.t).mono ?_; rintro e w2 ⟨vi, rfl, hown, u2⟩
  have hI : Ints w2 vi (idsG s.g) := Ints.ofOwn hown
  have p2 := p.upd0 u2
  have U2 := Lib.hid (u1.trans u2)
  clear hown p u1 u2
  obtain ⟨L, hL⟩ : ∃ L, idsG s.g = L := ⟨_, rfl⟩
  have hcard : s.card = L.length := by rw [← hL, idsG_length]; rfl
  obtain ⟨D, hD, hR⟩ := p2.has
  have hsize : Maps.size D = L.length := by rw [hR.size, ← hL, idsG_length]
  have hle : L.length ≤ 256 := by rw [← hL, idsG_length]; exact cardG_le _
  rw [hL] at hI
  have HL := Lib.hid hL; have HC := Lib.hid hcard; have HS := Lib.hid hsize; have HD := Lib.hid hD
  obtain ⟨va, vc, rfl, hvc1, hvc2⟩ := hI.form
  have HI := Lib.hid hI
  have P := Lib.hid p2
  clear hL hcard hsize hD hR hI p2
  go_wp2_with (first | (at_len; refine wpList_len_own _ rfl _ 26 rfl 3 24 Try.underlying26 _ h 256 D rfl HD.out ?_; rw [HS.out]) | (go_at_call 14; refine (plen P.out.t).mono ?_; rw [HC.out]; rintro e w' ⟨rfl, rfl⟩))
  go_loopw [38] (fun x wr => ∃ i : Nat, i ≤ L.length ∧ x = .int .i64 i ∧ Upd [] w2 wr) (fun x _ => L.length - (intOf x).toNat)
  case atStart => exact ⟨0, by omega, rfl, Upd.refl _ _⟩
  case round =>
    obtain ⟨i, hi, rfl, hup⟩ := hrel
    by_cases hlt : i < L.length
    · obtain ⟨g, off, rfl, hg, _, hc⟩ := (HI.out.upd0 hup).at hlt
      have hmem : L[i] ∈ idsG s.g := by rw [HL.out]; exact List.getElem_mem hlt
      obtain ⟨j, hj, hjs, hje⟩ := (idsG_mem s.g _).1 hmem
      have hprev : i = 0 ∨ ∃ i', i = i' + 1 ∧ ∃ y : Int, wr.cell? ⟨g, off + i', none⟩ = some (.int .i64 y) ∧ decide ((j : Int) ≤ y) = false := by
        by_cases h0 : i = 0
        · exact .inl h0
        · obtain ⟨i', rfl⟩ : ∃ i', i = i' + 1 := ⟨i - 1, by omega⟩
          obtain ⟨g', off', e, _, _, hc'⟩ := (HI.out.upd0 hup).at (show i' < L.length by omega)
          simp only [Option.some.injEq, Addr.mk.injEq, and_true] at e
          obtain ⟨rfl, rfl⟩ := e
          refine .inr ⟨i', rfl, L[i'], hc', ?_⟩
          have hr := idsG_rising s.g
          rw [HL.out] at hr
          have := List.pairwise_iff_getElem.1 hr i' (i' + 1) (by omega) hlt (by omega)
          simp
          omega
      have Q := ((P.out.upd0 hup).has).look j hj
      rw [hjs] at Q
      obtain ⟨⟨o1, o2⟩, hold⟩ : ∃ x : Rf, (s.g j).getD (0, 0) = x := ⟨_, rfl⟩
      rw [hold] at Q
      unfold refV at Q
      dsimp only at Q
      have QQ := Lib.hid Q
      rw [hje] at hc
      clear Q hmem hjs hje hold
      have hup2 : Upd [] w2 (wr.alloc (.cells #[.int .i64 o1, .int .u32 o2] 24)) := hup.alloc _
      have UP := Lib.hid hup2
      clear hup hup2
      rcases hprev with h0 | ⟨i', rfl, y, hy, hdy⟩
      · have hgt2 : decide ((0 : Int) < (i : Int)) = false := by simp; omega
        have hgt3 : decide (0 < i) = false := by simp; omega
        have H0 := Lib.hid h0
        clear h0
        go_wp2_with (at_lookup; refine wpList_look rfl _ _ 26 rfl _ _ _ rfl rfl QQ.out ?_)
        go_roundw
        case rel => exact ⟨i + 1, by omega, by go_num, UP.out⟩
        case measure => simp [intOf]; omega
      · have hw1 : IntKind.i64.wrap (((i' + 1 : Nat) : Int) - 1) = (i' : Int) := by rw [IntWalk.i64_in _ (by omega)]; omega
        have hi'0 : (0 : Int) ≤ (i' : Int) := by omega
        have hi'1 : (i' : Int) < (L.length : Int) := by omega
        go_wp2_with (at_lookup; refine wpList_look rfl _ _ 26 rfl _ _ _ rfl rfl QQ.out ?_)
        go_roundw
        case rel => exact ⟨i' + 1 + 1, by omega, by go_num, UP.out⟩
        case measure => simp [intOf]; omega
    · go_wp2_with fail
      refine (works_ok _).mono ?_; rintro e w5 ⟨rfl, u5⟩
      go_wp2_with fail
      go_ret
      exact ⟨rfl, (U2.out.trans hup).trans u5⟩

theorem ids_fr (w : World) (size : Int) (hsz : (Lit.int .u8 size).wf = true) (v : Value) (css : List (List Value)) (hv : Recs w v 2 css ∧ ∀ cs ∈ css, IsMv cs) :
    Calls Try.prog 5 #[.int .u8 size, v] w fun e w' => e = .returned (.bool true) ∧ Upd [] w w' := by
  obtain ⟨h0, h1⟩ := wf_u8 hsz
  obtain ⟨n, rfl⟩ := Int.eq_ofNat_of_zero_le h0
  exact ids_ok (n + 1) (by omega) (by omega) v css w hv.1 hv.2

end Go.Proofs.Ytlndkmejmolnhaa
