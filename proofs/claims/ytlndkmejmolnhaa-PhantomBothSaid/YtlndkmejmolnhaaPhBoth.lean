/-
  PhantomBoth: Of and By say the same, both ways. Conditions: none.
-/
import Derived.Test.YtlndkmejmolnhaaPhPlay2
import Derived.Test.YtlndkmejmolnhaaPhG
namespace Go.Proofs.Ytlndkmejmolnhaa
open Go.RowKit Go.Maps

/-- How many ids below k watch something. -/
def cntG (g : Nat → Option Rf) (k : Nat) : Nat := cntP (fun i => (g i).isSome) k
theorem cntG_succ (g : Nat → Option Rf) (k : Nat) : cntG g (k + 1) = cntG g k + (if (g k).isSome then 1 else 0) := cntP_succ _ _
theorem cntP_out (p : Nat → Bool) {n : Nat} : ∀ d, (∀ i, n ≤ i → p i = false) → cntP p (n + d) = cntP p n
  | 0, _ => rfl
  | d + 1, h => by rw [show n + (d + 1) = (n + d) + 1 from rfl, cntP_succ, h (n + d) (by omega), cntP_out p d h]; rfl
theorem cntG_size {s : Pt} (ho : s.ok) : cntG s.g s.size = s.card := by
  have hle := ho.le
  have h : ∀ i, s.size ≤ i → (s.g i).isSome = false := fun i hi => by
    cases hg : s.g i with
    | none => rfl
    | some r => exact absurd (ho.good i r hg).1 (by omega)
  have := cntP_out (fun i => (s.g i).isSome) (256 - s.size) h
  rw [show s.size + (256 - s.size) = 256 from by omega] at this
  exact this.symm

set_option maxRecDepth 100000 in
set_option maxHeartbeats 8000000 in
theorem both_ok (N : Nat) (hN1 : 1 ≤ N) (hN2 : N ≤ 256) (v : Value) (css : List (List Value)) (w : World) (hv : Recs w v 2 css) (hF : ∀ cs ∈ css, IsMv cs) :
    Calls Try.prog 6 #[.int .u8 ((N - 1 : Nat) : Int), v] w fun e w' => e = .returned (.bool true) ∧ Upd [] w w' := by
  have hp := played_ok N hN1 hN2 v css w hv hF
  have HP := Lib.hid hp
  clear hp hv hF
  have hw1 : IntKind.i64.wrap (1 + ((N - 1 : Nat) : Int)) = 1 + ((N - 1 : Nat) : Int) := IntWalk.i64_in _ (by omega)
  have hNe : 1 + ((N - 1 : Nat) : Int) = (N : Int) := by omega
  go_enter Try.func6, Try.ntmps6
  go_wp2_with fail
  refine HP.out.mono ?_; rintro e w2 ⟨b, m, n, h, k, s, rfl, p2, hsN, -, u1⟩
  have U2 := Lib.hid u1
  obtain ⟨C, hC⟩ : ∃ C, s.card = C := ⟨_, rfl⟩
  have hcnt := cntG_size p2.t.ok
  rw [hsN, hC] at hcnt
  obtain ⟨D, hD, hR⟩ := p2.has
  have hsize : Maps.size D = C := by rw [hR.size, ← hC]; rfl
  have hle : C ≤ 256 := by rw [← hC]; exact cardG_le _
  have HC := Lib.hid hC; have HS := Lib.hid hsize; have HD := Lib.hid hD
  have HCN := Lib.hid hcnt
  have P := Lib.hid p2
  have SN := Lib.hid hsN
  clear hC hsize hD hR p2 hcnt hsN u1
  go_wp2_with (first | (at_len; refine wpList_lenG (by rfl) _ 26 rfl _ C rfl (by rw [← HS.out]; exact HD.out.len Try.underlying26 _) ?_) | (go_at_call 14; refine (plen P.out.t).mono ?_; rw [HC.out]; rintro e w' ⟨rfl, rfl⟩))
  clear hw1 hNe
  have nR := neR
  have gR := gdR
  go_loopw [8, 41] (fun y x wr => ∃ i : Nat, i ≤ N ∧ x = .int .i64 i ∧ y = .int .i64 (cntG s.g i : Nat) ∧ Upd [] w2 wr) (fun _ x _ => N - (intOf x).toNat)
  case atStart => exact ⟨0, by omega, rfl, rfl, Upd.refl _ _⟩
  case round =>
    obtain ⟨i, hi, rfl, rfl, hup⟩ := hrel
    by_cases hlt : i < N
    · have pr := P.out.upd0 hup
      have hwi : (Lit.int .i64 (i : Int)).wf = true := WalkArith.wf_i64 (by omega)
      have hsz := SN.out
      have hpo := pof pr.t (i : Int) hwi
      rw [ofI_nat pr.t.ok] at hpo
      have hcs := cntG_succ s.g i
      have hcl : cntG s.g i ≤ i := cntP_le _ _
      obtain ⟨c0, hc0⟩ : ∃ c, cntG s.g i = c := ⟨_, rfl⟩
      rw [hc0] at hcs hcl ⊢
      have HCS := Lib.hid hcs
      have HUP := Lib.hid hup
      have PR := Lib.hid pr
      clear hcs hc0 hup pr
      cases hg : s.g i with
      | none =>
        rw [hg] at hpo
        have HG := Lib.hid hg
        have HPO := Lib.hid hpo
        clear hg hpo
        go_wp2_with fail
        refine HPO.out.mono ?_; rintro e w3 ⟨rfl, u3⟩
        have p3 := PR.out.upd0 u3
        have Q := (p3.has.upd ((Upd.refl [] _).alloc (.cells #[.int .i64 0, .int .u32 0] 24)) (by simp)).look i (by omega)
        rw [HG.out] at Q
        unfold refV at Q ⊢
        dsimp only [Option.getD_none, Option.isSome_none] at Q ⊢
        have QQ := Lib.hid Q
        have UF := Lib.hid (((HUP.out.trans u3).alloc (.cells #[.int .i64 0, .int .u32 0] 24)).alloc (.cells #[.int .i64 0, .int .u32 0] 24))
        clear Q p3 u3
        go_wp2_with (at_lookup; refine wpList_look rfl _ _ 26 rfl _ _ _ rfl rfl QQ.out ?_)
        go_roundw
        case rel => exact ⟨i + 1, by omega, by go_num, by rw [HCS.out, HG.out]; rfl, UF.out⟩
        case measure => simp [intOf]; omega
      | some r =>
        rw [hg] at hpo
        obtain ⟨r1, r2⟩ := r
        have HG := Lib.hid hg
        have HPO := Lib.hid hpo
        clear hg hpo
        go_wp2_with fail
        refine HPO.out.mono ?_; rintro e w3 ⟨rfl, u3⟩
        have p3 := PR.out.upd0 u3
        have Q := (p3.has.upd ((Upd.refl [] _).alloc (.cells #[.int .i64 r1, .int .u32 r2] 24)) (by simp)).look i (by omega)
        rw [HG.out] at Q
        unfold refV at Q ⊢
        dsimp only [Option.getD_some, Option.isSome_some] at Q ⊢
        have QQ := Lib.hid Q
        have u4 : Upd [] w3 ((w3.alloc (.cells #[.int .i64 r1, .int .u32 r2] 24)).alloc (.cells #[.int .i64 r1, .int .u32 r2] 24)) := ((Upd.refl _ _).alloc _).alloc _
        have p4 := p3.upd0 u4
        have hbyi := byI_of p4.t.ok HG.out
        have hpb := pby p4.t (r1, r2) (goodG p4.t.ok i _ HG.out)
        rw [hbyi] at hpb
        dsimp only [Option.getD_some, Option.isSome_some] at hpb
        have HPB := Lib.hid hpb
        have UF := Lib.hid ((HUP.out.trans u3).trans u4)
        clear Q p3 u3 hpb hbyi p4 u4
        have hw2 : IntKind.i64.wrap ((c0 : Int) + 1) = (c0 : Int) + 1 := IntWalk.i64_in _ (by omega)
        have hb2 : (r1 == r1 && r2 == r2) = true := by simp
        go_wp2_with (at_lookup; refine wpList_look rfl _ _ 26 rfl _ _ _ rfl rfl QQ.out ?_)
        refine HPB.out.mono ?_; rintro e w5 ⟨rfl, u5⟩
        have UG := Lib.hid (UF.out.trans u5)
        clear u5
        go_wp2_with fail
        go_roundw
        case rel => exact ⟨i + 1, by omega, by go_num, by rw [HCS.out, HG.out]; simp, UG.out⟩
        case measure => simp [intOf]; omega
    · obtain rfl : i = N := by omega
      rw [HCN.out]
      have HU := Lib.hid hup
      clear hup hi hlt
      go_wp2_with fail
      clear nR
      have nR := neR
      go_loopw [82] (fun x wr => ∃ q : Nat, q ≤ 16 ∧ x = .int .i64 q ∧ Upd [] w2 wr) (fun x _ => 16 - (intOf x).toNat)
      case atStart => exact ⟨0, by omega, rfl, HU.out⟩
      case round =>
        clear HU
        obtain ⟨q, hq, rfl, hup⟩ := hrel
        by_cases hlt : q < 16
        · have hlt2 : (q : Int) < 16 := by omega
          go_wp2_with fail
          go_loopw [17] (fun x wr => ∃ g : Nat, 1 ≤ g ∧ g ≤ 3 ∧ x = .int .u32 g ∧ Upd [] w2 wr) (fun x _ => 3 - (intOf x).toNat)
          case atStart => exact ⟨1, by omega, by omega, rfl, hup⟩
          case round =>
            clear hup
            obtain ⟨g, hg1, hg3, rfl, hup⟩ := hrel
            by_cases hgl : g ≤ 2
            · have hgl2 : (g : Int) ≤ 2 := by omega
              have hgw : IntKind.u32.wrap ((g : Int) + 1) = (g : Int) + 1 := IntWalk.u32_in _ (by omega)
              have pr := P.out.upd0 hup
              have hwr : refWf ((q : Int), (g : Int)) := ⟨WalkArith.wf_i64 (by omega), WalkArith.wf_u32 (by omega)⟩
              have hpb := pby pr.t _ hwr
              have ho := pr.t.ok
              obtain ⟨bq, hbq⟩ : ∃ x, s.byI ((q : Int), (g : Int)) = x := ⟨_, rfl⟩
              rw [hbq] at hpb
              have HPB := Lib.hid hpb
              have HUP := Lib.hid hup
              have PR := Lib.hid pr
              have HBQ := Lib.hid hbq
              have HO := Lib.hid ho
              clear hpb hup pr hbq ho
              cases bq with
              | none =>
                go_wp2_with fail
                refine HPB.out.mono ?_; rintro e w3 ⟨rfl, u3⟩
                dsimp only [Option.getD_none, Option.isSome_none]
                have p3 := PR.out.upd0 u3
                obtain ⟨⟨o1, o2⟩, hold⟩ : ∃ x : Rf, (s.ofI 0).getD (0, 0) = x := ⟨_, rfl⟩
                have hpo := pof p3.t 0 (by decide)
                rw [hold] at hpo
                unfold refV at hpo
                dsimp only at hpo
                have HPF := Lib.hid hpo
                have UF := Lib.hid (HUP.out.trans u3)
                clear hpo p3 u3 hold
                go_wp2_with fail
                refine HPF.out.mono ?_; rintro e w4 ⟨rfl, u4⟩
                have UG := Lib.hid ((UF.out.trans u4).alloc (.cells #[.int .i64 o1, .int .u32 o2] 24))
                clear u4
                go_wp2_with fail
                go_roundw
                case rel => exact ⟨g + 1, by omega, by omega, by go_num, UG.out⟩
                case measure => simp [intOf]; omega
              | some j =>
                go_wp2_with fail
                refine HPB.out.mono ?_; rintro e w3 ⟨rfl, u3⟩
                dsimp only [Option.getD_some, Option.isSome_some]
                have p3 := PR.out.upd0 u3
                have hgj := byI_some HBQ.out
                have hj256 : j < 256 := by have := (HO.out.good j _ hgj).1; have := HO.out.le; omega
                have hpo := pof p3.t (j : Int) (WalkArith.wf_i64 (by omega))
                rw [ofI_nat HO.out, hgj] at hpo
                unfold refV at hpo
                dsimp only [Option.getD_some, Option.isSome_some] at hpo
                have HPF := Lib.hid hpo
                have UF := Lib.hid (HUP.out.trans u3)
                clear hpo p3 u3 hgj
                have hb2 : ((q : Int) == (q : Int) && (g : Int) == (g : Int)) = true := by simp
                go_wp2_with fail
                refine HPF.out.mono ?_; rintro e w4 ⟨rfl, u4⟩
                have UG := Lib.hid ((UF.out.trans u4).alloc (.cells #[.int .i64 q, .int .u32 g] 24))
                clear u4
                go_wp2_with fail
                go_roundw
                case rel => exact ⟨g + 1, by omega, by omega, by go_num, UG.out⟩
                case measure => simp [intOf]; omega
            · have hgl2 : (2 : Int) < (g : Int) := by omega
              go_wp2_with fail
              go_roundw
              case rel => exact ⟨q + 1, by omega, by go_num, hup⟩
              case measure => simp [intOf]; omega
        · have hlt2 : ¬ (q : Int) < 16 := by omega
          have hb3 : ((C : Int) == (C : Int)) = true := by simp
          have HDR := Lib.hid (owns_upd_map HD.out hup (by simp))
          go_wp2_with (at_len; refine wpList_lenG (by rfl) _ 26 rfl _ C rfl (by rw [← HS.out]; exact HDR.out.len Try.underlying26 _) ?_)
          refine (works_ok _).mono ?_; rintro e w5 ⟨rfl, u5⟩
          go_wp2_with fail
          go_ret
          exact ⟨rfl, (U2.out.trans hup).trans u5⟩

theorem both_fr (w : World) (size : Int) (hsz : (Lit.int .u8 size).wf = true) (v : Value) (css : List (List Value)) (hv : Recs w v 2 css ∧ ∀ cs ∈ css, IsMv cs) :
    Calls Try.prog 6 #[.int .u8 size, v] w fun e w' => e = .returned (.bool true) ∧ Upd [] w w' := by
  obtain ⟨h0, h1⟩ := wf_u8 hsz
  obtain ⟨n, rfl⟩ := Int.eq_ofNat_of_zero_le h0
  exact both_ok (n + 1) (by omega) (by omega) v css w hv.1 hv.2

end Go.Proofs.Ytlndkmejmolnhaa
