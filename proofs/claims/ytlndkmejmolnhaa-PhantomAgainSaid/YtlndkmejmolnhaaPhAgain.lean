/-
  PhantomAgain: what is cleared can be added with any id that watches nothing. Conditions: none.
-/
import Derived.Test.YtlndkmejmolnhaaPhPlay2
import Derived.Test.YtlndkmejmolnhaaPhG
namespace Go.Proofs.Ytlndkmejmolnhaa
open Go.RowKit Go.Maps

theorem HasAt.look1 {w : World} {h : Nat} {g : Nat → Option Rf} (k : HasAt w h g) (i : Nat) (hi : i < 256) :
    (Instr.lookup 26 (.map (some h)) (.int .i64 (i : Int)) false).run Try.prog w = .ok (refV ((g i).getD (0, 0))) w := by
  obtain ⟨D, h1, hr⟩ := k
  obtain ⟨v, ps, hrun, hv⟩ := h1.lookup law3 Try.underlying26 (zeroR w) (refElem_mk (0, 0)) (keyOf_int_mk Try.underlying3 (WalkArith.wf_i64 (n := (i : Int)) (by omega)))
  obtain ⟨r, rfl, hz⟩ := refElem_inv hv
  rw [hrun]
  simp only [Prod.mk.injEq] at hz
  cases hg : g i with
  | none =>
    have h1 := hr.rd i hi
    rw [hg] at h1
    have h2 := atKey_of_not_has (has_false_of_look h1) (refD (0, 0))
    rw [h2] at hz
    rw [← refD_inj hz.1]; rfl
  | some s =>
    have h1 := hr.rd i hi
    rw [hg] at h1
    rw [at_of_look h1] at hz
    rw [← refD_inj hz.1]; rfl

set_option maxRecDepth 100000 in
set_option maxHeartbeats 8000000 in
theorem again_ok (N : Nat) (hN1 : 1 ≤ N) (hN2 : N ≤ 256) (a o : Nat) (ha : a < 256) (ho : o < 256) (v : Value) (css : List (List Value)) (w : World) (hv : Recs w v 2 css) (hF : ∀ cs ∈ css, IsMv cs) :
    Calls Try.prog 7 #[.int .u8 ((N - 1 : Nat) : Int), v, .int .u8 (a : Int), .int .u8 (o : Int)] w fun e w' => e = .returned (.bool true) ∧ Upd [] w w' := by
  have hp := played_ok N hN1 hN2 v css w hv hF
  have HP := Lib.hid hp
  clear hp hv hF
  have hw1 : IntKind.i64.wrap (1 + ((N - 1 : Nat) : Int)) = 1 + ((N - 1 : Nat) : Int) := IntWalk.i64_in _ (by omega)
  have hNe : 1 + ((N - 1 : Nat) : Int) = (N : Int) := by omega
  have nR := neR
  have gR := gdR
  go_enter Try.func7, Try.ntmps7
  go_wp2_with fail
  refine HP.out.mono ?_; rintro e w1 ⟨b, m, n, h, k, s, rfl, p, hsN, ⟨hb', hm', hn', hh'⟩, u1⟩
  go_wp2_with fail
  refine (pids p.t).mono ?_; rintro e w2 ⟨vi, rfl, hown, u2⟩
  have hI : Ints w2 vi (idsG s.g) := Ints.ofOwn hown
  have p2 := p.upd0 u2
  have U2 := Lib.hid (u1.trans u2)
  clear hown p u1 u2
  obtain ⟨L, hL⟩ : ∃ L, idsG s.g = L := ⟨_, rfl⟩
  have hle : L.length ≤ 256 := by rw [← hL, idsG_length]; exact cardG_le _
  rw [hL] at hI
  have HL := Lib.hid hL
  obtain ⟨va, vc, rfl, hvc1, hvc2⟩ := hI.form
  have HI := Lib.hid hI
  have P := Lib.hid p2
  have SN := Lib.hid hsN
  clear hL hI p2 hsN
  by_cases h0 : L.length = 0
  · have hl0 : ((L.length : Int) == 0) = true := by simp [h0]
    have H0 := Lib.hid h0; clear h0
    go_wp2_with fail
    refine (works_ok _).mono ?_; rintro e w5 ⟨rfl, u5⟩
    go_wp2_with fail
    go_ret
    exact ⟨rfl, U2.out.trans u5⟩
  · have hl0 : ((L.length : Int) == 0) = false := by simp; intro hh; exact h0 (by simp [hh])
    have hl1 : (L.length : Int) ≠ 0 := by omega
    obtain ⟨q, hq⟩ : ∃ q, a % L.length = q := ⟨_, rfl⟩
    have hql : q < L.length := by rw [← hq]; exact Nat.mod_lt _ (by omega)
    have hmod1 : Int.tmod (a : Int) (L.length : Int) = (q : Int) := by rw [Int.tmod_eq_emod_of_nonneg (by omega), ← hq]; rfl
    obtain ⟨c, hc⟩ : ∃ c, o % N = c := ⟨_, rfl⟩
    have hcN : c < N := by rw [← hc]; exact Nat.mod_lt _ (by omega)
    have hmod2 : Int.tmod (o : Int) (N : Int) = (c : Int) := by rw [Int.tmod_eq_emod_of_nonneg (by omega), ← hc]; rfl
    have hN0 : ((N : Int) == 0) = false := by simp; omega
    have hNz : (N : Int) ≠ 0 := by omega
    have hNz1 : ¬ N = 0 := by omega
    obtain ⟨g, off, rfl, hg, _, hcell⟩ := HI.out.at hql
    have hmem : L[q] ∈ idsG s.g := by rw [HL.out]; exact List.getElem_mem hql
    obtain ⟨j, hj, hjs, hje⟩ := (idsG_mem s.g _).1 hmem
    rw [hje] at hcell
    obtain ⟨⟨r1, r2⟩, hr⟩ := Option.isSome_iff_exists.1 hjs
    have hql1 : (q : Int) < (L.length : Int) := by omega
    have hql0 : (0 : Int) ≤ (q : Int) := by omega
    have HR := Lib.hid hr
    have HJ := Lib.hid hj
    clear hq hc hmem hjs hje hr hj
    go_wp2_with fail
    go_quiet (fail)
    have pq := P.out.upd0 ((Upd.refl [] _).drewN nq)
    have uq : Upd [] w (w2.drewN nq) := U2.out.drewN nq
    generalize w2.drewN nq = w3 at *
    have hjN : j < N := by have := (pq.t.ok.good j _ HR.out).1; have := SN.out; omega
    have hgood := (pq.t.ok.good j _ HR.out).2
    have e1 : s.clrE j = 0 := by unfold Pt.clrE; have := SN.out; rw [if_pos ⟨by omega, by omega⟩, ofI_nat pq.t.ok, HR.out]; rfl
    have e2 : s.clrR j = (r1, r2) := by unfold Pt.clrR; rw [ofI_nat pq.t.ok, HR.out]; rfl
    have hcl := pclr pq.t (j : Int)
    rw [e1, e2, clrS_eq pq.t.ok] at hcl
    have HCL := Lib.hid hcl
    have PQ := Lib.hid pq
    have UQ := Lib.hid uq
    have HGD := Lib.hid hgood
    clear hcl e1 e2 pq uq hgood hcell hg
    go_wp2_with fail
    refine HCL.out.mono ?_; rintro e w4 ⟨rfl, t4, u4⟩
    obtain ⟨n1, n2, n3, n4, n5⟩ := PQ.out.ne
    have has4 := PQ.out.has.upd u4 (by simp; exact ⟨n2, n3⟩)
    have U4 := Lib.hid (UQ.out.fresh2 u4 hm' hn')
    have ul : Upd [] w4 (w4.alloc (.cells #[.int .i64 r1, .int .u32 r2] 24)) := (Upd.refl _ _).alloc _
    have t5 := t4.upd0 ul
    have has5 := has4.upd ul (by simp)
    have hX := new_of w4 (.cells #[.int .i64 r1, .int .u32 r2] 24)
    have Q1 := has5.look1 j HJ.out
    rw [HR.out] at Q1
    unfold refV at Q1
    dsimp only [Option.getD_some] at Q1
    obtain ⟨w6, hrun6, has6, u6⟩ := has5.del j HJ.out 0
    have hX6 := u6.keep hX (by simpa using has5.ne hX)
    have t6 := t5.upd u6 (by simpa using has5.ne t5.blk) (by simpa using fun e : m = h => n2 e.symm) (by simpa using fun e : n = h => n3 e.symm)
    have Q2 := has6.look c (by omega)
    obtain ⟨⟨o1, o2⟩, hold⟩ : ∃ x : Rf, (setG s.g j none c).getD (0, 0) = x := ⟨_, rfl⟩
    rw [hold] at Q2
    unfold refV at Q2
    dsimp only at Q2
    have ux : Upd [] w6 (w6.alloc (.cells #[.int .i64 o1, .int .u32 o2] 24)) := (Upd.refl _ _).alloc _
    have t7 := t6.upd0 ux
    have has7 := has6.upd ux (by simp)
    have U7 := Lib.hid ((((U4.out.alloc (.cells #[.int .i64 r1, .int .u32 r2] 24))).fresh1 u6 hh').trans ux)
    have hX7 := ux.keep hX6 (by simp)
    have hby : (s.set j none).byI (r1, r2) = none := by
      cases hb : (s.set j none).byI (r1, r2) with
      | none => rfl
      | some x =>
        have h1 := byI_some hb
        by_cases e : x = j
        · subst e; simp [Pt.set, setG_same] at h1
        · exact absurd (PQ.out.t.ok.inj x j (r1, r2) (by simpa [Pt.set, setG_other _ _ e] using h1) HR.out) e
    have hae : (s.set j none).addE c (r1, r2) = if (setG s.g j none c).isSome = true then 6 else 0 := by
      have := SN.out
      unfold Pt.addE
      rw [if_pos ⟨by omega, by show (c : Int) < (s.size : Int); omega⟩, if_pos HGD.out, ofI_nat t7.ok, hby]
      simp [Pt.set]
    obtain ⟨z, hz⟩ : ∃ z, (setG s.g j none c).isSome = z := ⟨_, rfl⟩
    rw [hz] at Q2 hae
    have HAE := Lib.hid hae
    have HZ := Lib.hid hz
    have H1 := Lib.hid Q1; have H2 := Lib.hid Q2; have H6 := Lib.hid hrun6
    have T7 := Lib.hid t7; have HAS7 := Lib.hid has7
    have k0 := cell_of hX6 0
    have k1 := cell_of hX6 1
    have kl := lt_of_block hX6
    have HX7 := Lib.hid hX7
    have HNE := Lib.hid (show h ≠ m ∧ h ≠ n from ⟨n2, n3⟩)
    have hb2 : (r1 == r1 && r2 == r2) = true := by simp
    clear t4 u4 has4 ul t5 has5 hX Q1 hrun6 has6 u6 hX6 t6 Q2 ux t7 has7 hX7 hby hae hz hold n1 n2 n3 n4 n5
    go_wp2_with (first | (at_lookup; refine wpList_lookG (by rfl) _ _ 26 false rfl _ _ _ rfl rfl H1.out ?_) | (at_lookup; refine wpList_look rfl _ _ 26 rfl _ _ _ rfl rfl H2.out ?_) | (at_delete; refine wpList_del rfl _ _ 26 3 rfl _ _ rfl rfl H6.out ?_))
    generalize w6.alloc (.cells #[.int .i64 o1, .int .u32 o2] 24) = W7 at *
    generalize w4.heap.size = X at *
    refine (padd T7.out (c : Int) (r1, r2) HGD.out.wf).mono ?_; rintro e w8 ⟨rfl, t8, u8⟩
    rw [HAE.out]
    have hXm := T7.out.nem HX7.out
    have hXn := T7.out.nen HX7.out
    have hX8 := u8.keep HX7.out (by simp; exact ⟨hXm, hXn⟩)
    have has8 := HAS7.out.upd u8 (by simp; exact HNE.out)
    have U8 := Lib.hid (U7.out.fresh2 u8 hm' hn')
    cases z with
    | true =>
      rw [addS_no (by rw [HAE.out]; decide)] at t8
      have PT := Lib.hid t8; have HT := Lib.hid has8
      clear t8 u8 hX8 has8 k0 k1 kl hXm hXn
      go_wp2_with fail
      go_loopw [100] (fun x wr => ∃ i : Nat, i ≤ N ∧ x = .int .i64 i ∧ Upd [] w8 wr) (fun x _ => N - (intOf x).toNat)
      case atStart => exact ⟨0, by omega, rfl, Upd.refl _ _⟩
      case round =>
        obtain ⟨i, hi, rfl, hup⟩ := hrel
        by_cases hlt : i < N
        · have pr := PT.out.upd0 hup
          have hwi : (Lit.int .i64 (i : Int)).wf = true := WalkArith.wf_i64 (by omega)
          have hpo := pof pr (i : Int) hwi
          rw [ofI_nat pr.ok] at hpo
          have hh : HasAt wr h ((s.set j none).g) := HT.out.upd hup (by simp)
          obtain ⟨⟨o1, o2⟩, hold⟩ : ∃ x : Rf, ((s.set j none).g i).getD (0, 0) = x := ⟨_, rfl⟩
          obtain ⟨z, hz⟩ : ∃ z, ((s.set j none).g i).isSome = z := ⟨_, rfl⟩
          rw [hold, hz] at hpo
          unfold refV at hpo
          dsimp only at hpo
          have HPO := Lib.hid hpo
          have HUP := Lib.hid hup
          have HH := Lib.hid hh
          have HOLD := Lib.hid hold
          have HZ := Lib.hid hz
          clear hpo hup pr hh hold hz
          go_wp2_with fail
          refine HPO.out.mono ?_; rintro e w3 ⟨rfl, u3⟩
          have Q := ((HH.out.upd u3 (by simp)).upd ((Upd.refl [] _).alloc (.cells #[.int .i64 o1, .int .u32 o2] 24)) (by simp)).look i (by omega)
          rw [HOLD.out, HZ.out] at Q
          unfold refV at Q
          dsimp only at Q
          have QQ := Lib.hid Q
          have UF := Lib.hid (((HUP.out.trans u3).alloc (.cells #[.int .i64 o1, .int .u32 o2] 24)).alloc (.cells #[.int .i64 o1, .int .u32 o2] 24))
          clear Q u3
          have hb2 : (o1 == o1 && o2 == o2) = true := by simp
          go_wp2_with (at_lookup; refine wpList_look rfl _ _ 26 rfl _ _ _ rfl rfl QQ.out ?_)
          go_roundw
          case rel => exact ⟨i + 1, by omega, by go_num, UF.out⟩
          case measure => simp [intOf]; omega
        ·
          go_wp2_with fail
          refine (works_ok _).mono ?_; rintro e w9 ⟨rfl, u9⟩
          go_wp2_with fail
          go_ret
          exact ⟨rfl, (U8.out.trans hup).trans u9⟩
    | false =>
      rw [addS_ok (by rw [HAE.out]; rfl), Int.toNat_natCast] at t8
      obtain ⟨w9, hrun9, has9, u9⟩ := has8.put c (r1, r2) (by omega)
      have t9 := t8.upd u9 (by simpa using has8.ne t8.blk) (by simpa using fun e : m = h => HNE.out.1 e.symm) (by simpa using fun e : n = h => HNE.out.2 e.symm)
      have U9 := Lib.hid (U8.out.fresh1 u9 hh')
      have PT := Lib.hid t9; have HT := Lib.hid has9
      have k0 := cell_of hX8 0
      have k1 := cell_of hX8 1
      have kl := lt_of_block hX8
      clear t8 u8 hX8 has8 hXm hXn t9 has9 u9
      go_wp2_with fail
      go_loopw [100] (fun x wr => ∃ i : Nat, i ≤ N ∧ x = .int .i64 i ∧ Upd [] w9 wr) (fun x _ => N - (intOf x).toNat)
      case atStart => exact ⟨0, by omega, rfl, Upd.refl _ _⟩
      case round =>
        obtain ⟨i, hi, rfl, hup⟩ := hrel
        by_cases hlt : i < N
        · have pr := PT.out.upd0 hup
          have hwi : (Lit.int .i64 (i : Int)).wf = true := WalkArith.wf_i64 (by omega)
          have hpo := pof pr (i : Int) hwi
          rw [ofI_nat pr.ok] at hpo
          have hh : HasAt wr h (((s.set j none).set c (some (r1, r2))).g) := HT.out.upd hup (by simp)
          obtain ⟨⟨o1, o2⟩, hold⟩ : ∃ x : Rf, (((s.set j none).set c (some (r1, r2))).g i).getD (0, 0) = x := ⟨_, rfl⟩
          obtain ⟨z, hz⟩ : ∃ z, (((s.set j none).set c (some (r1, r2))).g i).isSome = z := ⟨_, rfl⟩
          rw [hold, hz] at hpo
          unfold refV at hpo
          dsimp only at hpo
          have HPO := Lib.hid hpo
          have HUP := Lib.hid hup
          have HH := Lib.hid hh
          have HOLD := Lib.hid hold
          have HZ := Lib.hid hz
          clear hpo hup pr hh hold hz
          go_wp2_with fail
          refine HPO.out.mono ?_; rintro e w3 ⟨rfl, u3⟩
          have Q := ((HH.out.upd u3 (by simp)).upd ((Upd.refl [] _).alloc (.cells #[.int .i64 o1, .int .u32 o2] 24)) (by simp)).look i (by omega)
          rw [HOLD.out, HZ.out] at Q
          unfold refV at Q
          dsimp only at Q
          have QQ := Lib.hid Q
          have UF := Lib.hid (((HUP.out.trans u3).alloc (.cells #[.int .i64 o1, .int .u32 o2] 24)).alloc (.cells #[.int .i64 o1, .int .u32 o2] 24))
          clear Q u3
          have hb2 : (o1 == o1 && o2 == o2) = true := by simp
          go_wp2_with (at_lookup; refine wpList_look rfl _ _ 26 rfl _ _ _ rfl rfl QQ.out ?_)
          go_roundw
          case rel => exact ⟨i + 1, by omega, by go_num, UF.out⟩
          case measure => simp [intOf]; omega
        ·
          go_wp2_with fail
          refine (works_ok _).mono ?_; rintro e w10 ⟨rfl, u10⟩
          go_wp2_with fail
          go_ret
          exact ⟨rfl, (U9.out.trans hup).trans u10⟩

theorem again_fr (w : World) (size : Int) (hsz : (Lit.int .u8 size).wf = true) (v : Value) (css : List (List Value)) (hv : Recs w v 2 css ∧ ∀ cs ∈ css, IsMv cs) (a : Int) (ha : (Lit.int .u8 a).wf = true) (o : Int) (ho : (Lit.int .u8 o).wf = true) :
    Calls Try.prog 7 #[.int .u8 size, v, .int .u8 a, .int .u8 o] w fun e w' => e = .returned (.bool true) ∧ Upd [] w w' := by
  obtain ⟨h0, h1⟩ := wf_u8 hsz
  obtain ⟨n, rfl⟩ := Int.eq_ofNat_of_zero_le h0
  obtain ⟨h2, h3⟩ := wf_u8 ha
  obtain ⟨a, rfl⟩ := Int.eq_ofNat_of_zero_le h2
  obtain ⟨h4, h5⟩ := wf_u8 ho
  obtain ⟨o, rfl⟩ := Int.eq_ofNat_of_zero_le h4
  exact again_ok (n + 1) (by omega) (by omega) a o (by omega) (by omega) v css w hv.1 hv.2

end Go.Proofs.Ytlndkmejmolnhaa
