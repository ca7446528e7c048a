/-
  What 'played' returns: a table behind moves, and what its ids watch. Conditions: none.
-/
import Derived.Test.YtlndkmejmolnhaaPhPlay
import Derived.Deep.DeepCutAuto
import Derived.Deep.CutBlock
namespace Go.Proofs.Ytlndkmejmolnhaa
open Go.RowKit Go.Maps

theorem clrS_eq {s : Pt} (ho : s.ok) {i : Nat} : s.clrS i = s.set i none := by
  unfold Pt.clrS
  rw [ofI_nat ho]
  split
  · rfl
  · rename_i h
    have hg : s.g i = none := by cases hx : s.g i <;> simp [hx] at h ⊢
    rw [Pt.set, setG_none hg]
def PlayedPost (N : Nat) (w : World) (e : Ending) (w' : World) : Prop :=
  ∃ (b m n h k : Nat) (s : Pt), e = .returned (.tuple #[.pointer (some ⟨b, 0, none⟩), .map (some h), .bool true]) ∧ PlAt w' b m n h k s ∧ s.size = N ∧ (w.heap.size ≤ b ∧ w.heap.size ≤ m ∧ w.heap.size ≤ n ∧ w.heap.size ≤ h) ∧ Upd [] w w'
set_option maxRecDepth 100000 in
set_option maxHeartbeats 4000000 in
theorem played_ok (N : Nat) (hN1 : 1 ≤ N) (hN2 : N ≤ 256) (v : Value) (css : List (List Value)) (w : World) (hv : Recs w v 2 css) (hF : ∀ cs ∈ css, IsMv cs) :
    Calls Try.prog 17 #[.int .u8 ((N - 1 : Nat) : Int), v] w (PlayedPost N w) := by
  have HV := Lib.hid hv
  obtain ⟨a, cap, rfl, hcc, hcm, hnil, -, hcells⟩ := hv
  have hm : cap ≤ 9223372036854775807 := by unfold maxLen at hcm; omega
  have HF := Lib.hid hF; clear hF
  obtain ⟨K, hK⟩ : ∃ K, min css.length 100 = K := ⟨_, rfl⟩
  have hKl : K ≤ css.length := by omega
  have hmin1 : min (css.length : Int) 100 = (K : Int) := by omega
  have hmin2 : max (K : Int) 0 = (K : Int) := by omega
  have hw1 : IntKind.i64.wrap (1 + ((N - 1 : Nat) : Int)) = 1 + ((N - 1 : Nat) : Int) := IntWalk.i64_in _ (by omega)
  have hNe : 1 + ((N - 1 : Nat) : Int) = (N : Int) := by omega
  have HE := Lib.hid hNe; clear hNe hK
  have hmm := @run_makeMap Try.prog
  unfold PlayedPost
  have hcp : css = [] ∨ ∃ ab off, a = some ⟨ab, off, none⟩ ∧ cap ≠ 0 := by
    rcases hcells with h | ⟨b, off, ha, _, _⟩
    · exact .inl h
    · by_cases h0 : css = []
      · exact .inl h0
      · exact .inr ⟨b, off, ha, by have := List.length_pos_iff.2 h0; omega⟩
  clear hcells hnil
  rcases hcp with rfl | ⟨ab, off, rfl, hc0⟩
  · obtain rfl : K = 0 := by simpa using hKl
    clear HV HF hcc hcm hKl
    go_enter Try.func17, Try.ntmps17
    go_wp2_with fail
    rw [HE.out]
    refine (pnew_ok N _ hN1 hN2).mono ?_; rintro e w1 ⟨rfl, a1, u1⟩
    obtain ⟨b, hb⟩ : ∃ b, b = w.heap.size + 2 := ⟨_, rfl⟩
    obtain ⟨m, hm1⟩ : ∃ m, m = w.heap.size := ⟨_, rfl⟩
    obtain ⟨n, hn⟩ : ∃ n, n = w.heap.size + 1 := ⟨_, rfl⟩
    rw [← hb, ← hn, ← hm1] at a1
    rw [← hb]
    have hb' : w.heap.size ≤ b := by omega
    have hm' : w.heap.size ≤ m := by omega
    have hn' : w.heap.size ≤ n := by omega
    clear hb hm1 hn
    go_wp2_with fail
    have p0 : PlAt ((w1.alloc (.map #[] 0)).alloc (.map #[] 0)) b m n w1.heap.size (w1.heap.size + 1) ⟨N, fun _ => none⟩ := by
      have u2 : Upd [] w1 ((w1.alloc (.map #[] 0)).alloc (.map #[] 0)) := ((Upd.refl _ _).alloc _).alloc _
      have hm2 := a1.ltm
      have hn2 := a1.ltn
      refine ⟨a1.upd0 u2, (hasAt_new w1).upd ((Upd.refl [] _).alloc _) (by simp), ?_, ⟨by omega, by omega, by omega, by omega, by omega⟩, by simp⟩
      have := byAt_new (w1.alloc (.map #[] 0))
      rwa [World.size_alloc] at this
    have up0 : Upd [] w ((w1.alloc (.map #[] 0)).alloc (.map #[] 0)) := (u1.alloc _).alloc _
    have hh' : w.heap.size ≤ w1.heap.size := u1.size
    have hk' : w.heap.size ≤ w1.heap.size + 1 := by omega
    have P0 := Lib.hid p0
    have UP0 := Lib.hid up0
    clear p0 up0 u1 a1 hmm hw1 HE
    generalize (w1.alloc (.map #[] 0)).alloc (.map #[] 0) = w2 at *
    generalize w1.heap.size + 1 = k at *
    generalize w1.heap.size = h at *
    refine wp_loop_rounds 1 ?_
    rw [rounds_succ]
    go_wp2
    go_ret3
    exact ⟨b, m, n, h, k, _, rfl, P0.out, rfl, ⟨hb', hm', hn', hh'⟩, UP0.out⟩
  · go_enter Try.func17, Try.ntmps17
    go_wp2_with fail
    rw [HE.out]
    refine (pnew_ok N _ hN1 hN2).mono ?_; rintro e w1 ⟨rfl, a1, u1⟩
    obtain ⟨b, hb⟩ : ∃ b, b = w.heap.size + 2 := ⟨_, rfl⟩
    obtain ⟨m, hm1⟩ : ∃ m, m = w.heap.size := ⟨_, rfl⟩
    obtain ⟨n, hn⟩ : ∃ n, n = w.heap.size + 1 := ⟨_, rfl⟩
    rw [← hb, ← hn, ← hm1] at a1
    rw [← hb]
    have hb' : w.heap.size ≤ b := by omega
    have hm' : w.heap.size ≤ m := by omega
    have hn' : w.heap.size ≤ n := by omega
    clear hb hm1 hn
    go_wp2_with fail
    have p0 : PlAt ((w1.alloc (.map #[] 0)).alloc (.map #[] 0)) b m n w1.heap.size (w1.heap.size + 1) ⟨N, fun _ => none⟩ := by
      have u2 : Upd [] w1 ((w1.alloc (.map #[] 0)).alloc (.map #[] 0)) := ((Upd.refl _ _).alloc _).alloc _
      have hm2 := a1.ltm
      have hn2 := a1.ltn
      refine ⟨a1.upd0 u2, (hasAt_new w1).upd ((Upd.refl [] _).alloc _) (by simp), ?_, ⟨by omega, by omega, by omega, by omega, by omega⟩, by simp⟩
      have := byAt_new (w1.alloc (.map #[] 0))
      rwa [World.size_alloc] at this
    have up0 : Upd [] w ((w1.alloc (.map #[] 0)).alloc (.map #[] 0)) := (u1.alloc _).alloc _
    have hh' : w.heap.size ≤ w1.heap.size := u1.size
    have hk' : w.heap.size ≤ w1.heap.size + 1 := by omega
    have P0 := Lib.hid p0
    have UP0 := Lib.hid up0
    clear p0 up0 u1 a1 hmm hmin1 hmin2 hw1 HE
    generalize (w1.alloc (.map #[] 0)).alloc (.map #[] 0) = w2 at *
    generalize w1.heap.size + 1 = k at *
    generalize w1.heap.size = h at *
    go_loopw [41] (fun x wr => ∃ (i : Nat) (s : Pt), i ≤ K ∧ x = .int .i64 i ∧ PlAt wr b m n h k s ∧ s.size = N ∧ Upd [] w wr) (fun x _ => K - (intOf x).toNat)
    case atStart => exact ⟨0, _, by omega, rfl, P0.out, rfl, UP0.out⟩
    case round =>
      clear P0 UP0
      obtain ⟨i, s, hi, rfl, hp, hsN, hup⟩ := hrel
      by_cases hlt : i < K
      · obtain ⟨g, o', e, hab, -, hat⟩ := HV.out.at (show i < css.length by omega)
        simp only [Option.some.injEq, Addr.mk.injEq, and_true] at e
        obtain ⟨rfl, rfl⟩ := e
        obtain ⟨av, o, hcs, hav, ho⟩ := HF.out _ (List.getElem_mem (show i < css.length by omega))
        have hc1 : wr.cell? ⟨ab, off + i * 2, none⟩ = some (.int .u8 (av : Int)) := (hup.cell (p := ⟨ab, off + i * 2, none⟩) hab (by simp)).trans (hat 0 _ (by rw [hcs]; rfl))
        have hc2 : wr.cell? ⟨ab, off + i * 2 + 1, none⟩ = some (.int .u8 (o : Int)) := (hup.cell (p := ⟨ab, off + i * 2 + 1, none⟩) hab (by simp)).trans (hat 1 _ (by rw [hcs]; rfl))
        obtain ⟨jd, hjd⟩ : ∃ jd, av % N = jd := ⟨_, rfl⟩
        have hmod : Int.tmod (av : Int) (N : Int) = (jd : Int) := by rw [Int.tmod_eq_emod_of_nonneg (by omega), ← hjd]; rfl
        have hJN : jd < N := by rw [← hjd]; exact Nat.mod_lt _ hN1
        have hN0 : ((N : Int) == 0) = false := by simp; omega
        have hav2 : (av : Int) < 256 := by omega
        have hz : (N : Int) ≠ 0 := by omega
        have hz1 : ¬ N = 0 := by omega
        have hz2 : (N == 0) = false := by simpa using hz1
        have hwJ : IntKind.i64.wrap (jd : Int) = jd := IntWalk.i64_in _ (by omega)
        have hwA : IntKind.i64.wrap (av : Int) = av := IntWalk.i64_in _ (by omega)
        clear hjd hat hcs
        have P := Lib.hid (hp.upd0 ((Upd.refl _ _).alloc (.cells #[.int .u8 (av : Int), .int .u8 (o : Int)] 69)))
        have UP := Lib.hid (hup.alloc (.cells #[.int .u8 (av : Int), .int .u8 (o : Int)] 69))
        have SN := Lib.hid hsN
        have hX := new_of wr (.cells #[.int .u8 (av : Int), .int .u8 (o : Int)] 69)
        clear hp hup hsN
        go_wp2_with fail
        generalize wr.alloc (.cells #[.int .u8 (av : Int), .int .u8 (o : Int)] 69) = V at *
        generalize wr.heap.size = X at *
        have x0 := cell_of hX 0
        have x1 := cell_of hX 1
        have HX := Lib.hid hX
        have hXl := lt_of_block hX
        have hXn : ¬ (V.heap.size = X) := by omega
        have hXn2 : ¬ (X = V.heap.size) := by omega
        clear hX hc1 hc2
        have zR := zeroR
        go_cut [14, 15] (fun x14 x15 wx => ∃ Y, x14 = .int .i64 jd ∧ x15 = .pointer (some ⟨Y, 0, none⟩) ∧ wx.heap[Y]? = some (.cells #[.int .i64 (objR o).1, .int .u32 (objR o).2] 24 (0, 0)) ∧ Upd [] V wx)
        case first =>
          go_region_held3 (fun w' => w'.cell? ⟨X, 0, none⟩ = some (.int .u8 (av : Int)) ∧ w'.cell? ⟨X, 1, none⟩ = some (.int .u8 (o : Int))) (first | go_keep | exact ⟨x0, x1⟩) (first | (go_at_call 30; refine (object_at av o _ ho).mono ?_; rintro e w3 ⟨rfl, u3⟩; have u4 : Upd [] V w3 := (((Upd.refl _ _).alloc (.cells #[.int .i64 0, .int .u32 0] 24)).drew).trans u3; have hY := u3.keep (drew_of (new_of V (.cells #[.int .i64 0, .int .u32 0] 24))) (by simp); have hX3 := u4.keep HX.out (by simp); have x0 := cell_of hX3 0; have x1 := cell_of hX3 1; have y0 := cell_of hY 0; have y1 := cell_of hY 1; have yf0 : w3.frozen? ⟨V.heap.size, 0, none⟩ = false := free_of hY 0; have yf1 : w3.frozen? ⟨V.heap.size, 1, none⟩ = false := free_of hY 1) | (go_at_call 30; refine (object_at av o _ ho).mono ?_; rintro e w3 ⟨rfl, u3⟩; have u4 : Upd [] V w3 := ((Upd.refl _ _).drew).trans u3; have hX3 := u4.keep HX.out (by simp); have x0 := cell_of hX3 0; have x1 := cell_of hX3 1))
          all_goals
            go_wp2_with fail
            go_meet
            case rel =>
              first
              | exact ⟨_, rfl, rfl, new_of _ _, u4.alloc _⟩
              | exact ⟨_, rfl, rfl, set_of (set_of hY 0 _) 1 _, (u4.setNew (Nat.le_refl _) _).setNew (Nat.le_refl _) _⟩
        case rest =>
          obtain ⟨Y, rfl, rfl, hY, uc⟩ := hcut
          have p := P.out.upd0 uc
          have hX := uc.keep HX.out (by simp)
          have hi256 : jd < 256 := by omega
          have hsN := SN.out
          have hjs : jd < s.size := by omega
          have Q := p.has.look jd hi256
          obtain ⟨⟨o1, o2⟩, hold⟩ : ∃ x : Rf, (s.g jd).getD (0, 0) = x := ⟨_, rfl⟩
          obtain ⟨z, hzz⟩ : ∃ z, (s.g jd).isSome = z := ⟨_, rfl⟩
          rw [hold, hzz] at Q
          unfold refV at Q
          dsimp only at Q
          have uz : Upd [] wc (wc.alloc (.cells #[.int .i64 o1, .int .u32 o2] 24)) := (Upd.refl _ _).alloc _
          have PW := Lib.hid (p.upd0 uz)
          have UW := Lib.hid ((UP.out.trans uc).trans uz)
          have hZ := new_of wc (.cells #[.int .i64 o1, .int .u32 o2] 24)
          have hYW := uz.keep hY (by simp)
          have HYW := Lib.hid hYW
          have HZW := Lib.hid hZ
          have QQ := Lib.hid Q
          have HO := Lib.hid hold
          have x1' : wc.cell? ⟨X, 1, none⟩ = some (.int .u8 (o : Int)) := cell_of hX 1
          have y0 := cell_of hY 0
          have y1 := cell_of hY 1
          have hXl' := lt_of_block hX
          have hYl := lt_of_block hY
          clear Q hZ hYW uz uc hX hY x0 x1 hXn hXn2 hXl p hold
          by_cases hge : 128 ≤ o
          · have hge2 : (128 : Int) ≤ (o : Int) := by omega
            go_wp2_with (at_lookup; refine wpList_look rfl _ _ 26 rfl _ _ _ rfl rfl QQ.out ?_)
            have PT := PW.out.t
            have eR' : s.clrR jd = (o1, o2) := by unfold Pt.clrR; rw [ofI_nat PT.ok]; exact HO.out
            have eE' : s.clrE jd = if z then 0 else 5 := by unfold Pt.clrE; rw [if_pos ⟨by omega, by omega⟩, ofI_nat PT.ok, hzz]
            have ER := Lib.hid eR'
            have EE := Lib.hid eE'
            clear eR' eE' x1' y0 y1 hXl' hYl
            generalize hWe : wc.alloc (.cells #[.int .i64 o1, .int .u32 o2] 24) = W at *
            clear hWe
            generalize wc.heap.size = Z at *
            refine (pclr PT jd).mono ?_; rintro e w3 ⟨rfl, a3, u3⟩
            rw [ER.out, EE.out]
            rw [clrS_eq PT.ok] at a3
            have hZm := PW.out.notIn HZW.out
            have hZ3 := u3.keep HZW.out (by simp at hZm ⊢; exact ⟨hZm.1, hZm.2.1⟩)
            obtain ⟨n1, n2, n3, n4, n5⟩ := PW.out.ne
            have has3 := PW.out.has.upd u3 (by simp; exact ⟨n2, n3⟩)
            have by3 := PW.out.by_.upd u3 (by simp; exact ⟨n4, n5⟩)
            have ul : Upd [] w3 (w3.alloc (.cells #[.int .i64 o1, .int .u32 o2] 24)) := (Upd.refl _ _).alloc _
            obtain ⟨w5, hrun5, has5, u5⟩ := (has3.upd ul (by simp)).del jd hi256 0
            have by5 := (by3.upd ul (by simp)).upd u5 (by simpa using fun e : k = h => n1 e.symm)
            obtain ⟨w6, hrun6, by6, u6⟩ := by5.del PT.ok jd hi256 0
            rw [HO.out] at hrun6
            have hZ4 := ul.keep hZ3 (by simp)
            have hZ5 := u5.keep hZ4 (by simpa using fun e : Z = h => hZm (by simp [e]))
            have t6 := ((a3.upd0 ul).upd u5 (by simpa using (fun e : b = h => (has3.ne a3.blk) e)) (by simpa using fun e : m = h => n2 e.symm) (by simpa using fun e : n = h => n3 e.symm)).upd u6 (by simpa using (fun e : b = k => (by3.ne a3.blk) e)) (by simpa using fun e : m = k => n4 e.symm) (by simpa using fun e : n = k => n5 e.symm)
            have has6 := has5.upd u6 (by simpa using n1)
            have p6 : PlAt w6 b m n h k (s.set jd none) := ⟨t6, has6, by6, PW.out.ne, fun x r hx => by
              by_cases e : x = jd
              · subst e; simp [Pt.set, setG_same] at hx
              · exact PW.out.obj x r (by simpa [Pt.set, setG_other _ _ e] using hx)⟩
            have P6 := Lib.hid p6
            have uf : Upd [] w w6 := ((((UW.out.fresh2 u3 hm' hn').trans ul)).fresh1 u5 hh').fresh1 u6 hk'
            have UF := Lib.hid uf
            have H5 := Lib.hid hrun5
            have H6 := Lib.hid hrun6
            have zo0 := cell_of hZ3 0
            have zo1 := cell_of hZ3 1
            have zl := lt_of_block hZ3
            have zp0 := cell_of hZ5 0
            have zp1 := cell_of hZ5 1
            clear t6 has6 by6 has5 by5 has3 by3 p6 uf hrun5 hrun6 hZ3 hZ4 hZ5 u3 u5 u6 ul PT a3 hZm n1 n2 n3 n4 n5
            have nR := neR
            have gR := gdR
            have hb2 : (o1 == o1 && o2 == o2) = true := by simp
            cases z
            all_goals
              go_wp2_with (first | (at_delete; refine wpList_del rfl _ _ 26 3 rfl _ _ rfl rfl H5.out ?_) | (at_delete; refine wpList_del rfl _ _ 27 24 rfl _ _ rfl rfl H6.out ?_))
              go_roundw
              case rel => exact ⟨i + 1, _, by omega, by go_num, P6.out, hsN, UF.out⟩
              case measure => simp [intOf]; omega
          · have hge2 : (o : Int) < 128 := by omega
            have PT := PW.out.t
            have hgood := objR_good o
            have QB := Lib.hid (PW.out.by_.look PT.ok (objR o) hgood.wf)
            have eE' : s.addE jd (objR o) = if z = true ∨ (s.byI (objR o)).isSome = true then 6 else 0 := by unfold Pt.addE; rw [if_pos ⟨by omega, by omega⟩, if_pos hgood, ofI_nat PT.ok, hzz]
            obtain ⟨by_s, hby⟩ : ∃ q, s.byI (objR o) = q := ⟨_, rfl⟩
            rw [hby] at eE' QB
            have HBY := Lib.hid hby
            have EE := Lib.hid eE'
            have HZZ := Lib.hid hzz
            have HGD := Lib.hid hgood
            have zl := lt_of_block HZW.out
            have yl := lt_of_block HYW.out
            have ya0 := cell_of HYW.out 0
            have ya1 := cell_of HYW.out 1
            obtain ⟨q1, hq1⟩ : ∃ q, (by_s.getD 0) = q := ⟨_, rfl⟩
            obtain ⟨q2, hq2⟩ : ∃ q, by_s.isSome = q := ⟨_, rfl⟩
            rw [hq1, hq2] at QB
            rw [hq2] at EE
            have HQ2 := Lib.hid hq2
            clear eE' hby hzz hgood hq1 hq2
            have hdis : z = true ∨ (z = false ∧ q2 = true) ∨ (z = false ∧ q2 = false) := by cases z <;> cases q2 <;> simp
            rcases hdis with rfl | ⟨rfl, rfl⟩ | ⟨rfl, rfl⟩
            · have hE0 : s.addE jd (objR o) = 6 := by rw [EE.out]; simp
              have HE0 := Lib.hid hE0; clear hE0
              go_wp2_with (first | (at_lookup; refine wpList_look rfl _ _ 26 rfl _ _ _ rfl rfl QQ.out ?_) | (at_lookup; refine wpList_look rfl _ _ 27 rfl _ _ _ rfl rfl QB.out ?_))
              refine (padd PT jd (objR o) HGD.out.wf).mono ?_; rintro e w3 ⟨rfl, a3, u3⟩
              rw [HE0.out]
              rw [addS_no (by rw [HE0.out]; decide)] at a3
              obtain ⟨n1, n2, n3, n4, n5⟩ := PW.out.ne
              have P6 := Lib.hid (show PlAt w3 b m n h k s from ⟨a3, PW.out.has.upd u3 (by simp; exact ⟨n2, n3⟩), PW.out.by_.upd u3 (by simp; exact ⟨n4, n5⟩), PW.out.ne, PW.out.obj⟩)
              have UF := Lib.hid (UW.out.fresh2 u3 hm' hn')
              clear a3 u3 n1 n2 n3 n4 n5 PT
              go_wp2_with fail
              go_roundw
              case rel => exact ⟨i + 1, _, by omega, by go_num, P6.out, hsN, UF.out⟩
              case measure => simp [intOf]; omega
            · have hE0 : s.addE jd (objR o) = 6 := by rw [EE.out]; simp
              have HE0 := Lib.hid hE0; clear hE0
              go_wp2_with (first | (at_lookup; refine wpList_look rfl _ _ 26 rfl _ _ _ rfl rfl QQ.out ?_) | (at_lookup; refine wpList_look rfl _ _ 27 rfl _ _ _ rfl rfl QB.out ?_))
              refine (padd PT jd (objR o) HGD.out.wf).mono ?_; rintro e w3 ⟨rfl, a3, u3⟩
              rw [HE0.out]
              rw [addS_no (by rw [HE0.out]; decide)] at a3
              obtain ⟨n1, n2, n3, n4, n5⟩ := PW.out.ne
              have P6 := Lib.hid (show PlAt w3 b m n h k s from ⟨a3, PW.out.has.upd u3 (by simp; exact ⟨n2, n3⟩), PW.out.by_.upd u3 (by simp; exact ⟨n4, n5⟩), PW.out.ne, PW.out.obj⟩)
              have UF := Lib.hid (UW.out.fresh2 u3 hm' hn')
              clear a3 u3 n1 n2 n3 n4 n5 PT
              go_wp2_with fail
              go_roundw
              case rel => exact ⟨i + 1, _, by omega, by go_num, P6.out, hsN, UF.out⟩
              case measure => simp [intOf]; omega
            · have hE0 : s.addE jd (objR o) = 0 := by rw [EE.out]; simp
              have HE0 := Lib.hid hE0; clear hE0
              have hg0 : s.g jd = none := by have := HZZ.out; cases hx : s.g jd <;> simp [hx] at this ⊢
              have hb0 : s.byI (objR o) = none := by have h1 := HBY.out; have h2 := HQ2.out; rw [h1]; cases by_s <;> simp at h2 ⊢
              have hno := byI_none PT.ok hb0
              have HG0 := Lib.hid hg0; have HNO := Lib.hid hno
              clear hg0 hb0 hno
              go_wp2_with (first | (at_lookup; refine wpList_look rfl _ _ 26 rfl _ _ _ rfl rfl QQ.out ?_) | (at_lookup; refine wpList_look rfl _ _ 27 rfl _ _ _ rfl rfl QB.out ?_))
              refine (padd PT jd (objR o) HGD.out.wf).mono ?_; rintro e w3 ⟨rfl, a3, u3⟩
              rw [HE0.out]
              rw [addS_ok HE0.out, Int.toNat_natCast] at a3
              obtain ⟨n1, n2, n3, n4, n5⟩ := PW.out.ne
              have hYn := PW.out.notIn HYW.out
              have hY3 := u3.keep HYW.out (by simp at hYn ⊢; exact ⟨hYn.1, hYn.2.1⟩)
              have has3 := (PW.out.has.upd u3 (by simp; exact ⟨n2, n3⟩))
              have by3 := (PW.out.by_.upd u3 (by simp; exact ⟨n4, n5⟩))
              have ud : Upd [] w3 w3.drew := (Upd.refl _ _).drew
              obtain ⟨w5, hrun5, has5, u5⟩ := (has3.upd ud (by simp)).put jd (objR o) hi256
              have by5 := (by3.upd ud (by simp)).upd u5 (by simpa using fun e : k = h => n1 e.symm)
              obtain ⟨w6, hrun6, by6, u6⟩ := by5.put PT.ok jd (objR o) hi256 HGD.out.wf HG0.out HNO.out
              have hY5 := u5.keep (drew_of hY3) (by simpa using fun e : Y = h => hYn (by simp [e]))
              have t6 := ((a3.upd0 ud).upd u5 (by simpa using (fun e : b = h => (has3.ne a3.blk) e)) (by simpa using fun e : m = h => n2 e.symm) (by simpa using fun e : n = h => n3 e.symm)).upd u6 (by simpa using (fun e : b = k => (by3.ne a3.blk) e)) (by simpa using fun e : m = k => n4 e.symm) (by simpa using fun e : n = k => n5 e.symm)
              have has6 := has5.upd u6 (by simpa using n1)
              have p6 : PlAt w6 b m n h k (s.set jd (some (objR o))) := ⟨t6, has6, by6, PW.out.ne, fun x r hx => by
                by_cases e : x = jd
                · subst e
                  simp only [Pt.set, setG_same, Option.some.injEq] at hx
                  exact ⟨o, ho, hx.symm⟩
                · exact PW.out.obj x r (by simpa [Pt.set, setG_other _ _ e] using hx)⟩
              have P6 := Lib.hid p6
              have UF := Lib.hid ((((UW.out.fresh2 u3 hm' hn').trans ud).fresh1 u5 hh').fresh1 u6 hk')
              have ga0 := cell_of hY3 0
              have ga1 := cell_of hY3 1
              have gl := lt_of_block hY3
              have gb0 := cell_of hY5 0
              have gb1 := cell_of hY5 1
              have gl5 := lt_of_block hY5
              clear t6 has6 by6 has5 by5 has3 by3 p6 hY3 hY5 u3 u5 u6 ud PT a3 hYn n1 n2 n3 n4 n5 ya0 ya1 yl zl
              go_wp2_with fail
              go_region
              all_goals
                go_wp2_with fail
                go_roundw
                case rel => exact ⟨i + 1, _, by omega, by go_num, P6.out, hsN, UF.out⟩
                case measure => simp [intOf]; omega
      · go_wp2
        go_ret3
        exact ⟨b, m, n, h, k, s, rfl, hp, hsN, ⟨hb', hm', hn', hh'⟩, hup⟩

end Go.Proofs.Ytlndkmejmolnhaa
