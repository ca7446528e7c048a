/-
  PhantomStays: refused calls, and changes of what was returned, change nothing; a copy goes on alone. Conditions: none.
-/
import Derived.Test.YtlndkmejmolnhaaPhClear
import Derived.Deep.DeepCutAuto
import Derived.Deep.CutBlock
namespace Go.Proofs.Ytlndkmejmolnhaa
open Go.RowKit Go.Maps

/-- The first few ids watch nothing any more. -/
def clrTo (g : Nat → Option Rf) (i : Nat) : Nat → Option Rf := fun x => if (x : Int) ∈ (idsG g).take i then none else g x
theorem clrTo_zero (g : Nat → Option Rf) : clrTo g 0 = g := by funext x; simp [clrTo]
theorem clrTo_all {g : Nat → Option Rf} (h : ∀ x, 256 ≤ x → g x = none) : clrTo g (idsG g).length = fun _ => none := by
  funext x
  unfold clrTo
  rw [List.take_length]
  split
  · rfl
  · rename_i hx
    by_cases h2 : x < 256
    · cases hg : g x with
      | none => rfl
      | some r => exact absurd ((idsG_mem g _).2 ⟨x, h2, by rw [hg]; rfl, rfl⟩) hx
    · exact h x (by omega)
theorem clrTo_succ {g : Nat → Option Rf} {i j : Nat} (hi : i < (idsG g).length) (hj : (idsG g)[i] = (j : Int)) : clrTo g (i + 1) = setG (clrTo g i) j none := by
  funext x
  unfold clrTo setG
  rw [List.take_succ_eq_append_getElem hi, hj]
  by_cases e : x = j
  · subst e; simp
  · rw [if_neg e]
    have : ¬ ((x : Int) = (j : Int)) := by omega
    simp [this]
theorem clrTo_at {g : Nat → Option Rf} {i j : Nat} (hi : i < (idsG g).length) (hj : (idsG g)[i] = (j : Int)) : clrTo g i j = g j := by
  unfold clrTo
  rw [if_neg]
  intro hm
  obtain ⟨k, hk, he⟩ := List.mem_iff_getElem.1 hm
  rw [List.length_take] at hk
  rw [List.getElem_take] at he
  have := List.pairwise_iff_getElem.1 (idsG_rising g) k i (by omega) hi (by omega)
  omega
theorem ids_single {i : Nat} (hi : i < 256) (r : Rf) : idsG (setG (fun _ => none) i (some r)) = [(i : Int)] := by
  refine rising_eq _ _ (idsG_rising _) (by simp) fun x => ?_
  rw [idsG_mem]
  constructor
  · rintro ⟨j, -, h2, rfl⟩
    by_cases e : j = i
    · subst e; simp
    · rw [setG_other _ _ e] at h2; simp at h2
  · intro hx
    simp at hx
    exact ⟨i, hi, by rw [setG_same]; rfl, hx⟩
theorem clrS_out {s : Pt} {id : Int} (h : ¬ (0 ≤ id ∧ id < s.size)) : s.clrS id = s := by
  unfold Pt.clrS Pt.ofI
  rw [if_neg h]; rfl
theorem clrE_out {s : Pt} {id : Int} (h : ¬ (0 ≤ id ∧ id < s.size)) : s.clrE id = 3 := by unfold Pt.clrE; rw [if_neg h]
theorem addE_out {s : Pt} {id : Int} {r : Rf} (h : ¬ (0 ≤ id ∧ id < s.size)) : s.addE id r = 3 := by unfold Pt.addE; rw [if_neg h]
theorem addE_bad {s : Pt} {id : Int} {r : Rf} (h : 0 ≤ id ∧ id < s.size) (hr : ¬ goodR r) : s.addE id r = 2 := by unfold Pt.addE; rw [if_pos h, if_neg hr]
def rgood : Rf := (200, 9)
theorem wgood : refWf rgood := ⟨by decide, by decide⟩
theorem rgood_not (r : Rf) (h : ObjR r) : r ≠ rgood := by
  obtain ⟨o, ho, rfl⟩ := h
  unfold objR rgood
  intro e
  simp only [Prod.mk.injEq] at e
  omega

set_option maxRecDepth 100000 in
set_option maxHeartbeats 16000000 in
theorem stays_ok (N : Nat) (hN1 : 1 ≤ N) (hN2 : N ≤ 256) (a f : Nat) (ha : a < 256) (hf : f < 65536) (v : Value) (css : List (List Value)) (w : World) (hv : Recs w v 2 css) (hF : ∀ cs ∈ css, IsMv cs) :
    Calls Try.prog 4 #[.int .u8 ((N - 1 : Nat) : Int), v, .int .u8 (a : Int), .int .u16 (f : Int)] w fun e w' => e = .returned (.bool true) ∧ Upd [] w w' := by
  have hp := played_ok N hN1 hN2 v css w hv hF
  have HP := Lib.hid hp
  clear hp hv hF
  have hw1 : IntKind.i64.wrap (1 + ((N - 1 : Nat) : Int)) = 1 + ((N - 1 : Nat) : Int) := IntWalk.i64_in _ (by omega)
  have hNe : 1 + ((N - 1 : Nat) : Int) = (N : Int) := by omega
  have hwA : IntKind.i64.wrap ((N : Int) + (f : Int)) = (N : Int) + f := IntWalk.i64_in _ (by omega)
  have hwB : IntKind.i64.wrap (-1 - (f : Int)) = -1 - (f : Int) := IntWalk.i64_in _ (by omega)
  have hwC : IntKind.i64.wrap (256 + (f : Int)) = 256 + (f : Int) := IntWalk.i64_in _ (by omega)
  have hwD : IntKind.i64.wrap (257 + (f : Int)) = 257 + (f : Int) := IntWalk.i64_in _ (by omega)
  have hwE : IntKind.i64.wrap (-(f : Int)) = -(f : Int) := IntWalk.i64_in _ (by omega)
  have hwF : IntKind.i64.wrap ((N : Int) - 1) = (N : Int) - 1 := IntWalk.i64_in _ (by omega)
  obtain ⟨d, hd⟩ : ∃ d : Int, Int.tmod (a : Int) 6 = d := ⟨_, rfl⟩
  have hd6 : d = 0 ∨ d = 1 ∨ d = 2 ∨ d = 3 ∨ d = 4 ∨ d = 5 := by
    rw [Int.tmod_eq_emod_of_nonneg (by omega)] at hd
    omega
  have HD6 := Lib.hid hd6; clear hd6
  have zR := zeroR
  go_enter Try.func4, Try.ntmps4
  go_wp2_with fail
  refine HP.out.mono ?_; rintro e w1 ⟨b, m, n, h, k, s, rfl, p, hsN, ⟨hb', hm', hn', hh'⟩, u1⟩
  have P1 := Lib.hid (p.upd0 ((Upd.refl _ _).alloc (.cells #[.int .i64 200, .int .u32 9] 24)))
  have U1 := Lib.hid (u1.alloc (.cells #[.int .i64 200, .int .u32 9] 24))
  have hG := new_of w1 (.cells #[.int .i64 200, .int .u32 9] 24)
  have HG := Lib.hid hG
  have SN := Lib.hid hsN
  clear p u1 hG hsN
  go_upto_block 0 with fail
  generalize w1.alloc (.cells #[.int .i64 200, .int .u32 9] 24) = W at *
  generalize w1.heap.size = G at *
  have g0 := cell_of HG.out 0
  have g1 := cell_of HG.out 1
  have gl := lt_of_block HG.out
  go_cut [14, 15] (fun x y wx => ∃ ev : Int, x = .int .i64 ev ∧ y = .int .i64 ev ∧ PlAt wx b m n h k s ∧ wx.heap[G]? = some (.cells #[.int .i64 200, .int .u32 9] 24 (0, 0)) ∧ Upd [] w wx)
  case first =>
    have hsz := SN.out
    have KEEP := Lib.hid (show ∀ w3, PtAt w3 b m n s → Upd [m, n] W w3 → PlAt w3 b m n h k s ∧ w3.heap[G]? = some (.cells #[.int .i64 200, .int .u32 9] 24 (0, 0)) ∧ Upd [] w w3 from fun w3 t u => by
      obtain ⟨n1, n2, n3, n4, n5⟩ := P1.out.ne
      have hgm := P1.out.notIn HG.out
      exact ⟨⟨t, P1.out.has.upd u (by simp; exact ⟨n2, n3⟩), P1.out.by_.upd u (by simp; exact ⟨n4, n5⟩), P1.out.ne, P1.out.obj⟩, u.keep HG.out (by simp at hgm ⊢; exact ⟨hgm.1, hgm.2.1⟩), U1.out.fresh2 u hm' hn'⟩)
    rcases HD6.out with rfl | rfl | rfl | rfl | rfl | rfl
    · go_wp2_with fail
      have hE : s.addE ((N : Int) + f) (200, 9) = 3 := addE_out (by omega)
      refine (padd P1.out.t ((N : Int) + f) (200, 9) ⟨by decide, by decide⟩).mono ?_; rintro e w3 ⟨rfl, t3, u3⟩
      rw [hE]
      rw [addS_no (by rw [hE]; decide)] at t3
      have K3 := Lib.hid (KEEP.out _ t3 u3)
      clear t3 u3 hE
      go_wp2_with fail
      go_meet
      case rel => exact ⟨_, rfl, rfl, K3.out⟩
    · go_wp2_with fail
      have hE : s.addE (-1 - (f : Int)) (0, 0) = 3 := addE_out (by omega)
      refine (padd P1.out.t (-1 - (f : Int)) (0, 0) ⟨by decide, by decide⟩).mono ?_; rintro e w3 ⟨rfl, t3, u3⟩
      rw [hE]
      rw [addS_no (by rw [hE]; decide)] at t3
      have K3 := Lib.hid (KEEP.out _ t3 u3)
      clear t3 u3 hE
      go_wp2_with fail
      go_meet
      case rel => exact ⟨_, rfl, rfl, K3.out⟩
    · go_wp2_with fail
      have hE : s.addE (0) (5, 0) = 2 := addE_bad ⟨by omega, by omega⟩ (by decide)
      refine (padd P1.out.t (0) (5, 0) ⟨by decide, by decide⟩).mono ?_; rintro e w3 ⟨rfl, t3, u3⟩
      rw [hE]
      rw [addS_no (by rw [hE]; decide)] at t3
      have K3 := Lib.hid (KEEP.out _ t3 u3)
      clear t3 u3 hE
      go_wp2_with fail
      go_meet
      case rel => exact ⟨_, rfl, rfl, K3.out⟩
    · go_wp2_with fail
      have hE : s.addE (0) (256 + (f : Int), 1) = 2 := addE_bad ⟨by omega, by omega⟩ (by unfold goodR; dsimp only; omega)
      refine (padd P1.out.t (0) (256 + (f : Int), 1) ⟨WalkArith.wf_i64 (by dsimp only; omega), by show (Lit.int .u32 1).wf = true; decide⟩).mono ?_; rintro e w3 ⟨rfl, t3, u3⟩
      rw [hE]
      rw [addS_no (by rw [hE]; decide)] at t3
      have K3 := Lib.hid (KEEP.out _ t3 u3)
      clear t3 u3 hE
      go_wp2_with fail
      go_meet
      case rel => exact ⟨_, rfl, rfl, K3.out⟩
    · go_wp2_with fail
      have hE : s.addE (0) (-1 - (f : Int), 1) = 2 := addE_bad ⟨by omega, by omega⟩ (by unfold goodR; dsimp only; omega)
      refine (padd P1.out.t (0) (-1 - (f : Int), 1) ⟨WalkArith.wf_i64 (by dsimp only; omega), by show (Lit.int .u32 1).wf = true; decide⟩).mono ?_; rintro e w3 ⟨rfl, t3, u3⟩
      rw [hE]
      rw [addS_no (by rw [hE]; decide)] at t3
      have K3 := Lib.hid (KEEP.out _ t3 u3)
      clear t3 u3 hE
      go_wp2_with fail
      go_meet
      case rel => exact ⟨_, rfl, rfl, K3.out⟩
    · go_wp2_with fail
      have hE : s.clrE ((N : Int) + f) = 3 := clrE_out (by omega)
      have hS : s.clrS ((N : Int) + f) = s := clrS_out (by omega)
      refine (pclr P1.out.t ((N : Int) + f)).mono ?_; rintro e w3 ⟨rfl, t3, u3⟩
      rw [hE]
      rw [hS] at t3
      have K3 := Lib.hid (KEEP.out _ t3 u3)
      clear t3 u3 hE hS
      go_wp2_with fail
      go_meet
      case rel => exact ⟨_, rfl, rfl, K3.out⟩
  case rest =>
    clear g0 g1 gl HP
    obtain ⟨ev, rfl, rfl, p, hG, u⟩ := hcut
    have hof : s.ofI ((N : Int) + f) = none := by unfold Pt.ofI; have := SN.out; rw [if_neg (by omega)]
    go_wp2_with fail
    have hpo := pof p.t ((N : Int) + f) (WalkArith.wf_i64 (by omega))
    rw [hof] at hpo
    refine hpo.mono ?_; rintro e w2 ⟨rfl, u2⟩
    unfold refV
    dsimp only [Option.getD_none, Option.isSome_none]
    have ul := u2.alloc (.cells #[.int .i64 0, .int .u32 0] 24)
    have p2 := p.upd0 ul
    have hG2 := ul.keep hG (by simp)
    have up2 := u.trans ul
    clear hpo u2 ul p hG u hof
    go_wp2_with fail
    refine (pids p2.t).mono ?_; rintro e w3 ⟨vi, rfl, hown, u3⟩
    obtain ⟨w4, hrun4, u4⟩ := clear_own hown u3 0
    have p4 := p2.upd0 u4
    have hG4 := u4.keep hG2 (by simp)
    have up4 := up2.trans u4
    have H4 := Lib.hid hrun4
    clear hown u3 u4 p2 hG2 up2 hrun4
    go_wp2_with fail
    rw [H4.out]
    simp only [Result.andThen]
    rw [Oper.upon_value]
    go_wp2_with fail
    refine (pcopy p4.t).mono ?_; rintro e w5 ⟨b2, m2, n2, rfl, t5, u5, hb2, hm2, hn2⟩
    have P4 := Lib.hid p4
    have UP4 := Lib.hid up4
    have HG4 := Lib.hid hG4
    have T5 := Lib.hid t5
    clear p4 up4 hG4 t5
    go_wp2_with fail
    refine (pids T5.out).mono ?_; rintro e w6 ⟨vj, rfl, hown6, u6⟩
    have hI : Ints w6 vj (idsG s.g) := Ints.ofOwn hown6
    have hown6' := hown6
    obtain ⟨L, hL⟩ : ∃ L, idsG s.g = L := ⟨_, rfl⟩
    have hle : L.length ≤ 256 := by rw [← hL, idsG_length]; exact cardG_le _
    rw [hL] at hI hown6
    have HL := Lib.hid hL
    obtain ⟨va, vc, rfl, hvc1, hvc2⟩ := hI.form
    have HI := Lib.hid hI
    have T6 := Lib.hid (T5.out.upd0 u6)
    have U6 := Lib.hid (u5.trans u6)
    have V6 := Lib.hid u6
    clear hL hI hown6 hown6' u5 u6
    go_wp2_with fail
    go_loopw [118] (fun x wr => ∃ i : Nat, i ≤ L.length ∧ x = .int .i64 i ∧ PtAt wr b2 m2 n2 ⟨N, clrTo s.g i⟩ ∧ Upd [] w4 wr ∧ Upd [m2, n2] w6 wr) (fun x _ => L.length - (intOf x).toNat)
    case atStart =>
      refine ⟨0, by omega, rfl, ?_, U6.out, Upd.refl _ _⟩
      rw [clrTo_zero, ← SN.out]
      exact T6.out
    case round =>
      obtain ⟨i, hi, rfl, ht, hup4, hup6⟩ := hrel
      by_cases hlt : i < L.length
      · have hIw := SlAt.upd HI.out hup6 (fun x hx c hc => by
          obtain ⟨_, _, _, D, E, ⟨es, cl, h1, _⟩, ⟨es', cl', h2, _⟩, _⟩ := T6.out
          simp at hx
          rcases hx with rfl | rfl
          · rw [hc] at h1; cases h1
          · rw [hc] at h2; cases h2)
        obtain ⟨g, off, rfl, hg, _, hcell⟩ := Ints.at (w := wr) (l := L) hIw hlt
        have hmem : L[i] ∈ idsG s.g := by rw [HL.out]; exact List.getElem_mem hlt
        obtain ⟨j, hj, hjs, hje⟩ := (idsG_mem s.g _).1 hmem
        rw [hje] at hcell
        have hlt' : i < (idsG s.g).length := by rw [HL.out]; exact hlt
        have hje' : (idsG s.g)[i] = (j : Int) := by rw [← hje]; simp only [HL.out]
        have hat := clrTo_at hlt' hje'
        have hsu := clrTo_succ hlt' hje'
        obtain ⟨r, hr⟩ := Option.isSome_iff_exists.1 hjs
        rw [hr] at hat
        have hjN := (ht.ok.good j r hat).1
        have e1 : (Pt.mk N (clrTo s.g i)).clrE j = 0 := by unfold Pt.clrE; rw [if_pos ⟨by omega, by show (j : Int) < (N : Int); dsimp only at hjN; omega⟩, ofI_nat ht.ok]; show (if (clrTo s.g i j).isSome = true then (0 : Int) else 5) = 0; rw [hat]; rfl
        have hcl := pclr ht (j : Int)
        rw [e1, clrS_eq ht.ok] at hcl
        have e2 : (Pt.mk N (clrTo s.g i)).set j none = ⟨N, clrTo s.g (i + 1)⟩ := by rw [hsu]; rfl
        rw [e2] at hcl
        obtain ⟨⟨o1, o2⟩, hor⟩ : ∃ x : Rf, (Pt.mk N (clrTo s.g i)).clrR j = x := ⟨_, rfl⟩
        rw [hor] at hcl
        have HCL := Lib.hid hcl
        have A4 := Lib.hid hup4
        have A6 := Lib.hid hup6
        clear hcl e1 e2 hor hsu hat hr hjs hje hje' hlt' hmem hIw hup4 hup6 ht
        go_wp2_with fail
        refine HCL.out.mono ?_; rintro e w7 ⟨rfl, t7, u7⟩
        have T7 := Lib.hid (t7.upd0 ((Upd.refl _ _).alloc (.cells #[.int .i64 o1, .int .u32 o2] 24)))
        have B4 := Lib.hid ((A4.out.fresh2 u7 hm2 hn2).alloc (.cells #[.int .i64 o1, .int .u32 o2] 24))
        have B6 := Lib.hid ((A6.out.trans u7).alloc (.cells #[.int .i64 o1, .int .u32 o2] 24))
        clear t7 u7
        go_wp2_with fail
        go_roundw
        case rel => exact ⟨i + 1, by omega, by go_num, T7.out, B4.out, B6.out⟩
        case measure => simp [intOf]; omega
      · obtain rfl : i = L.length := by omega
        have hall : clrTo s.g L.length = fun _ => none := by
          rw [← HL.out]
          refine clrTo_all fun x hx => ?_
          cases hg : s.g x with
          | none => rfl
          | some r => have := (P4.out.t.ok.good x r hg).1; have := P4.out.t.ok.le; omega
        rw [hall] at ht
        have hG7 := hup4.keep HG4.out (by simp)
        have g0 := cell_of hG7 0
        have g1 := cell_of hG7 1
        have gl := lt_of_block hG7
        have hE0 : (Pt.mk N (fun _ => none)).addE ((N : Int) - 1) (200, 9) = 0 := by
          unfold Pt.addE
          rw [if_pos ⟨by omega, by show (N : Int) - 1 < (N : Int); omega⟩, if_pos (by decide), if_neg]
          have hb : (Pt.mk N (fun _ => none)).byI (200, 9) = none := by unfold Pt.byI; rw [List.find?_eq_none]; intro x _; simp
          rw [hb]
          unfold Pt.ofI
          simp
        have hpa := padd ht ((N : Int) - 1) (200, 9) ⟨by decide, by decide⟩
        unfold AddPost at hpa
        rw [hE0, addS_ok hE0, show ((N : Int) - 1).toNat = N - 1 from by omega] at hpa
        have HPA := Lib.hid hpa
        have HG7 := Lib.hid hG7
        have A4 := Lib.hid hup4
        clear hpa hE0 hall hup6 ht hG7 hup4
        go_wp2_with fail
        refine HPA.out.mono ?_; rintro e w8 ⟨rfl, t8, u8⟩
        have A8 := A4.out.fresh2 u8 hm2 hn2
        clear g0 g1 gl
        go_wp2_with fail
        refine (pids t8).mono ?_; rintro e w9 ⟨v9, rfl, o9, u9⟩
        have hs1 : idsG ((Pt.mk N (fun _ => none)).set (N - 1) (some ((200, 9) : Rf))).g = [(N : Int) - 1] := by
          have := ids_single (i := N - 1) (by omega) (200, 9)
          rw [show ((N - 1 : Nat) : Int) = (N : Int) - 1 from by omega] at this
          exact this
        rw [hs1] at o9
        have i9 : Ints w9 v9 [(N : Int) - 1] := Ints.ofOwn (l := [(N : Int) - 1]) o9
        have A9 := A8.trans u9
        obtain ⟨wa, wc', rfl, _, _⟩ := i9.form
        clear o9 hs1 u8 A8 t8 u9
        go_wp2_with fail
        have hl : Ints (w9.alloc (.cells #[.int .i64 ((N : Int) - 1)] 3)) (.slice (some ⟨w9.heap.size, 0, none⟩) 1 1) [(N : Int) - 1] := sl_lit w9 3 [.int .i64 ((N : Int) - 1)] (by simp [Value.oneCell']) (by simp)
        have u10 : Upd [] w9 (w9.alloc (.cells #[.int .i64 ((N : Int) - 1)] 3)) := (Upd.refl _ _).alloc _
        refine (equal_ok _ _ [(N : Int) - 1] _ (i9.upd0 u10) hl).mono ?_; rintro e w10 ⟨rfl, u11⟩
        have A10 := A9.trans (u10.trans u11)
        have PT := Lib.hid (P4.out.t.upd0 A10)
        have HT := Lib.hid (P4.out.has.upd A10 (by simp))
        have U10 := Lib.hid (UP4.out.trans A10)
        have HG10 := Lib.hid (A10.keep HG4.out (by simp))
        clear hl u10 u11 i9 A9 A10
        have nR := neR
        have gR := gdR
        go_wp2_with fail
        go_loopw [147] (fun x wr => ∃ i : Nat, i ≤ N ∧ x = .int .i64 i ∧ Upd [] w10 wr) (fun x _ => N - (intOf x).toNat)
        case atStart => exact ⟨0, by omega, rfl, Upd.refl _ _⟩
        case round =>
          obtain ⟨i, hi, rfl, hup⟩ := hrel
          by_cases hlt : i < N
          · have pr := PT.out.upd0 hup
            have hwi : (Lit.int .i64 (i : Int)).wf = true := WalkArith.wf_i64 (by omega)
            have hpo := pof pr (i : Int) hwi
            rw [ofI_nat pr.ok] at hpo
            have hh : HasAt wr h ((s).g) := HT.out.upd hup (by simp)
            obtain ⟨⟨o1, o2⟩, hold⟩ : ∃ x : Rf, ((s).g i).getD (0, 0) = x := ⟨_, rfl⟩
            obtain ⟨z, hz⟩ : ∃ z, ((s).g i).isSome = z := ⟨_, rfl⟩
            rw [hold, hz] at hpo
            unfold refV at hpo
            dsimp only at hpo
            have HPO := Lib.hid hpo
            have HUP := Lib.hid hup
            have HH := Lib.hid hh
            have HOLD := Lib.hid hold
            have HZ := Lib.hid hz
            clear hpo hup pr hh hold hz
            go_wp2_with fail
            refine HPO.out.mono ?_; rintro e w3 ⟨rfl, u3⟩
            have Q := ((HH.out.upd u3 (by simp)).upd ((Upd.refl [] _).alloc (.cells #[.int .i64 o1, .int .u32 o2] 24)) (by simp)).look i (by omega)
            rw [HOLD.out, HZ.out] at Q
            unfold refV at Q
            dsimp only at Q
            have QQ := Lib.hid Q
            have UF := Lib.hid (((HUP.out.trans u3).alloc (.cells #[.int .i64 o1, .int .u32 o2] 24)).alloc (.cells #[.int .i64 o1, .int .u32 o2] 24))
            clear Q u3
            have hb2 : (o1 == o1 && o2 == o2) = true := by simp
            go_wp2_with (at_lookup; refine wpList_look rfl _ _ 26 rfl _ _ _ rfl rfl QQ.out ?_)
            go_roundw
            case rel => exact ⟨i + 1, by omega, by go_num, UF.out⟩
            case measure => simp [intOf]; omega
          ·
            have hG11 := hup.keep HG10.out (by simp)
            have g0 := cell_of hG11 0
            have g1 := cell_of hG11 1
            have gl := lt_of_block hG11
            have hbn : s.byI (200, 9) = none := by
              cases hb : s.byI (200, 9) with
              | none => rfl
              | some x => exact absurd rfl (rgood_not _ (P4.out.obj x _ (byI_some hb)))
            have hpb := pby (PT.out.upd0 hup) (200, 9) ⟨by decide, by decide⟩
            rw [hbn] at hpb
            have HPB := Lib.hid hpb
            clear hpb hG11 hbn
            go_wp2_with fail
            refine HPB.out.mono ?_; rintro e w11 ⟨rfl, u11⟩
            dsimp only [Option.getD_none, Option.isSome_none]
            clear g0 g1 gl
            go_wp2_with fail
            refine (pnew_err (257 + (f : Int)) _ (by omega)).mono ?_; rintro e w12 ⟨rfl, rfl⟩
            go_wp2_with fail
            refine (pnew_err (-(f : Int)) _ (by omega)).mono ?_; rintro e w13 ⟨rfl, rfl⟩
            go_wp2_with fail
            refine (works_ok _).mono ?_; rintro e w14 ⟨rfl, u14⟩
            go_wp2_with fail
            go_ret
            exact ⟨rfl, ((U10.out.trans hup).trans u11).trans u14⟩

theorem stays_fr (w : World) (size : Int) (hsz : (Lit.int .u8 size).wf = true) (v : Value) (css : List (List Value)) (hv : Recs w v 2 css ∧ ∀ cs ∈ css, IsMv cs) (a : Int) (ha : (Lit.int .u8 a).wf = true) (f : Int) (hf : (Lit.int .u16 f).wf = true) :
    Calls Try.prog 4 #[.int .u8 size, v, .int .u8 a, .int .u16 f] w fun e w' => e = .returned (.bool true) ∧ Upd [] w w' := by
  obtain ⟨h0, h1⟩ := wf_u8 hsz
  obtain ⟨n, rfl⟩ := Int.eq_ofNat_of_zero_le h0
  obtain ⟨h2, h3⟩ := wf_u8 ha
  obtain ⟨a, rfl⟩ := Int.eq_ofNat_of_zero_le h2
  obtain ⟨h4, h5⟩ := bounds_u16 hf
  obtain ⟨f, rfl⟩ := Int.eq_ofNat_of_zero_le h4
  exact stays_ok (n + 1) (by omega) (by omega) a f (by omega) (by omega) v css w hv.1 hv.2

end Go.Proofs.Ytlndkmejmolnhaa
