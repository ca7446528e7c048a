/-
  RefqRoom: as many ids as there are places wait, and no more. Conditions: none.
-/
import Derived.Test.YtmbkjnjfipafmaaRfWk
import Derived.Test.YtmbkjnjfipafmaaArgs
namespace Go.Proofs.Ytmbkjnjfipafmaa
open Go.RowKit Go.Maps

/-- The object of an id. -/
def ro (i : Nat) : Rf := (255 - (i : Int), 9)
theorem ro_good {i : Nat} (h : i ≤ 64) : goodR (ro i) := by unfold goodR ro; dsimp only; omega
theorem ro_inj {i j : Nat} (h : ro i = ro j) : i = j := by
  have := congrArg Prod.fst h
  simp only [ro] at this
  omega
def lz (j : Nat) : List Int := (List.range j).map (fun x : Nat => (x : Int))
theorem lz_len (j : Nat) : (lz j).length = j := by simp [lz]
theorem lz_succ (j : Nat) : lz (j + 1) = lz j ++ [(j : Int)] := by simp [lz, List.range_succ]
theorem lz_mem {j : Nat} {x : Nat} : (x : Int) ∈ lz j ↔ x < j := by
  unfold lz
  rw [List.mem_map]
  exact ⟨fun ⟨a, h, e⟩ => by have := List.mem_range.1 h; omega, fun h => ⟨x, List.mem_range.2 h, rfl⟩⟩
/-- Behind j registered. -/
def Aq (k j : Nat) : Rs := ⟨256, 1 + k, fun x => if x < j then some (ro x) else none, []⟩
/-- Behind j found of those. -/
def Fq (k j : Nat) : Rs := ⟨256, 1 + k, fun x => if j ≤ x ∧ x < 2 + k then some (ro x) else none, lz j⟩
/-- The rest, with whatever waits. -/
def Xq (k : Nat) (l : List Int) : Rs := ⟨256, 1 + k, setG (fun _ => none) (1 + k) (some (ro (1 + k))), l⟩
def Yq (k : Nat) (l : List Int) : Rs := ⟨256, 1 + k, fun _ => none, l⟩
theorem byI_no {s : Rs} {r : Rf} (h : ∀ i, i < s.size → s.g i ≠ some r) : s.byI r = none := by
  unfold Rs.byI
  cases hb : s.pt.byI r with
  | none => rfl
  | some i =>
    have h1 := byI_some hb
    unfold Pt.byI at hb
    have h2 := List.mem_of_find?_eq_some hb
    exact absurd h1 (h i (by simpa [Rs.pt] using h2))
theorem aq_reg {k i : Nat} (hk : k < 64) (hi : i ≤ 1 + k) : (Aq k i).regE' (i : Int) (ro i) = 0 ∧ (Aq k i).regS' (i : Int) (ro i) = Aq k (i + 1) := by
  have hin : (0 : Int) ≤ (i : Int) ∧ (i : Int) < ((Aq k i).size : Int) := ⟨by omega, by show (i : Int) < ((256 : Nat) : Int); omega⟩
  have hb : (Aq k i).byI (ro i) = none := byI_no (fun j _ hj => by
    simp only [Aq] at hj
    split at hj
    · rename_i hlt
      simp only [Option.some.injEq] at hj
      have := ro_inj hj
      omega
    · cases hj)
  have hc : (Aq k i).cl i = 0 := by
    unfold Rs.cl
    rw [if_neg]
    simp [Aq]
  have hE : (Aq k i).regE i (ro i) = 0 := by
    unfold Rs.regE
    rw [if_pos (ro_good (by omega)), hb, hc]
    simp
  refine ⟨?_, ?_⟩
  · unfold Rs.regE'; rw [if_pos hin, Int.toNat_natCast]; exact hE
  · unfold Rs.regS' Rs.regS; rw [if_pos hin, Int.toNat_natCast, if_pos hE]
    unfold Rs.setG Aq
    congr 1
    funext x
    unfold setG
    by_cases e : x = i
    · subst e; rw [if_pos rfl, if_pos (by omega)]
    · rw [if_neg e]
      dsimp only
      by_cases h : x < i
      · rw [if_pos h, if_pos (by omega)]
      · rw [if_neg h, if_neg (by omega)]
theorem aq_fq (k : Nat) : Aq k (2 + k) = Fq k 0 := by
  unfold Aq Fq
  congr 1
  · funext x
    simp
theorem fq_g {k : Nat} : Fq k (1 + k) = Xq k (lz (1 + k)) := by
  unfold Fq Xq
  congr 1
  funext x
  unfold setG
  by_cases e : x = 1 + k
  · subst e; rw [if_pos rfl, if_pos ⟨by omega, by omega⟩]
  · rw [if_neg e, if_neg (by omega)]
theorem fq_by {k j : Nat} (ho : (Fq k j).pt.ok) (hj : j ≤ 1 + k) : (Fq k j).byI (ro j) = some j :=
  byI_of (s := (Fq k j).pt) ho (show (if j ≤ j ∧ j < 2 + k then some (ro j) else none) = some (ro j) from if_pos ⟨Nat.le_refl _, by omega⟩)
theorem fq_fnd {k j : Nat} (ho : (Fq k j).pt.ok) (hj : j < 1 + k) : (Fq k j).fndB (ro j) = true ∧ (Fq k j).fndE (ro j) = 0 ∧ (Fq k j).fndS (ro j) = Fq k (j + 1) := by
  have hb := fq_by ho (Nat.le_of_lt hj)
  have hl : ¬ (Fq k j).l.length = (Fq k j).places := by show ¬ (lz j).length = 1 + k; rw [lz_len]; omega
  refine ⟨?_, ?_, ?_⟩
  · unfold Rs.fndB; rw [hb]; simp [hl]
  · unfold Rs.fndE; rw [if_neg (fun h => hl h.2)]
  · unfold Rs.fndS; rw [hb]; simp only; rw [if_neg hl]
    unfold Fq
    simp only [lz_succ]
    congr 1
    funext x
    unfold setG
    by_cases e : x = j
    · subst e; rw [if_pos rfl, if_neg (by omega)]
    · rw [if_neg e]
      dsimp only
      by_cases h : j ≤ x ∧ x < 2 + k
      · rw [if_pos h, if_pos (by omega)]
      · rw [if_neg h, if_neg (by omega)]
theorem xq_by {k : Nat} {l : List Int} (ho : (Xq k l).pt.ok) : (Xq k l).byI (ro (1 + k)) = some (1 + k) := byI_of (s := (Xq k l).pt) ho (setG_same (fun _ => none) (1 + k) (some (ro (1 + k))))
theorem xq_full {k : Nat} {l : List Int} (ho : (Xq k l).pt.ok) (hl : l.length = 1 + k) : (Xq k l).fndB (ro (1 + k)) = false ∧ (Xq k l).fndE (ro (1 + k)) = 4 ∧ (Xq k l).fndS (ro (1 + k)) = Xq k l := by
  have hb := xq_by ho
  have hl' : (Xq k l).l.length = (Xq k l).places := hl
  refine ⟨?_, ?_, ?_⟩
  · unfold Rs.fndB; rw [decide_eq_false (by simpa using hl')]; simp
  · unfold Rs.fndE; rw [hb]; simp [hl']
  · unfold Rs.fndS; rw [hb]; simp only; rw [if_pos hl']
theorem xq_fnd {k : Nat} {l : List Int} (ho : (Xq k l).pt.ok) (hl : l.length = k) : (Xq k l).fndB (ro (1 + k)) = true ∧ (Xq k l).fndE (ro (1 + k)) = 0 ∧ (Xq k l).fndS (ro (1 + k)) = Yq k (l ++ [((1 + k : Nat) : Int)]) := by
  have hb := xq_by ho
  have hl' : ¬ (Xq k l).l.length = (Xq k l).places := by show ¬ l.length = 1 + k; omega
  refine ⟨?_, ?_, ?_⟩
  · unfold Rs.fndB; rw [hb]; simp [hl']
  · unfold Rs.fndE; rw [if_neg (fun h => hl' h.2)]
  · unfold Rs.fndS; rw [hb]; simp only; rw [if_neg hl']
    unfold Xq Yq
    congr 1
    funext x
    by_cases e : x = 1 + k <;> simp [setG, e]
theorem xq_card {k : Nat} (l : List Int) (hk : k < 64) : cardG (Xq k l).g = 1 := by
  have := cardG_set (fun _ => none) (i := 1 + k) (some (ro (1 + k))) (by omega)
  simp only [Option.isSome_none, Option.isSome_some, cardG_none] at this
  simpa [Xq] using this
theorem yq_card (k : Nat) (l : List Int) : cardG (Yq k l).g = 0 := cardG_none
theorem ro_last (k : Nat) : ro (1 + k) = (255 - (1 + (k : Int)), 9) := by unfold ro; rw [Int.natCast_add]; rfl
set_option maxRecDepth 100000 in
theorem xq_can {k c : Nat} (hc : c < 1 + k) (hk : k < 64) : (Xq k (lz (1 + k))).canB (c : Int) = true ∧ (Xq k (lz (1 + k))).canE (c : Int) = 0 ∧ (Xq k (lz (1 + k))).canS (c : Int) = Xq k ((lz (1 + k)).erase (c : Int)) := by
  have hin : (0 : Int) ≤ (c : Int) ∧ (c : Int) < ((Xq k (lz (1 + k))).size : Int) := ⟨by omega, by show (c : Int) < ((256 : Nat) : Int); omega⟩
  have hcl : (Xq k (lz (1 + k))).cl c = 1 := by unfold Rs.cl; rw [if_pos (.inr (lz_mem.2 hc))]
  have hB : (Xq k (lz (1 + k))).canB (c : Int) = true := by
    unfold Rs.canB; rw [decide_eq_true hin, Int.toNat_natCast, hcl]; rfl
  refine ⟨hB, by unfold Rs.canE; rw [if_pos hin], ?_⟩
  unfold Rs.canS
  rw [hB, if_pos rfl, Int.toNat_natCast]
  have hg : setG (setG (fun _ => none) (1 + k) (some (ro (1 + k)))) c none = setG (fun _ => none) (1 + k) (some (ro (1 + k))) := psetG_none (setG_other _ _ (by omega))
  show Rs.mk 256 (1 + k) (setG (setG (fun _ => none) (1 + k) (some (ro (1 + k)))) c none) ((lz (1 + k)).erase (c : Int)) = Rs.mk 256 (1 + k) _ _
  rw [hg]
theorem xq_poll (k : Nat) : (Xq k (lz (1 + k))).pollX = 0 ∧ (Xq k (lz (1 + k))).pollB = true ∧ (Xq k (lz (1 + k))).pollS = Xq k (lz (1 + k)).tail := by
  have h0 : 0 < (lz (1 + k)).length := by rw [lz_len]; omega
  refine ⟨?_, ?_, rfl⟩
  · show (lz (1 + k)).headD 0 = 0
    unfold lz
    rw [Nat.add_comm, List.range_succ_eq_map]
    rfl
  · show (!(lz (1 + k)).isEmpty) = true
    cases h : lz (1 + k) with
    | nil => rw [h] at h0; simp at h0
    | cons x l => rfl

set_option maxRecDepth 100000 in
set_option maxHeartbeats 4000000 in
theorem room_ok (b c : Nat) (hb : b < 256) (hc : c < 256) (cc : Bool) (w : World) :
    Calls Try.prog 5 #[.int .u8 (b : Int), .int .u8 (c : Int), .bool cc] w fun e w' => e = .returned (.bool true) ∧ Upd [] w w' := by
  obtain ⟨k, hk⟩ : ∃ k, b % 64 = k := ⟨_, rfl⟩
  have hk64 : k < 64 := by omega
  have e1 : Int.tmod (b : Int) 64 = (k : Int) := by rw [Int.tmod_eq_emod_of_nonneg (by omega), ← hk]; rfl
  obtain ⟨d, hd⟩ : ∃ d, c % (1 + k) = d := ⟨_, rfl⟩
  have hdk : d < 1 + k := by rw [← hd]; exact Nat.mod_lt _ (by omega)
  have e2 : Int.tmod (c : Int) (1 + (k : Int)) = (d : Int) := by
    rw [show (1 : Int) + (k : Int) = ((1 + k : Nat) : Int) by omega, Int.tmod_eq_emod_of_nonneg (by omega), ← hd]; rfl
  have n1 : ((1 : Int) + (k : Int) == 0) = false := by simp; omega
  have n2 : (1 : Int) + (k : Int) ≠ 0 := by omega
  have n3 : ¬ 1 + k = 0 := by omega
  have N1 := Lib.hid n1; have N2 := Lib.hid n2; have E2 := Lib.hid e2
  clear hk hd n1 n2 n3 e2
  go_enter Try.func5, Try.ntmps5
  go_wp2_with fail
  have hn := rfnew_ok 256 (1 + k) w (by omega) (by omega) (by omega) (by omega)
  rw [show ((1 + k : Nat) : Int) = 1 + (k : Int) by omega] at hn
  refine hn.mono ?_; rintro e w1 ⟨B, rfl, r1, hsc, u1⟩
  have R1 := Lib.hid (show RfAt w1 B (Aq k 0) from by
    have : rs0 256 (1 + k) = Aq k 0 := by unfold rs0 Aq; congr 1
    rw [← this]; exact r1)
  have SC := Lib.hid hsc; have U1 := Lib.hid u1
  clear r1 hsc u1 hn e1
  go_wp2_with fail
  go_loopw [10] (fun x wr => ∃ i : Nat, i ≤ 2 + k ∧ x = .int .i64 i ∧ RfAt wr B (Aq k i) ∧ Upd [] w wr) (fun x _ => 2 + k - (intOf x).toNat)
  case atStart => exact ⟨0, by omega, rfl, R1.out, U1.out⟩
  case round =>
    obtain ⟨i, hi, rfl, hr, hup⟩ := hrel
    have R := Lib.hid hr; have UP := Lib.hid hup
    clear hr hup
    by_cases hle : i ≤ 1 + k
    · have hle2 : (i : Int) ≤ 1 + (k : Int) := by omega
      have hrg := rfreg R.out (i : Int) (ro i) (ro_good (by omega)).wf
      rw [(aq_reg hk64 hle).1, (aq_reg hk64 hle).2] at hrg
      have HRG := Lib.hid hrg
      clear hrg
      go_wp2_with fail
      refine HRG.out.mono ?_; rintro e w2 ⟨rfl, r2, u2⟩
      have R2 := Lib.hid r2; have U2 := Lib.hid (UP.out.sinceS u2 SC.out)
      clear r2 u2
      go_wp2_with fail
      go_roundw
      case rel => exact ⟨i + 1, by omega, by go_num, R2.out, U2.out⟩
      case measure => simp [intOf]; omega
    · obtain rfl : i = 2 + k := by omega
      have hle2 : ¬ ((2 + k : Nat) : Int) ≤ 1 + (k : Int) := by omega
      have hle3 : ¬ (2 : Int) + (k : Int) ≤ 1 + (k : Int) := by omega
      have R3 := Lib.hid (show RfAt wr B (Fq k 0) from by rw [← aq_fq]; exact R.out)
      clear R hi hle
      go_wp2_with fail
      clear hle2 hle3
      go_loopw [11] (fun x wt => ∃ j : Nat, j ≤ 1 + k ∧ x = .int .i64 j ∧ RfAt wt B (Fq k j) ∧ Upd [] w wt) (fun x _ => 1 + k - (intOf x).toNat)
      case atStart => exact ⟨0, by omega, rfl, R3.out, UP.out⟩
      case round =>
        obtain ⟨j, hj, rfl, hr, hup⟩ := hrel
        have R := Lib.hid hr; have UQ := Lib.hid hup
        clear hr hup
        by_cases hlt : j < 1 + k
        · have hlt2 : (j : Int) < 1 + (k : Int) := by omega
          have hrg := rffound R.out (ro j) (ro_good (by omega)).wf
          obtain ⟨f1, f2, f3⟩ := fq_fnd R.out.t.ok hlt
          rw [f1, f2, f3] at hrg
          have HRG := Lib.hid hrg
          clear hrg f1 f2 f3
          go_wp2_with fail
          refine HRG.out.mono ?_; rintro e w2 ⟨rfl, r2, u2⟩
          have R2 := Lib.hid r2; have U2 := Lib.hid (UQ.out.sinceS u2 SC.out)
          clear r2 u2
          go_wp2_with fail
          refine (rfroom R2.out).mono ?_
          rw [show (((Fq k (j + 1)).places - (Fq k (j + 1)).l.length : Nat) : Int) = 1 + (k : Int) - (j : Int) - 1 from by
            show ((1 + k - (lz (j + 1)).length : Nat) : Int) = _
            rw [lz_len]; omega]
          rintro e w3 ⟨rfl, u3⟩
          have hbb : (1 + (k : Int) - (j : Int) - 1 != 1 + (k : Int) - (j : Int) - 1) = false := by simp
          have R3' := Lib.hid (R2.out.upd0 u3); have U3 := Lib.hid (U2.out.trans u3)
          clear u3
          go_wp2_with fail
          go_roundw
          case rel => exact ⟨j + 1, by omega, by go_num, R3'.out, U3.out⟩
          case measure => simp [intOf]; omega
        · obtain rfl : j = 1 + k := by omega
          have hlt2 : ¬ ((1 + k : Nat) : Int) < 1 + (k : Int) := by omega
          have R4 := Lib.hid (show RfAt wr B (Xq k (lz (1 + k))) from by rw [← fq_g]; exact R.out)
          clear R hj hlt
          go_wp2_with fail
          clear hlt2
          have ul : Upd [] wr (wr.alloc (.cells #[.int .i64 (255 - (1 + (k : Int))), .int .u32 9] 36)) := (Upd.refl _ _).alloc _
          have hL := new_of wr (.cells #[.int .i64 (255 - (1 + (k : Int))), .int .u32 9] 36)
          have R5 := Lib.hid (R4.out.upd0 ul); have U5 := Lib.hid (UQ.out.trans ul)
          clear ul R4 UQ
          generalize wr.alloc (.cells #[.int .i64 (255 - (1 + (k : Int))), .int .u32 9] 36) = V at *
          generalize wr.heap.size = L at *
          have HL := Lib.hid hL; clear hL
          have hf := rffound R5.out (ro (1 + k)) (ro_good (by omega)).wf
          obtain ⟨f1, f2, f3⟩ := xq_full R5.out.t.ok (lz_len (1 + k))
          rw [f1, f2, f3, ro_last] at hf
          have HFF := Lib.hid hf
          clear hf f1 f2 f3
          refine HFF.out.mono ?_; rintro e w2 ⟨rfl, r2, u2⟩
          have R6 := Lib.hid r2; have U6 := Lib.hid (U5.out.sinceS u2 SC.out); have HL6 := Lib.hid (u2.keep HL.out (R5.out.notIn HL.out (by decide)))
          clear r2 u2 HFF HL
          have l0 : w2.cell? ⟨L, 0, none⟩ = some (.int .i64 (255 - (1 + (k : Int)))) := cell_of HL6.out 0
          have l1 : w2.cell? ⟨L, 1, none⟩ = some (.int .u32 9) := cell_of HL6.out 1
          have hf := rfwatches R6.out (ro (1 + k)) (ro_good (by omega)).wf
          rw [xq_by R6.out.t.ok, ro_last, show (((some (1 + k)).getD 0 : Nat) : Int) = 1 + (k : Int) from by show ((1 + k : Nat) : Int) = _; omega] at hf
          have HFF := Lib.hid hf
          clear hf
          go_wp2_with fail
          clear l0 l1
          refine HFF.out.mono ?_; rintro e w3 ⟨rfl, u3⟩
          have R7 := Lib.hid (R6.out.upd0 u3); have U7 := Lib.hid (U6.out.trans u3); have HL7 := Lib.hid (u3.keep HL6.out (by simp))
          clear u3 HFF R6 U6 HL6
          have hne : ((1 : Int) + (k : Int) != 1 + (k : Int)) = false := by simp
          dsimp only [Option.isSome_some]
          go_wp2_with fail
          refine (rflen R7.out).mono ?_; rw [xq_card _ hk64]; rintro e w4 ⟨rfl, e4⟩
          have R8 := Lib.hid (e4 ▸ R7.out); have U8 := Lib.hid (e4 ▸ U7.out); have HL8 := Lib.hid (e4 ▸ HL7.out)
          clear e4 R7 U7 HL7
          go_wp2_with fail
          refine (rfwaiting R8.out).mono ?_; rintro e w5 ⟨v5, rfl, ⟨hsl, -⟩, u5⟩
          have R9 := Lib.hid (R8.out.upd0 u5); have U9 := Lib.hid (U8.out.trans u5); have HL9 := Lib.hid (u5.keep HL8.out (by simp))
          have hI : Ints w5 v5 (lz (1 + k)) := hsl
          obtain ⟨wa, wc, rfl, hwc1, hwc2⟩ := hI.form
          rw [lz_len] at hwc1 ⊢
          clear hI hsl u5 R8 U8 HL8
          have e2 := E2.out
          have n1 := N1.out
          have n2 := N2.out
          cases cc with
          | true =>
            have hcn := rfcancel R9.out (d : Int)
            obtain ⟨f1, f2, f3⟩ := xq_can hdk hk64
            rw [f1, f2, f3] at hcn
            have hl' : ((lz (1 + k)).erase (d : Int)).length = k := by rw [List.length_erase_of_mem (lz_mem.2 hdk), lz_len]; omega
            have HCN := Lib.hid hcn
            clear hcn f1 f2 f3
            go_wp2_with fail
            clear e2 n1 n2
            refine HCN.out.mono ?_; rintro e w6 ⟨rfl, r6, u6⟩
            have R10 := Lib.hid r6; have U10 := Lib.hid (U9.out.sinceS u6 SC.out); have HL10 := Lib.hid (u6.keep HL9.out (R9.out.notIn HL9.out (by decide)))
            clear r6 u6 HCN R9 U9 HL9
            generalize (lz (1 + k)).erase (d : Int) = l at *
            have hlw := HL10.out
            have l0 : w6.cell? ⟨L, 0, none⟩ = some (.int .i64 (255 - (1 + (k : Int)))) := cell_of hlw 0
            have l1 : w6.cell? ⟨L, 1, none⟩ = some (.int .u32 9) := cell_of hlw 1
            have hf := rffound R10.out (ro (1 + k)) (ro_good (by omega)).wf
            obtain ⟨f1, f2, f3⟩ := xq_fnd R10.out.t.ok hl'
            rw [f1, f2, f3, ro_last] at hf
            have HFF := Lib.hid hf
            clear hf f1 f2 f3
            go_wp2_with fail
            clear l0 l1
            refine HFF.out.mono ?_; rintro e x1 ⟨rfl, rr, uu⟩
            have RR1 := Lib.hid rr; have UU1 := Lib.hid (U10.out.sinceS uu SC.out)
            clear rr uu hlw HFF
            go_wp2_with fail
            refine (rfwaiting RR1.out).mono ?_; rintro e x2 ⟨v2, rfl, ⟨hsl, -⟩, u2⟩
            have RR2 := Lib.hid (RR1.out.upd0 u2); have UU2 := Lib.hid (UU1.out.trans u2)
            have hln : (l ++ [((1 + k : Nat) : Int)]).length = 1 + k := by rw [List.length_append, hl']; simp; omega
            have hI : Ints x2 v2 (l ++ [((1 + k : Nat) : Int)]) := hsl
            obtain ⟨wa, wc, rfl, hwc1, hwc2⟩ := hI.form
            obtain ⟨g, off, rfl, hg, _, hcell⟩ := hI.at (i := k) (by rw [hln]; omega)
            have hx : (l ++ [((1 + k : Nat) : Int)])[k]'(by rw [hln]; omega) = 1 + (k : Int) := by
              rw [List.getElem_append_right (by omega)]
              simp
            rw [hx] at hcell
            rw [hln] at hwc1 ⊢
            have hq : ((1 : Int) + (k : Int) == 1 + (k : Int)) = true := by simp
            have hx1 : (0 : Int) ≤ (k : Int) := by omega
            have HRM := Lib.hid (show ((Yq k (l ++ [((1 + k : Nat) : Int)])).places - (Yq k (l ++ [((1 + k : Nat) : Int)])).l.length : Nat) = 0 from by show 1 + k - (l ++ [((1 + k : Nat) : Int)]).length = 0; rw [hln]; omega)
            clear hI hsl u2 RR1 UU1 hln hx
            go_wp2_with fail
            refine (rfroom RR2.out).mono ?_; rw [HRM.out]; rintro e x3 ⟨rfl, u3⟩
            have RR3 := Lib.hid (RR2.out.upd0 u3); have UU3 := Lib.hid (UU2.out.trans u3)
            clear u3
            go_wp2_with fail
            refine (rflen RR3.out).mono ?_; rw [yq_card]; rintro e x4 ⟨rfl, rfl⟩
            go_wp2_with fail
            refine (works_ok _).mono ?_; rintro e x5 ⟨rfl, u5⟩
            go_wp2_with fail
            go_ret
            exact ⟨rfl, UU3.out.trans u5⟩
          | false =>
            clear e2 n1 n2
            have hcn := rfpoll R9.out
            obtain ⟨f1, f2, f3⟩ := xq_poll k
            rw [f1, f2, f3] at hcn
            have hl' : (lz (1 + k)).tail.length = k := by rw [List.length_tail, lz_len]; omega
            have HCN := Lib.hid hcn
            clear hcn f1 f2 f3
            go_wp2_with fail
            refine HCN.out.mono ?_; rintro e w6 ⟨rfl, r6, u6⟩
            have R10 := Lib.hid r6; have U10 := Lib.hid (U9.out.sinceS u6 SC.out); have HL10 := Lib.hid (u6.keep HL9.out (R9.out.notIn HL9.out (by decide)))
            clear r6 u6 HCN R9 U9 HL9
            generalize (lz (1 + k)).tail = l at *
            have hlw := HL10.out
            have l0 : w6.cell? ⟨L, 0, none⟩ = some (.int .i64 (255 - (1 + (k : Int)))) := cell_of hlw 0
            have l1 : w6.cell? ⟨L, 1, none⟩ = some (.int .u32 9) := cell_of hlw 1
            have hf := rffound R10.out (ro (1 + k)) (ro_good (by omega)).wf
            obtain ⟨f1, f2, f3⟩ := xq_fnd R10.out.t.ok hl'
            rw [f1, f2, f3, ro_last] at hf
            have HFF := Lib.hid hf
            clear hf f1 f2 f3
            go_wp2_with fail
            clear l0 l1
            refine HFF.out.mono ?_; rintro e x1 ⟨rfl, rr, uu⟩
            have RR1 := Lib.hid rr; have UU1 := Lib.hid (U10.out.sinceS uu SC.out)
            clear rr uu hlw HFF
            go_wp2_with fail
            refine (rfwaiting RR1.out).mono ?_; rintro e x2 ⟨v2, rfl, ⟨hsl, -⟩, u2⟩
            have RR2 := Lib.hid (RR1.out.upd0 u2); have UU2 := Lib.hid (UU1.out.trans u2)
            have hln : (l ++ [((1 + k : Nat) : Int)]).length = 1 + k := by rw [List.length_append, hl']; simp; omega
            have hI : Ints x2 v2 (l ++ [((1 + k : Nat) : Int)]) := hsl
            obtain ⟨wa, wc, rfl, hwc1, hwc2⟩ := hI.form
            obtain ⟨g, off, rfl, hg, _, hcell⟩ := hI.at (i := k) (by rw [hln]; omega)
            have hx : (l ++ [((1 + k : Nat) : Int)])[k]'(by rw [hln]; omega) = 1 + (k : Int) := by
              rw [List.getElem_append_right (by omega)]
              simp
            rw [hx] at hcell
            rw [hln] at hwc1 ⊢
            have hq : ((1 : Int) + (k : Int) == 1 + (k : Int)) = true := by simp
            have hx1 : (0 : Int) ≤ (k : Int) := by omega
            have HRM := Lib.hid (show ((Yq k (l ++ [((1 + k : Nat) : Int)])).places - (Yq k (l ++ [((1 + k : Nat) : Int)])).l.length : Nat) = 0 from by show 1 + k - (l ++ [((1 + k : Nat) : Int)]).length = 0; rw [hln]; omega)
            clear hI hsl u2 RR1 UU1 hln hx
            go_wp2_with fail
            refine (rfroom RR2.out).mono ?_; rw [HRM.out]; rintro e x3 ⟨rfl, u3⟩
            have RR3 := Lib.hid (RR2.out.upd0 u3); have UU3 := Lib.hid (UU2.out.trans u3)
            clear u3
            go_wp2_with fail
            refine (rflen RR3.out).mono ?_; rw [yq_card]; rintro e x4 ⟨rfl, rfl⟩
            go_wp2_with fail
            refine (works_ok _).mono ?_; rintro e x5 ⟨rfl, u5⟩
            go_wp2_with fail
            go_ret
            exact ⟨rfl, UU3.out.trans u5⟩

theorem room_fr (w : World) (b : Int) (wb : (Lit.int .u8 b).wf = true) (c : Int) (wc : (Lit.int .u8 c).wf = true) (cc : Bool) :
    Calls Try.prog 5 #[.int .u8 b, .int .u8 c, .bool cc] w fun e w' => e = .returned (.bool true) ∧ Upd [] w w' := by
  have h1 := wf_u8 wb
  have h2 := wf_u8 wc
  obtain ⟨x, rfl⟩ := Int.eq_ofNat_of_zero_le h1.1
  obtain ⟨y, rfl⟩ := Int.eq_ofNat_of_zero_le h2.1
  exact room_ok x y (by omega) (by omega) cc w

end Go.Proofs.Ytmbkjnjfipafmaa
