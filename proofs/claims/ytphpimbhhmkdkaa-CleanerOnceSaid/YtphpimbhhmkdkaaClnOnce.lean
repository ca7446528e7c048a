/-
  The law CleanerOnce: from Arm to Forget a cleaner is ended at most once. Conditions: none.
-/
import Derived.Test.YtphpimbhhmkdkaaClnDo
import Derived.Test.YtphpimbhhmkdkaaArgs
namespace Go.Proofs.Ytphpimbhhmkdkaa
open Go.RowKit Go.Maps

/-- The cells of a move. -/
def IsMove (cs : List Value) : Prop := ∃ d x : Int, cs = [.int .u8 d, .int .u8 x] ∧ 0 ≤ d ∧ d < 256 ∧ 0 ≤ x ∧ x < 256

theorem moves_of {H : Type} {enc : TypeId × Value → H} {w : World} {v : Value} {d : DataW H} {p : List MemPlace}
    (hval : Value.okWide Try.prog w .any 0 22 v) (h : DataW.Trod enc Try.prog w 0 (fun _ => true) true 22 v d p) : ∃ css, Recs w v 2 css ∧ ∀ cs ∈ css, IsMove cs := by
  refine recs_of Try.underlying22 2 (by kernel_rfl) (by decide) IsMove (fun n cs y hl ht => ?_) hval h
  match cs, hl with
  | [c0, c1], _ =>
    obtain ⟨_, _, h0⟩ := field_of (c := 1) Try.underlying27 ht 0 _ rfl rfl rfl (by kernel_rfl)
    obtain ⟨_, _, h1⟩ := field_of (c := 1) Try.underlying27 ht 1 _ rfl rfl rfl (by kernel_rfl)
    obtain ⟨x, rfl, wx⟩ := int_cell Try.underlying5 h0
    obtain ⟨z, rfl, wz⟩ := int_cell Try.underlying5 h1
    exact ⟨x, z, rfl, (wf_u8 wx).1, (wf_u8 wx).2, (wf_u8 wz).1, (wf_u8 wz).2⟩

/-- The states of the first sixteen ids, as cells. -/
def sCells (f : Nat → Nat) : Array Value := ((List.range 16).map (fun i => Value.int .i64 (f i))).toArray
theorem sCells_size (f : Nat → Nat) : (sCells f).size = 16 := by simp [sCells]
theorem sCells_at (f : Nat → Nat) {i : Nat} (h : i < 16) : (sCells f)[i]? = some (.int .i64 (f i)) := by simp [sCells, h]
theorem run_index_s (f : Nat → Nat) {j : Nat} (h : j < 16) (w : World) : (Instr.index 25 (.agg (sCells f)) (.int .i64 (j : Int))).run Try.prog w = .ok (.int .i64 (f j)) w := by
  have h1 := sCells_at f h
  have hp : ((j : Int) < 16) := by omega
  have hsz : (sizeOf 3).run Try.prog w = .ok 1 w := by kernel_rfl
  simp [Instr.index, asIntOf, run_underlying Try.underlying25, hsz, part, run_underlying Try.underlying3, h1, isAgg]
  omega
theorem sCells_set (f : Nat → Nat) {i : Nat} (v : Nat) : (sCells f).setIfInBounds i (.int .i64 v) = sCells (upd f i v) := by
  apply Array.ext_getElem?
  intro j
  rw [Array.getElem?_setIfInBounds]
  by_cases hj : j < 16
  · rw [sCells_at _ hj, sCells_at _ hj]
    by_cases e : i = j
    · subst e; simp [upd_same, sCells_size, hj]
    · rw [if_neg e, upd_other f v (fun h => e h.symm)]
  · have h1 : (sCells f)[j]? = none := Array.getElem?_eq_none (by rw [sCells_size]; omega)
    have h2 : (sCells (upd f i v))[j]? = none := Array.getElem?_eq_none (by rw [sCells_size]; omega)
    rw [h1, h2]
    split
    · rw [if_neg (by rw [sCells_size]; omega)]
    · rfl

theorem upd_id (f : Nat → Nat) (i : Nat) : upd f i (f i) = f := by
  funext j
  by_cases e : j = i
  · subst e; exact upd_same f j _
  · exact upd_other f _ e
theorem doS_forget {f : Nat → Nat} {i : Nat} (hf : ¬ f i = 1) (h3 : f i ≤ 3) : doS f 4 i = upd f i 0 := by
  have h4 : doS f 4 i = if f i = 2 ∨ f i = 3 then upd f i 0 else f := by simp [doS]
  rw [h4]
  by_cases h : f i = 2 ∨ f i = 3
  · rw [if_pos h]
  · rw [if_neg h]
    have h0 : f i = 0 := by omega
    have := upd_id f i
    rw [h0] at this; exact this.symm

theorem cnt16 (f : Nat → Nat) (s : Nat) (hs : s ≠ 0) (h : ∀ i, 16 ≤ i → i < 256 → f i = 0) : cntP (fun q => decide (f q = s)) 16 = cnt f s := by
  have key : ∀ n, n ≤ 240 → cntP (fun q => decide (f q = s)) (16 + n) = cntP (fun q => decide (f q = s)) 16 := by
    intro n
    induction n with
    | zero => intro _; rfl
    | succ n ih =>
      intro hn
      rw [show 16 + (n + 1) = (16 + n) + 1 from rfl, cntP_succ, ih (by omega), h (16 + n) (by omega) (by omega)]
      simp; omega
  exact (key 240 (by omega)).symm
/-- What holds at every round's head. -/
def OnceRel (b m S : Nat) (w : World) (f : Nat → Nat) (wr : World) : Prop :=
  ClAt wr b m f ∧ wr.heap[S]? = some (.cells (sCells f) 25 (0, 0)) ∧ (∀ i, 16 ≤ i → i < 256 → f i = 0) ∧ Upd [] w wr

set_option maxRecDepth 100000 in
set_option maxHeartbeats 4000000 in
theorem once_ok (v : Value) (css : List (List Value)) (w : World) (hv : Recs w v 2 css) (hF : ∀ cs ∈ css, IsMove cs) :
    Calls Try.prog 3 #[v] w fun e w' => e = .returned (.bool true) ∧ Upd [] w w' := by
  have HV := Lib.hid hv
  obtain ⟨a, cap, rfl, hcc, hcm, _⟩ := hv
  have hm : cap ≤ 9223372036854775807 := by unfold maxLen at hcm; omega
  have HF := Lib.hid hF; clear hF
  obtain ⟨K, hK, hK1, hK2⟩ : ∃ K : Nat, (if (200 : Int) < (css.length : Int) then (200 : Int) else (css.length : Int)) = (K : Int) ∧ K ≤ css.length ∧ K ≤ 200 := by
    by_cases h : (200 : Int) < css.length
    · exact ⟨200, by rw [if_pos h]; rfl, by omega, by omega⟩
    · exact ⟨css.length, by rw [if_neg h], by omega, by omega⟩
  go_enter Try.func3, Try.ntmps3
  go_wp2_with fail
  refine (new_at _).mono ?_; rintro e w1 ⟨rfl, a1, u1⟩
  have hm0 : w.heap.size ≤ w.heap.size := Nat.le_refl _
  generalize hM : w.heap.size = m at a1 hm0 ⊢
  have HM := Lib.hid hM; clear hM
  generalize hb : m + 1 = b at *
  have HBm := Lib.hid hb; clear hb
  go_wp2_with fail
  clear hK
  have hS0 := new_of w1 (.cells (sCells (fun _ => 0)) 25)
  have r0 : OnceRel b m w1.heap.size w (fun _ => 0) (w1.alloc (.cells (sCells (fun _ => 0)) 25)) :=
    ⟨a1.upd ((Upd.refl [] w1).alloc _) (by simp) (by simp), hS0, fun _ _ _ => rfl, u1.alloc _⟩
  have hS1 := u1.size
  generalize w1.heap.size = S at r0 hS1 ⊢
  clear hS0 a1
  go_loopw [26] (fun i wr => ∃ (k : Nat) (f : Nat → Nat), k ≤ K ∧ i = .int .i64 k ∧ OnceRel b m S w f wr) (fun i _ => K - (intOf i).toNat)
  case atStart => exact ⟨0, fun _ => 0, by omega, rfl, r0⟩
  case round =>
    obtain ⟨k, f, hk, rfl, hst, hSc, hbig, hup⟩ := hrel
    by_cases hlt : k < K
    · obtain ⟨ab, off, rfl, hab, hcl, hat⟩ := (HV.out.upd hup (by simp)).at (show k < css.length by omega)
      obtain ⟨d, x, hcs, hd0, hd1, hx0, hx1⟩ := HF.out _ (List.getElem_mem (show k < css.length by omega))
      have hc0 : wr.cell? ⟨ab, off + k * 2, none⟩ = some (.int .u8 d) := hat 0 _ (by rw [hcs]; rfl)
      have hc1 : wr.cell? ⟨ab, off + k * 2 + 1, none⟩ = some (.int .u8 x) := hat 1 _ (by rw [hcs]; rfl)
      clear hcl hat hcs
      obtain ⟨i, hi⟩ : ∃ i : Nat, x % 16 = i := ⟨(x % 16).toNat, by omega⟩
      have hi16 : i < 16 := by omega
      have hsc : wr.cell? ⟨S, i, none⟩ = some (.int .i64 (f i)) := by rw [cell_of hSc, sCells_at f hi16]
      have hSl := lt_of_block hSc
      have HSC := Lib.hid hSc; clear hSc
      have HST := Lib.hid hst
      have hbl := hst.lt
      clear hst
      have HBIG := Lib.hid hbig; clear hbig
      go_wp2_with fail
      have hdo := do_at b m f d x (wr.alloc (Obj.cells #[.int .u8 d, .int .u8 x] 27)) (HST.out.upd ((Upd.refl [] wr).alloc _) (by simp) (by simp)) hd0 hd1 hx0 hx1
      rw [hi, Int.toNat_natCast] at hdo
      have hMv : (wr.alloc (Obj.cells #[.int .u8 d, .int .u8 x] 27)).heap[wr.heap.size]? = some (.cells #[.int .u8 d, .int .u8 x] 27 (0, 0)) := new_of _ _
      have hS2 := alloc_of (p := Obj.cells #[.int .u8 d, .int .u8 x] 27) HSC.out
      have hup2 : Upd [] w (wr.alloc (Obj.cells #[.int .u8 d, .int .u8 x] 27)) := hup.alloc _
      have hmS : S ≠ m := by
        have h2 := HST.out
        rintro rfl
        obtain ⟨_, _, ⟨es, c, hm', _⟩, _⟩ := h2
        rw [HSC.out] at hm'; simp at hm'
      have hmV : wr.heap.size ≠ m := by have := HST.out.mlt; omega
      have hSV : wr.heap.size ≠ S := by omega
      generalize wr.alloc (Obj.cells #[.int .u8 d, .int .u8 x] 27) = w2 at hdo hMv hS2 hup2 ⊢
      generalize wr.heap.size = V at hMv hmV hSV ⊢
      have HI := Lib.hid hi; clear hi
      refine hdo.mono ?_
      clear hdo
      rintro e w3 ⟨rfl, a3, u3⟩
      have hMv3 := u3.keep hMv (by simpa using hmV)
      have hS3 := u3.keep hS2 (by simpa using hmS)
      have hup3 : Upd [] w w3 := hup2.fresh1 u3 (Nat.le_of_eq HM.out)
      have v0 : w3.cell? ⟨V, 0, none⟩ = some (.int .u8 d) := cell_of hMv3 0
      have s0 : w3.cell? ⟨S, i, none⟩ = some (.int .i64 (f i)) := by rw [cell_of hS3, sCells_at f hi16]
      have sf : w3.frozen? ⟨S, i, none⟩ = false := free_of hS3 i
      have HS3 := Lib.hid hS3; clear hS3 hS2 hMv hMv3 u3 hup2 hsc hSl hc0 hc1 hup
      have HUP := Lib.hid hup3; clear hup3
      have hfi := a3.small
      have hf3 : f i ≤ 3 := HST.out.small i (by omega)
      have H3 := Lib.hid a3; clear a3 hfi
      have hk5 : d % 5 = 0 ∨ d % 5 = 1 ∨ d % 5 = 2 ∨ d % 5 = 3 ∨ d % 5 = 4 := by omega
      rcases hk5 with hk | hk | hk | hk | hk
      · by_cases hf : f i = 0
        · skip
          have eB : doB f (d % 5) i = false := by rw [hk]; simp [doB]
          rw [eB]
          have eS : doS f (d % 5) i = upd f i 1 := by rw [hk]; simp [doS, hf]
          have h3 := H3.out
          rw [eS] at h3
          have hSb : b ≠ S := by rintro rfl; obtain ⟨_, hb', _⟩ := h3; have h9 := HS3.out; rw [hb'] at h9; simp at h9
          have a4 := h3.upd ((Upd.refl [S] w3).setCell (p := ⟨S, i, none⟩) (by simp) (.int .i64 1)) (by simpa using hSb) (by simpa using hmS.symm)
          have hS4 : (w3.setCell ⟨S, i, none⟩ (.int .i64 1)).heap[S]? = some (.cells (sCells (upd f i 1)) 25 (0, 0)) := (set_of HS3.out i (.int .i64 ((1 : Nat) : Int))).trans (by rw [sCells_set])
          have u4 : Upd [] w (w3.setCell ⟨S, i, none⟩ (.int .i64 1)) := HUP.out.setNew (by show _ ≤ S; exact hS1) _
          have HC := Lib.hid a4
          have hn : (upd f i 1) i ≠ 0 := by simp [upd]
          have HN := Lib.hid hn
          have hbig4 : ∀ j, 16 ≤ j → j < 256 → (upd f i 1) j = 0 := fun j h1 h2 => by rw [upd_other f _ (by omega)]; exact HBIG.out j h1 h2
          have HB4 := Lib.hid hbig4
          have HS4 := Lib.hid hS4
          have HU4 := Lib.hid u4
          have HF' := Lib.hid hf
          have hSl4 := lt_of_block hS4
          clear a4 hn hS4 u4 h3 eB eS hbig4
          go_wp2_with fail
          refine (get_in b m (upd f i 1) i _ HC.out (by omega) HN.out).mono ?_; rintro e w5 ⟨rfl, u5⟩
          have hS5 := u5.keep HS4.out (by simp)
          have hS5l := lt_of_block hS5
          have z0 : w5.cell? ⟨S, i, none⟩ = some (.int .i64 ((upd f i 1) i : Nat)) := by rw [cell_of hS5, sCells_at _ hi16]
          have q1 : ((((upd f i 1) i : Nat) : Int) == 0) = false := by simpa using HN.out
          have q2 : ((((upd f i 1) i : Nat) : Int) != 0) = true := by simpa using HN.out
          generalize hst : (upd f i 1) i = st at z0 q1 q2 ⊢
          have HST2 := Lib.hid hst; clear hst
          have HS5 := Lib.hid hS5; clear hS5
          go_wp2_with fail
          have hC6 : (w5.alloc (Obj.cells #[.int .i64 (i : Int), .int .i64 (st : Int)] 31)).heap[w5.heap.size]? = some (.cells #[.int .i64 (i : Int), .int .i64 (st : Int)] 31 (0, 0)) := new_of _ _
          have hS6 := alloc_of (p := Obj.cells #[.int .i64 (i : Int), .int .i64 (st : Int)] 31) HS5.out
          have hc6 := (HC.out.upd u5 (by simp) (by simp)).upd ((Upd.refl [] w5).alloc (Obj.cells #[.int .i64 (i : Int), .int .i64 (st : Int)] 31)) (by simp) (by simp)
          have hu6 : Upd [] w (w5.alloc (Obj.cells #[.int .i64 (i : Int), .int .i64 (st : Int)] 31)) := (HU4.out.trans u5).alloc _
          generalize w5.alloc (Obj.cells #[.int .i64 (i : Int), .int .i64 (st : Int)] 31) = w6 at hC6 hS6 hc6 hu6 ⊢
          generalize w5.heap.size = C at hC6 ⊢
          have y0 := cell_of hC6 0
          have y1 := cell_of hC6 1
          have z6 : w6.cell? ⟨S, i, none⟩ = some (.int .i64 (st : Int)) := by rw [cell_of hS6, sCells_at _ hi16, HST2.out]
          have HC6 := Lib.hid hC6
          have HS6 := Lib.hid hS6
          have HCL := Lib.hid hc6
          have HU6 := Lib.hid hu6
          clear hC6 hS6 hc6 hu6 z0 u5 hS5l
          go_quiet (fail)
          go_wp2
          go_roundw
          case rel => exact ⟨k + 1, (upd f i 1), by omega, by go_num, HCL.out.upd ((Upd.refl [] w6).drewN nq) (by simp) (by simp), drewN_of HS6.out nq, HB4.out, HU6.out.drewN nq⟩
          case measure => simp [intOf]; omega
        · have hfb : ((f i : Int) == 0) = false := by simpa using hf
          have eB : doB f (d % 5) i = false := by rw [hk]; simp [doB]
          rw [eB]
          have eS : doS f (d % 5) i = f := by rw [hk]; simp [doS, hf]
          have h3 := H3.out
          rw [eS] at h3
          have a4 := h3
          have hS4 := HS3.out
          have u4 := HUP.out
          have HC := Lib.hid a4
          have hn : (f) i ≠ 0 := by omega
          have HN := Lib.hid hn
          have hbig4 : ∀ j, 16 ≤ j → j < 256 → (f) j = 0 := fun j h1 h2 => by exact HBIG.out j h1 h2
          have HB4 := Lib.hid hbig4
          have HS4 := Lib.hid hS4
          have HU4 := Lib.hid u4
          have HF' := Lib.hid hf
          have hSl4 := lt_of_block hS4
          clear a4 hn hS4 u4 h3 eB eS hbig4
          go_wp2_with fail
          refine (get_in b m (f) i _ HC.out (by omega) HN.out).mono ?_; rintro e w5 ⟨rfl, u5⟩
          have hS5 := u5.keep HS4.out (by simp)
          have hS5l := lt_of_block hS5
          have z0 : w5.cell? ⟨S, i, none⟩ = some (.int .i64 ((f) i : Nat)) := by rw [cell_of hS5, sCells_at _ hi16]
          have q1 : ((((f) i : Nat) : Int) == 0) = false := by simpa using HN.out
          have q2 : ((((f) i : Nat) : Int) != 0) = true := by simpa using HN.out
          generalize hst : (f) i = st at z0 q1 q2 ⊢
          have HST2 := Lib.hid hst; clear hst
          have HS5 := Lib.hid hS5; clear hS5
          go_wp2_with fail
          have hC6 : (w5.alloc (Obj.cells #[.int .i64 (i : Int), .int .i64 (st : Int)] 31)).heap[w5.heap.size]? = some (.cells #[.int .i64 (i : Int), .int .i64 (st : Int)] 31 (0, 0)) := new_of _ _
          have hS6 := alloc_of (p := Obj.cells #[.int .i64 (i : Int), .int .i64 (st : Int)] 31) HS5.out
          have hc6 := (HC.out.upd u5 (by simp) (by simp)).upd ((Upd.refl [] w5).alloc (Obj.cells #[.int .i64 (i : Int), .int .i64 (st : Int)] 31)) (by simp) (by simp)
          have hu6 : Upd [] w (w5.alloc (Obj.cells #[.int .i64 (i : Int), .int .i64 (st : Int)] 31)) := (HU4.out.trans u5).alloc _
          generalize w5.alloc (Obj.cells #[.int .i64 (i : Int), .int .i64 (st : Int)] 31) = w6 at hC6 hS6 hc6 hu6 ⊢
          generalize w5.heap.size = C at hC6 ⊢
          have y0 := cell_of hC6 0
          have y1 := cell_of hC6 1
          have z6 : w6.cell? ⟨S, i, none⟩ = some (.int .i64 (st : Int)) := by rw [cell_of hS6, sCells_at _ hi16, HST2.out]
          have HC6 := Lib.hid hC6
          have HS6 := Lib.hid hS6
          have HCL := Lib.hid hc6
          have HU6 := Lib.hid hu6
          clear hC6 hS6 hc6 hu6 z0 u5 hS5l
          go_quiet (fail)
          go_wp2
          go_roundw
          case rel => exact ⟨k + 1, (f), by omega, by go_num, HCL.out.upd ((Upd.refl [] w6).drewN nq) (by simp) (by simp), drewN_of HS6.out nq, HB4.out, HU6.out.drewN nq⟩
          case measure => simp [intOf]; omega
      · by_cases hf : f i = 0
        · skip
          have eB : doB f (d % 5) i = false := by rw [hk]; simp [doB]
          rw [eB]
          have eS : doS f (d % 5) i = upd f i 1 := by rw [hk]; simp [doS, hf]
          have h3 := H3.out
          rw [eS] at h3
          have hSb : b ≠ S := by rintro rfl; obtain ⟨_, hb', _⟩ := h3; have h9 := HS3.out; rw [hb'] at h9; simp at h9
          have a4 := h3.upd ((Upd.refl [S] w3).setCell (p := ⟨S, i, none⟩) (by simp) (.int .i64 1)) (by simpa using hSb) (by simpa using hmS.symm)
          have hS4 : (w3.setCell ⟨S, i, none⟩ (.int .i64 1)).heap[S]? = some (.cells (sCells (upd f i 1)) 25 (0, 0)) := (set_of HS3.out i (.int .i64 ((1 : Nat) : Int))).trans (by rw [sCells_set])
          have u4 : Upd [] w (w3.setCell ⟨S, i, none⟩ (.int .i64 1)) := HUP.out.setNew (by show _ ≤ S; exact hS1) _
          have HC := Lib.hid a4
          have hn : (upd f i 1) i ≠ 0 := by simp [upd]
          have HN := Lib.hid hn
          have hbig4 : ∀ j, 16 ≤ j → j < 256 → (upd f i 1) j = 0 := fun j h1 h2 => by rw [upd_other f _ (by omega)]; exact HBIG.out j h1 h2
          have HB4 := Lib.hid hbig4
          have HS4 := Lib.hid hS4
          have HU4 := Lib.hid u4
          have HF' := Lib.hid hf
          have hSl4 := lt_of_block hS4
          clear a4 hn hS4 u4 h3 eB eS hbig4
          go_wp2_with fail
          refine (get_in b m (upd f i 1) i _ HC.out (by omega) HN.out).mono ?_; rintro e w5 ⟨rfl, u5⟩
          have hS5 := u5.keep HS4.out (by simp)
          have hS5l := lt_of_block hS5
          have z0 : w5.cell? ⟨S, i, none⟩ = some (.int .i64 ((upd f i 1) i : Nat)) := by rw [cell_of hS5, sCells_at _ hi16]
          have q1 : ((((upd f i 1) i : Nat) : Int) == 0) = false := by simpa using HN.out
          have q2 : ((((upd f i 1) i : Nat) : Int) != 0) = true := by simpa using HN.out
          generalize hst : (upd f i 1) i = st at z0 q1 q2 ⊢
          have HST2 := Lib.hid hst; clear hst
          have HS5 := Lib.hid hS5; clear hS5
          go_wp2_with fail
          have hC6 : (w5.alloc (Obj.cells #[.int .i64 (i : Int), .int .i64 (st : Int)] 31)).heap[w5.heap.size]? = some (.cells #[.int .i64 (i : Int), .int .i64 (st : Int)] 31 (0, 0)) := new_of _ _
          have hS6 := alloc_of (p := Obj.cells #[.int .i64 (i : Int), .int .i64 (st : Int)] 31) HS5.out
          have hc6 := (HC.out.upd u5 (by simp) (by simp)).upd ((Upd.refl [] w5).alloc (Obj.cells #[.int .i64 (i : Int), .int .i64 (st : Int)] 31)) (by simp) (by simp)
          have hu6 : Upd [] w (w5.alloc (Obj.cells #[.int .i64 (i : Int), .int .i64 (st : Int)] 31)) := (HU4.out.trans u5).alloc _
          generalize w5.alloc (Obj.cells #[.int .i64 (i : Int), .int .i64 (st : Int)] 31) = w6 at hC6 hS6 hc6 hu6 ⊢
          generalize w5.heap.size = C at hC6 ⊢
          have y0 := cell_of hC6 0
          have y1 := cell_of hC6 1
          have z6 : w6.cell? ⟨S, i, none⟩ = some (.int .i64 (st : Int)) := by rw [cell_of hS6, sCells_at _ hi16, HST2.out]
          have HC6 := Lib.hid hC6
          have HS6 := Lib.hid hS6
          have HCL := Lib.hid hc6
          have HU6 := Lib.hid hu6
          clear hC6 hS6 hc6 hu6 z0 u5 hS5l
          go_quiet (fail)
          go_wp2
          go_roundw
          case rel => exact ⟨k + 1, (upd f i 1), by omega, by go_num, HCL.out.upd ((Upd.refl [] w6).drewN nq) (by simp) (by simp), drewN_of HS6.out nq, HB4.out, HU6.out.drewN nq⟩
          case measure => simp [intOf]; omega
        · have hfb : ((f i : Int) == 0) = false := by simpa using hf
          have eB : doB f (d % 5) i = false := by rw [hk]; simp [doB]
          rw [eB]
          have eS : doS f (d % 5) i = f := by rw [hk]; simp [doS, hf]
          have h3 := H3.out
          rw [eS] at h3
          have a4 := h3
          have hS4 := HS3.out
          have u4 := HUP.out
          have HC := Lib.hid a4
          have hn : (f) i ≠ 0 := by omega
          have HN := Lib.hid hn
          have hbig4 : ∀ j, 16 ≤ j → j < 256 → (f) j = 0 := fun j h1 h2 => by exact HBIG.out j h1 h2
          have HB4 := Lib.hid hbig4
          have HS4 := Lib.hid hS4
          have HU4 := Lib.hid u4
          have HF' := Lib.hid hf
          have hSl4 := lt_of_block hS4
          clear a4 hn hS4 u4 h3 eB eS hbig4
          go_wp2_with fail
          refine (get_in b m (f) i _ HC.out (by omega) HN.out).mono ?_; rintro e w5 ⟨rfl, u5⟩
          have hS5 := u5.keep HS4.out (by simp)
          have hS5l := lt_of_block hS5
          have z0 : w5.cell? ⟨S, i, none⟩ = some (.int .i64 ((f) i : Nat)) := by rw [cell_of hS5, sCells_at _ hi16]
          have q1 : ((((f) i : Nat) : Int) == 0) = false := by simpa using HN.out
          have q2 : ((((f) i : Nat) : Int) != 0) = true := by simpa using HN.out
          generalize hst : (f) i = st at z0 q1 q2 ⊢
          have HST2 := Lib.hid hst; clear hst
          have HS5 := Lib.hid hS5; clear hS5
          go_wp2_with fail
          have hC6 : (w5.alloc (Obj.cells #[.int .i64 (i : Int), .int .i64 (st : Int)] 31)).heap[w5.heap.size]? = some (.cells #[.int .i64 (i : Int), .int .i64 (st : Int)] 31 (0, 0)) := new_of _ _
          have hS6 := alloc_of (p := Obj.cells #[.int .i64 (i : Int), .int .i64 (st : Int)] 31) HS5.out
          have hc6 := (HC.out.upd u5 (by simp) (by simp)).upd ((Upd.refl [] w5).alloc (Obj.cells #[.int .i64 (i : Int), .int .i64 (st : Int)] 31)) (by simp) (by simp)
          have hu6 : Upd [] w (w5.alloc (Obj.cells #[.int .i64 (i : Int), .int .i64 (st : Int)] 31)) := (HU4.out.trans u5).alloc _
          generalize w5.alloc (Obj.cells #[.int .i64 (i : Int), .int .i64 (st : Int)] 31) = w6 at hC6 hS6 hc6 hu6 ⊢
          generalize w5.heap.size = C at hC6 ⊢
          have y0 := cell_of hC6 0
          have y1 := cell_of hC6 1
          have z6 : w6.cell? ⟨S, i, none⟩ = some (.int .i64 (st : Int)) := by rw [cell_of hS6, sCells_at _ hi16, HST2.out]
          have HC6 := Lib.hid hC6
          have HS6 := Lib.hid hS6
          have HCL := Lib.hid hc6
          have HU6 := Lib.hid hu6
          clear hC6 hS6 hc6 hu6 z0 u5 hS5l
          go_quiet (fail)
          go_wp2
          go_roundw
          case rel => exact ⟨k + 1, (f), by omega, by go_num, HCL.out.upd ((Upd.refl [] w6).drewN nq) (by simp) (by simp), drewN_of HS6.out nq, HB4.out, HU6.out.drewN nq⟩
          case measure => simp [intOf]; omega
      · by_cases hf : f i = 1
        · skip
          have eB : doB f (d % 5) i = true := by rw [hk]; simp [doB, hf]
          rw [eB]
          have eS : doS f (d % 5) i = upd f i 2 := by rw [hk]; simp [doS, hf]
          have h3 := H3.out
          rw [eS] at h3
          have hSb : b ≠ S := by rintro rfl; obtain ⟨_, hb', _⟩ := h3; have h9 := HS3.out; rw [hb'] at h9; simp at h9
          have a4 := h3.upd ((Upd.refl [S] w3).setCell (p := ⟨S, i, none⟩) (by simp) (.int .i64 2)) (by simpa using hSb) (by simpa using hmS.symm)
          have hS4 : (w3.setCell ⟨S, i, none⟩ (.int .i64 2)).heap[S]? = some (.cells (sCells (upd f i 2)) 25 (0, 0)) := (set_of HS3.out i (.int .i64 ((2 : Nat) : Int))).trans (by rw [sCells_set])
          have u4 : Upd [] w (w3.setCell ⟨S, i, none⟩ (.int .i64 2)) := HUP.out.setNew (by show _ ≤ S; exact hS1) _
          have HC := Lib.hid a4
          have hn : (upd f i 2) i ≠ 0 := by simp [upd]
          have HN := Lib.hid hn
          have hbig4 : ∀ j, 16 ≤ j → j < 256 → (upd f i 2) j = 0 := fun j h1 h2 => by rw [upd_other f _ (by omega)]; exact HBIG.out j h1 h2
          have HB4 := Lib.hid hbig4
          have HS4 := Lib.hid hS4
          have HU4 := Lib.hid u4
          have HF' := Lib.hid hf
          have hSl4 := lt_of_block hS4
          clear a4 hn hS4 u4 h3 eB eS hbig4
          go_wp2_with fail
          refine (get_in b m (upd f i 2) i _ HC.out (by omega) HN.out).mono ?_; rintro e w5 ⟨rfl, u5⟩
          have hS5 := u5.keep HS4.out (by simp)
          have hS5l := lt_of_block hS5
          have z0 : w5.cell? ⟨S, i, none⟩ = some (.int .i64 ((upd f i 2) i : Nat)) := by rw [cell_of hS5, sCells_at _ hi16]
          have q1 : ((((upd f i 2) i : Nat) : Int) == 0) = false := by simpa using HN.out
          have q2 : ((((upd f i 2) i : Nat) : Int) != 0) = true := by simpa using HN.out
          generalize hst : (upd f i 2) i = st at z0 q1 q2 ⊢
          have HST2 := Lib.hid hst; clear hst
          have HS5 := Lib.hid hS5; clear hS5
          go_wp2_with fail
          have hC6 : (w5.alloc (Obj.cells #[.int .i64 (i : Int), .int .i64 (st : Int)] 31)).heap[w5.heap.size]? = some (.cells #[.int .i64 (i : Int), .int .i64 (st : Int)] 31 (0, 0)) := new_of _ _
          have hS6 := alloc_of (p := Obj.cells #[.int .i64 (i : Int), .int .i64 (st : Int)] 31) HS5.out
          have hc6 := (HC.out.upd u5 (by simp) (by simp)).upd ((Upd.refl [] w5).alloc (Obj.cells #[.int .i64 (i : Int), .int .i64 (st : Int)] 31)) (by simp) (by simp)
          have hu6 : Upd [] w (w5.alloc (Obj.cells #[.int .i64 (i : Int), .int .i64 (st : Int)] 31)) := (HU4.out.trans u5).alloc _
          generalize w5.alloc (Obj.cells #[.int .i64 (i : Int), .int .i64 (st : Int)] 31) = w6 at hC6 hS6 hc6 hu6 ⊢
          generalize w5.heap.size = C at hC6 ⊢
          have y0 := cell_of hC6 0
          have y1 := cell_of hC6 1
          have z6 : w6.cell? ⟨S, i, none⟩ = some (.int .i64 (st : Int)) := by rw [cell_of hS6, sCells_at _ hi16, HST2.out]
          have HC6 := Lib.hid hC6
          have HS6 := Lib.hid hS6
          have HCL := Lib.hid hc6
          have HU6 := Lib.hid hu6
          clear hC6 hS6 hc6 hu6 z0 u5 hS5l
          go_quiet (fail)
          go_wp2
          go_roundw
          case rel => exact ⟨k + 1, (upd f i 2), by omega, by go_num, HCL.out.upd ((Upd.refl [] w6).drewN nq) (by simp) (by simp), drewN_of HS6.out nq, HB4.out, HU6.out.drewN nq⟩
          case measure => simp [intOf]; omega
        · have hfb : ((f i : Int) == 1) = false := by simpa using (by omega : (f i : Int) ≠ 1)
          have hfc : ((f i : Int) != 1) = true := by simpa using (by omega : (f i : Int) ≠ 1)
          by_cases hz : f i = 0
          · skip
            have eB : doB f (d % 5) i = false := by rw [hk]; simp [doB, hf]
            rw [eB]
            have eS : doS f (d % 5) i = f := by rw [hk]; simp [doS, hf]
            have h3 := H3.out
            rw [eS] at h3
            have a4 := h3
            have hS4 := HS3.out
            have u4 := HUP.out
            have HC := Lib.hid a4
            have hn : (f) i = 0 := by omega
            have HN := Lib.hid hn
            have hbig4 : ∀ j, 16 ≤ j → j < 256 → (f) j = 0 := fun j h1 h2 => by exact HBIG.out j h1 h2
            have HB4 := Lib.hid hbig4
            have HS4 := Lib.hid hS4
            have HU4 := Lib.hid u4
            have HF' := Lib.hid hf
            have hSl4 := lt_of_block hS4
            clear a4 hn hS4 u4 h3 eB eS hbig4
            go_wp2_with fail
            refine (get_none b m (f) i _ HC.out (by omega) HN.out).mono ?_; rintro e w5 ⟨rfl, u5⟩
            have hS5 := u5.keep HS4.out (by simp)
            have hS5l := lt_of_block hS5
            have z0 : w5.cell? ⟨S, i, none⟩ = some (.int .i64 0) := by rw [cell_of hS5, sCells_at _ hi16, HN.out]; rfl
            have HS5 := Lib.hid hS5; clear hS5
            go_wp2_with fail
            have hC6 : (w5.alloc (Obj.cells #[.int .i64 0, .int .i64 0] 31)).heap[w5.heap.size]? = some (.cells #[.int .i64 0, .int .i64 0] 31 (0, 0)) := new_of _ _
            have hS6 := alloc_of (p := Obj.cells #[.int .i64 0, .int .i64 0] 31) HS5.out
            have hc6 := (HC.out.upd u5 (by simp) (by simp)).upd ((Upd.refl [] w5).alloc (Obj.cells #[.int .i64 0, .int .i64 0] 31)) (by simp) (by simp)
            have hu6 : Upd [] w (w5.alloc (Obj.cells #[.int .i64 0, .int .i64 0] 31)) := (HU4.out.trans u5).alloc _
            generalize w5.alloc (Obj.cells #[.int .i64 0, .int .i64 0] 31) = w6 at hC6 hS6 hc6 hu6 ⊢
            generalize w5.heap.size = C at hC6 ⊢
            have y0 := cell_of hC6 0
            have y1 := cell_of hC6 1
            have z6 : w6.cell? ⟨S, i, none⟩ = some (.int .i64 0) := by rw [cell_of hS6, sCells_at _ hi16, HN.out]; rfl
            have HC6 := Lib.hid hC6
            have HS6 := Lib.hid hS6
            have HCL := Lib.hid hc6
            have HU6 := Lib.hid hu6
            clear hC6 hS6 hc6 hu6 z0 u5 hS5l
            go_quiet (fail)
            go_wp2
            go_roundw
            case rel => exact ⟨k + 1, (f), by omega, by go_num, HCL.out.upd ((Upd.refl [] w6).drewN nq) (by simp) (by simp), drewN_of HS6.out nq, HB4.out, HU6.out.drewN nq⟩
            case measure => simp [intOf]; omega
          · skip
            have eB : doB f (d % 5) i = false := by rw [hk]; simp [doB, hf]
            rw [eB]
            have eS : doS f (d % 5) i = f := by rw [hk]; simp [doS, hf]
            have h3 := H3.out
            rw [eS] at h3
            have a4 := h3
            have hS4 := HS3.out
            have u4 := HUP.out
            have HC := Lib.hid a4
            have hn : (f) i ≠ 0 := by omega
            have HN := Lib.hid hn
            have hbig4 : ∀ j, 16 ≤ j → j < 256 → (f) j = 0 := fun j h1 h2 => by exact HBIG.out j h1 h2
            have HB4 := Lib.hid hbig4
            have HS4 := Lib.hid hS4
            have HU4 := Lib.hid u4
            have HF' := Lib.hid hf
            have hSl4 := lt_of_block hS4
            clear a4 hn hS4 u4 h3 eB eS hbig4
            go_wp2_with fail
            refine (get_in b m (f) i _ HC.out (by omega) HN.out).mono ?_; rintro e w5 ⟨rfl, u5⟩
            have hS5 := u5.keep HS4.out (by simp)
            have hS5l := lt_of_block hS5
            have z0 : w5.cell? ⟨S, i, none⟩ = some (.int .i64 ((f) i : Nat)) := by rw [cell_of hS5, sCells_at _ hi16]
            have q1 : ((((f) i : Nat) : Int) == 0) = false := by simpa using HN.out
            have q2 : ((((f) i : Nat) : Int) != 0) = true := by simpa using HN.out
            generalize hst : (f) i = st at z0 q1 q2 ⊢
            have HST2 := Lib.hid hst; clear hst
            have HS5 := Lib.hid hS5; clear hS5
            go_wp2_with fail
            have hC6 : (w5.alloc (Obj.cells #[.int .i64 (i : Int), .int .i64 (st : Int)] 31)).heap[w5.heap.size]? = some (.cells #[.int .i64 (i : Int), .int .i64 (st : Int)] 31 (0, 0)) := new_of _ _
            have hS6 := alloc_of (p := Obj.cells #[.int .i64 (i : Int), .int .i64 (st : Int)] 31) HS5.out
            have hc6 := (HC.out.upd u5 (by simp) (by simp)).upd ((Upd.refl [] w5).alloc (Obj.cells #[.int .i64 (i : Int), .int .i64 (st : Int)] 31)) (by simp) (by simp)
            have hu6 : Upd [] w (w5.alloc (Obj.cells #[.int .i64 (i : Int), .int .i64 (st : Int)] 31)) := (HU4.out.trans u5).alloc _
            generalize w5.alloc (Obj.cells #[.int .i64 (i : Int), .int .i64 (st : Int)] 31) = w6 at hC6 hS6 hc6 hu6 ⊢
            generalize w5.heap.size = C at hC6 ⊢
            have y0 := cell_of hC6 0
            have y1 := cell_of hC6 1
            have z6 : w6.cell? ⟨S, i, none⟩ = some (.int .i64 (st : Int)) := by rw [cell_of hS6, sCells_at _ hi16, HST2.out]
            have HC6 := Lib.hid hC6
            have HS6 := Lib.hid hS6
            have HCL := Lib.hid hc6
            have HU6 := Lib.hid hu6
            clear hC6 hS6 hc6 hu6 z0 u5 hS5l
            go_quiet (fail)
            go_wp2
            go_roundw
            case rel => exact ⟨k + 1, (f), by omega, by go_num, HCL.out.upd ((Upd.refl [] w6).drewN nq) (by simp) (by simp), drewN_of HS6.out nq, HB4.out, HU6.out.drewN nq⟩
            case measure => simp [intOf]; omega
      · by_cases hf : f i = 1
        · skip
          have eB : doB f (d % 5) i = true := by rw [hk]; simp [doB, hf]
          rw [eB]
          have eS : doS f (d % 5) i = upd f i 3 := by rw [hk]; simp [doS, hf]
          have h3 := H3.out
          rw [eS] at h3
          have hSb : b ≠ S := by rintro rfl; obtain ⟨_, hb', _⟩ := h3; have h9 := HS3.out; rw [hb'] at h9; simp at h9
          have a4 := h3.upd ((Upd.refl [S] w3).setCell (p := ⟨S, i, none⟩) (by simp) (.int .i64 3)) (by simpa using hSb) (by simpa using hmS.symm)
          have hS4 : (w3.setCell ⟨S, i, none⟩ (.int .i64 3)).heap[S]? = some (.cells (sCells (upd f i 3)) 25 (0, 0)) := (set_of HS3.out i (.int .i64 ((3 : Nat) : Int))).trans (by rw [sCells_set])
          have u4 : Upd [] w (w3.setCell ⟨S, i, none⟩ (.int .i64 3)) := HUP.out.setNew (by show _ ≤ S; exact hS1) _
          have HC := Lib.hid a4
          have hn : (upd f i 3) i ≠ 0 := by simp [upd]
          have HN := Lib.hid hn
          have hbig4 : ∀ j, 16 ≤ j → j < 256 → (upd f i 3) j = 0 := fun j h1 h2 => by rw [upd_other f _ (by omega)]; exact HBIG.out j h1 h2
          have HB4 := Lib.hid hbig4
          have HS4 := Lib.hid hS4
          have HU4 := Lib.hid u4
          have HF' := Lib.hid hf
          have hSl4 := lt_of_block hS4
          clear a4 hn hS4 u4 h3 eB eS hbig4
          go_wp2_with fail
          refine (get_in b m (upd f i 3) i _ HC.out (by omega) HN.out).mono ?_; rintro e w5 ⟨rfl, u5⟩
          have hS5 := u5.keep HS4.out (by simp)
          have hS5l := lt_of_block hS5
          have z0 : w5.cell? ⟨S, i, none⟩ = some (.int .i64 ((upd f i 3) i : Nat)) := by rw [cell_of hS5, sCells_at _ hi16]
          have q1 : ((((upd f i 3) i : Nat) : Int) == 0) = false := by simpa using HN.out
          have q2 : ((((upd f i 3) i : Nat) : Int) != 0) = true := by simpa using HN.out
          generalize hst : (upd f i 3) i = st at z0 q1 q2 ⊢
          have HST2 := Lib.hid hst; clear hst
          have HS5 := Lib.hid hS5; clear hS5
          go_wp2_with fail
          have hC6 : (w5.alloc (Obj.cells #[.int .i64 (i : Int), .int .i64 (st : Int)] 31)).heap[w5.heap.size]? = some (.cells #[.int .i64 (i : Int), .int .i64 (st : Int)] 31 (0, 0)) := new_of _ _
          have hS6 := alloc_of (p := Obj.cells #[.int .i64 (i : Int), .int .i64 (st : Int)] 31) HS5.out
          have hc6 := (HC.out.upd u5 (by simp) (by simp)).upd ((Upd.refl [] w5).alloc (Obj.cells #[.int .i64 (i : Int), .int .i64 (st : Int)] 31)) (by simp) (by simp)
          have hu6 : Upd [] w (w5.alloc (Obj.cells #[.int .i64 (i : Int), .int .i64 (st : Int)] 31)) := (HU4.out.trans u5).alloc _
          generalize w5.alloc (Obj.cells #[.int .i64 (i : Int), .int .i64 (st : Int)] 31) = w6 at hC6 hS6 hc6 hu6 ⊢
          generalize w5.heap.size = C at hC6 ⊢
          have y0 := cell_of hC6 0
          have y1 := cell_of hC6 1
          have z6 : w6.cell? ⟨S, i, none⟩ = some (.int .i64 (st : Int)) := by rw [cell_of hS6, sCells_at _ hi16, HST2.out]
          have HC6 := Lib.hid hC6
          have HS6 := Lib.hid hS6
          have HCL := Lib.hid hc6
          have HU6 := Lib.hid hu6
          clear hC6 hS6 hc6 hu6 z0 u5 hS5l
          go_quiet (fail)
          go_wp2
          go_roundw
          case rel => exact ⟨k + 1, (upd f i 3), by omega, by go_num, HCL.out.upd ((Upd.refl [] w6).drewN nq) (by simp) (by simp), drewN_of HS6.out nq, HB4.out, HU6.out.drewN nq⟩
          case measure => simp [intOf]; omega
        · have hfb : ((f i : Int) == 1) = false := by simpa using (by omega : (f i : Int) ≠ 1)
          have hfc : ((f i : Int) != 1) = true := by simpa using (by omega : (f i : Int) ≠ 1)
          by_cases hz : f i = 0
          · skip
            have eB : doB f (d % 5) i = false := by rw [hk]; simp [doB, hf]
            rw [eB]
            have eS : doS f (d % 5) i = f := by rw [hk]; simp [doS, hf]
            have h3 := H3.out
            rw [eS] at h3
            have a4 := h3
            have hS4 := HS3.out
            have u4 := HUP.out
            have HC := Lib.hid a4
            have hn : (f) i = 0 := by omega
            have HN := Lib.hid hn
            have hbig4 : ∀ j, 16 ≤ j → j < 256 → (f) j = 0 := fun j h1 h2 => by exact HBIG.out j h1 h2
            have HB4 := Lib.hid hbig4
            have HS4 := Lib.hid hS4
            have HU4 := Lib.hid u4
            have HF' := Lib.hid hf
            have hSl4 := lt_of_block hS4
            clear a4 hn hS4 u4 h3 eB eS hbig4
            go_wp2_with fail
            refine (get_none b m (f) i _ HC.out (by omega) HN.out).mono ?_; rintro e w5 ⟨rfl, u5⟩
            have hS5 := u5.keep HS4.out (by simp)
            have hS5l := lt_of_block hS5
            have z0 : w5.cell? ⟨S, i, none⟩ = some (.int .i64 0) := by rw [cell_of hS5, sCells_at _ hi16, HN.out]; rfl
            have HS5 := Lib.hid hS5; clear hS5
            go_wp2_with fail
            have hC6 : (w5.alloc (Obj.cells #[.int .i64 0, .int .i64 0] 31)).heap[w5.heap.size]? = some (.cells #[.int .i64 0, .int .i64 0] 31 (0, 0)) := new_of _ _
            have hS6 := alloc_of (p := Obj.cells #[.int .i64 0, .int .i64 0] 31) HS5.out
            have hc6 := (HC.out.upd u5 (by simp) (by simp)).upd ((Upd.refl [] w5).alloc (Obj.cells #[.int .i64 0, .int .i64 0] 31)) (by simp) (by simp)
            have hu6 : Upd [] w (w5.alloc (Obj.cells #[.int .i64 0, .int .i64 0] 31)) := (HU4.out.trans u5).alloc _
            generalize w5.alloc (Obj.cells #[.int .i64 0, .int .i64 0] 31) = w6 at hC6 hS6 hc6 hu6 ⊢
            generalize w5.heap.size = C at hC6 ⊢
            have y0 := cell_of hC6 0
            have y1 := cell_of hC6 1
            have z6 : w6.cell? ⟨S, i, none⟩ = some (.int .i64 0) := by rw [cell_of hS6, sCells_at _ hi16, HN.out]; rfl
            have HC6 := Lib.hid hC6
            have HS6 := Lib.hid hS6
            have HCL := Lib.hid hc6
            have HU6 := Lib.hid hu6
            clear hC6 hS6 hc6 hu6 z0 u5 hS5l
            go_quiet (fail)
            go_wp2
            go_roundw
            case rel => exact ⟨k + 1, (f), by omega, by go_num, HCL.out.upd ((Upd.refl [] w6).drewN nq) (by simp) (by simp), drewN_of HS6.out nq, HB4.out, HU6.out.drewN nq⟩
            case measure => simp [intOf]; omega
          · skip
            have eB : doB f (d % 5) i = false := by rw [hk]; simp [doB, hf]
            rw [eB]
            have eS : doS f (d % 5) i = f := by rw [hk]; simp [doS, hf]
            have h3 := H3.out
            rw [eS] at h3
            have a4 := h3
            have hS4 := HS3.out
            have u4 := HUP.out
            have HC := Lib.hid a4
            have hn : (f) i ≠ 0 := by omega
            have HN := Lib.hid hn
            have hbig4 : ∀ j, 16 ≤ j → j < 256 → (f) j = 0 := fun j h1 h2 => by exact HBIG.out j h1 h2
            have HB4 := Lib.hid hbig4
            have HS4 := Lib.hid hS4
            have HU4 := Lib.hid u4
            have HF' := Lib.hid hf
            have hSl4 := lt_of_block hS4
            clear a4 hn hS4 u4 h3 eB eS hbig4
            go_wp2_with fail
            refine (get_in b m (f) i _ HC.out (by omega) HN.out).mono ?_; rintro e w5 ⟨rfl, u5⟩
            have hS5 := u5.keep HS4.out (by simp)
            have hS5l := lt_of_block hS5
            have z0 : w5.cell? ⟨S, i, none⟩ = some (.int .i64 ((f) i : Nat)) := by rw [cell_of hS5, sCells_at _ hi16]
            have q1 : ((((f) i : Nat) : Int) == 0) = false := by simpa using HN.out
            have q2 : ((((f) i : Nat) : Int) != 0) = true := by simpa using HN.out
            generalize hst : (f) i = st at z0 q1 q2 ⊢
            have HST2 := Lib.hid hst; clear hst
            have HS5 := Lib.hid hS5; clear hS5
            go_wp2_with fail
            have hC6 : (w5.alloc (Obj.cells #[.int .i64 (i : Int), .int .i64 (st : Int)] 31)).heap[w5.heap.size]? = some (.cells #[.int .i64 (i : Int), .int .i64 (st : Int)] 31 (0, 0)) := new_of _ _
            have hS6 := alloc_of (p := Obj.cells #[.int .i64 (i : Int), .int .i64 (st : Int)] 31) HS5.out
            have hc6 := (HC.out.upd u5 (by simp) (by simp)).upd ((Upd.refl [] w5).alloc (Obj.cells #[.int .i64 (i : Int), .int .i64 (st : Int)] 31)) (by simp) (by simp)
            have hu6 : Upd [] w (w5.alloc (Obj.cells #[.int .i64 (i : Int), .int .i64 (st : Int)] 31)) := (HU4.out.trans u5).alloc _
            generalize w5.alloc (Obj.cells #[.int .i64 (i : Int), .int .i64 (st : Int)] 31) = w6 at hC6 hS6 hc6 hu6 ⊢
            generalize w5.heap.size = C at hC6 ⊢
            have y0 := cell_of hC6 0
            have y1 := cell_of hC6 1
            have z6 : w6.cell? ⟨S, i, none⟩ = some (.int .i64 (st : Int)) := by rw [cell_of hS6, sCells_at _ hi16, HST2.out]
            have HC6 := Lib.hid hC6
            have HS6 := Lib.hid hS6
            have HCL := Lib.hid hc6
            have HU6 := Lib.hid hu6
            clear hC6 hS6 hc6 hu6 z0 u5 hS5l
            go_quiet (fail)
            go_wp2
            go_roundw
            case rel => exact ⟨k + 1, (f), by omega, by go_num, HCL.out.upd ((Upd.refl [] w6).drewN nq) (by simp) (by simp), drewN_of HS6.out nq, HB4.out, HU6.out.drewN nq⟩
            case measure => simp [intOf]; omega
      · by_cases hf : f i = 1
        · skip
          have eB : doB f (d % 5) i = false := by rw [hk]; simp [doB, hf]
          rw [eB]
          have eS : doS f (d % 5) i = f := by rw [hk]; simp [doS, hf]
          have h3 := H3.out
          rw [eS] at h3
          have a4 := h3
          have hS4 := HS3.out
          have u4 := HUP.out
          have HC := Lib.hid a4
          have hn : (f) i ≠ 0 := by omega
          have HN := Lib.hid hn
          have hbig4 : ∀ j, 16 ≤ j → j < 256 → (f) j = 0 := fun j h1 h2 => by exact HBIG.out j h1 h2
          have HB4 := Lib.hid hbig4
          have HS4 := Lib.hid hS4
          have HU4 := Lib.hid u4
          have HF' := Lib.hid hf
          have hSl4 := lt_of_block hS4
          clear a4 hn hS4 u4 h3 eB eS hbig4
          go_wp2_with fail
          refine (get_in b m (f) i _ HC.out (by omega) HN.out).mono ?_; rintro e w5 ⟨rfl, u5⟩
          have hS5 := u5.keep HS4.out (by simp)
          have hS5l := lt_of_block hS5
          have z0 : w5.cell? ⟨S, i, none⟩ = some (.int .i64 ((f) i : Nat)) := by rw [cell_of hS5, sCells_at _ hi16]
          have q1 : ((((f) i : Nat) : Int) == 0) = false := by simpa using HN.out
          have q2 : ((((f) i : Nat) : Int) != 0) = true := by simpa using HN.out
          generalize hst : (f) i = st at z0 q1 q2 ⊢
          have HST2 := Lib.hid hst; clear hst
          have HS5 := Lib.hid hS5; clear hS5
          go_wp2_with fail
          have hC6 : (w5.alloc (Obj.cells #[.int .i64 (i : Int), .int .i64 (st : Int)] 31)).heap[w5.heap.size]? = some (.cells #[.int .i64 (i : Int), .int .i64 (st : Int)] 31 (0, 0)) := new_of _ _
          have hS6 := alloc_of (p := Obj.cells #[.int .i64 (i : Int), .int .i64 (st : Int)] 31) HS5.out
          have hc6 := (HC.out.upd u5 (by simp) (by simp)).upd ((Upd.refl [] w5).alloc (Obj.cells #[.int .i64 (i : Int), .int .i64 (st : Int)] 31)) (by simp) (by simp)
          have hu6 : Upd [] w (w5.alloc (Obj.cells #[.int .i64 (i : Int), .int .i64 (st : Int)] 31)) := (HU4.out.trans u5).alloc _
          generalize w5.alloc (Obj.cells #[.int .i64 (i : Int), .int .i64 (st : Int)] 31) = w6 at hC6 hS6 hc6 hu6 ⊢
          generalize w5.heap.size = C at hC6 ⊢
          have y0 := cell_of hC6 0
          have y1 := cell_of hC6 1
          have z6 : w6.cell? ⟨S, i, none⟩ = some (.int .i64 (st : Int)) := by rw [cell_of hS6, sCells_at _ hi16, HST2.out]
          have HC6 := Lib.hid hC6
          have HS6 := Lib.hid hS6
          have HCL := Lib.hid hc6
          have HU6 := Lib.hid hu6
          clear hC6 hS6 hc6 hu6 z0 u5 hS5l
          go_quiet (fail)
          go_wp2
          go_roundw
          case rel => exact ⟨k + 1, (f), by omega, by go_num, HCL.out.upd ((Upd.refl [] w6).drewN nq) (by simp) (by simp), drewN_of HS6.out nq, HB4.out, HU6.out.drewN nq⟩
          case measure => simp [intOf]; omega
        · have hfb : ((f i : Int) == 1) = false := by simpa using (by omega : (f i : Int) ≠ 1)
          have hfc : ((f i : Int) != 1) = true := by simpa using (by omega : (f i : Int) ≠ 1)
          have eB : doB f (d % 5) i = false := by rw [hk]; simp [doB, hf]
          rw [eB]
          have eS : doS f (d % 5) i = upd f i 0 := by rw [hk]; exact doS_forget hf hf3
          have h3 := H3.out
          rw [eS] at h3
          have hSb : b ≠ S := by rintro rfl; obtain ⟨_, hb', _⟩ := h3; have h9 := HS3.out; rw [hb'] at h9; simp at h9
          have a4 := h3.upd ((Upd.refl [S] w3).setCell (p := ⟨S, i, none⟩) (by simp) (.int .i64 0)) (by simpa using hSb) (by simpa using hmS.symm)
          have hS4 : (w3.setCell ⟨S, i, none⟩ (.int .i64 0)).heap[S]? = some (.cells (sCells (upd f i 0)) 25 (0, 0)) := (set_of HS3.out i (.int .i64 ((0 : Nat) : Int))).trans (by rw [sCells_set])
          have u4 : Upd [] w (w3.setCell ⟨S, i, none⟩ (.int .i64 0)) := HUP.out.setNew (by show _ ≤ S; exact hS1) _
          have HC := Lib.hid a4
          have hn : (upd f i 0) i = 0 := by simp [upd]
          have HN := Lib.hid hn
          have hbig4 : ∀ j, 16 ≤ j → j < 256 → (upd f i 0) j = 0 := fun j h1 h2 => by rw [upd_other f _ (by omega)]; exact HBIG.out j h1 h2
          have HB4 := Lib.hid hbig4
          have HS4 := Lib.hid hS4
          have HU4 := Lib.hid u4
          have HF' := Lib.hid hf
          have hSl4 := lt_of_block hS4
          clear a4 hn hS4 u4 h3 eB eS hbig4
          go_wp2_with fail
          refine (get_none b m (upd f i 0) i _ HC.out (by omega) HN.out).mono ?_; rintro e w5 ⟨rfl, u5⟩
          have hS5 := u5.keep HS4.out (by simp)
          have hS5l := lt_of_block hS5
          have z0 : w5.cell? ⟨S, i, none⟩ = some (.int .i64 0) := by rw [cell_of hS5, sCells_at _ hi16, HN.out]; rfl
          have HS5 := Lib.hid hS5; clear hS5
          go_wp2_with fail
          have hC6 : (w5.alloc (Obj.cells #[.int .i64 0, .int .i64 0] 31)).heap[w5.heap.size]? = some (.cells #[.int .i64 0, .int .i64 0] 31 (0, 0)) := new_of _ _
          have hS6 := alloc_of (p := Obj.cells #[.int .i64 0, .int .i64 0] 31) HS5.out
          have hc6 := (HC.out.upd u5 (by simp) (by simp)).upd ((Upd.refl [] w5).alloc (Obj.cells #[.int .i64 0, .int .i64 0] 31)) (by simp) (by simp)
          have hu6 : Upd [] w (w5.alloc (Obj.cells #[.int .i64 0, .int .i64 0] 31)) := (HU4.out.trans u5).alloc _
          generalize w5.alloc (Obj.cells #[.int .i64 0, .int .i64 0] 31) = w6 at hC6 hS6 hc6 hu6 ⊢
          generalize w5.heap.size = C at hC6 ⊢
          have y0 := cell_of hC6 0
          have y1 := cell_of hC6 1
          have z6 : w6.cell? ⟨S, i, none⟩ = some (.int .i64 0) := by rw [cell_of hS6, sCells_at _ hi16, HN.out]; rfl
          have HC6 := Lib.hid hC6
          have HS6 := Lib.hid hS6
          have HCL := Lib.hid hc6
          have HU6 := Lib.hid hu6
          clear hC6 hS6 hc6 hu6 z0 u5 hS5l
          go_quiet (fail)
          go_wp2
          go_roundw
          case rel => exact ⟨k + 1, (upd f i 0), by omega, by go_num, HCL.out.upd ((Upd.refl [] w6).drewN nq) (by simp) (by simp), drewN_of HS6.out nq, HB4.out, HU6.out.drewN nq⟩
          case measure => simp [intOf]; omega
    · obtain ⟨wo, rfl⟩ : ∃ wo : World, wo = wr := ⟨_, rfl⟩
      have HSC := Lib.hid hSc
      have HST := Lib.hid hst
      have hS5l := lt_of_block hSc
      have hbl := hst.lt
      clear hst hSc
      have HBIG := Lib.hid hbig; clear hbig
      have hi25 : (Try.prog.info? 25).map (·.size) = some (sCells f).size := by rw [sCells_size]; kernel_rfl
      have HI25 := Lib.hid hi25; clear hi25
      go_wp2_with (refine wpList_load_row rfl 25 _ rfl S rfl 25 _ (0, 0) _ (alloc_of HSC.out) Try.underlying25 rfl HI25.out ?_)
      have hN0 : (wo.alloc (Obj.cells #[.int .i64 0, .int .i64 0, .int .i64 0, .int .i64 0] 35)).heap[wo.heap.size]? = some (.cells #[.int .i64 0, .int .i64 0, .int .i64 0, .int .i64 0] 35 (0, 0)) := new_of _ _
      have hu0 : Upd [] wo (wo.alloc (Obj.cells #[.int .i64 0, .int .i64 0, .int .i64 0, .int .i64 0] 35)) := (Upd.refl [] wo).alloc _
      generalize wo.alloc (Obj.cells #[.int .i64 0, .int .i64 0, .int .i64 0, .int .i64 0] 35) = wq at hN0 hu0 ⊢
      generalize hNN : wo.heap.size = N at hN0 ⊢
      have HNN := Lib.hid hNN; clear hNN
      go_loopw [113] (fun i wl => ∃ j : Nat, j ≤ 16 ∧ i = .int .i64 j ∧ wl.heap[N]? = some (.cells #[.int .i64 (cntP (fun q => decide (f q = 0)) j), .int .i64 (cntP (fun q => decide (f q = 1)) j), .int .i64 (cntP (fun q => decide (f q = 2)) j), .int .i64 (cntP (fun q => decide (f q = 3)) j)] 35 (0, 0)) ∧ Upd [] wo wl) (fun i _ => 16 - (intOf i).toNat)
      case atStart => exact ⟨0, by omega, rfl, hN0, hu0⟩
      case round =>
        obtain ⟨j, hj, rfl, hNc, hul⟩ := hrel
        by_cases hjl : j < 16
        · have hsx := sCells_at f hjl
          have hf3 : f j ≤ 3 := HST.out.small j (by omega)
          have b0 := cntP_le (fun q => decide (f q = 0)) j
          have b1 := cntP_le (fun q => decide (f q = 1)) j
          have b2 := cntP_le (fun q => decide (f q = 2)) j
          have b3 := cntP_le (fun q => decide (f q = 3)) j
          have hj1 : (0 : Int) ≤ j := by omega
          have hj2 : (j : Int) < 16 := by omega
          have e0 := cntP_succ (fun q => decide (f q = 0)) j
          have e1 := cntP_succ (fun q => decide (f q = 1)) j
          have e2 := cntP_succ (fun q => decide (f q = 2)) j
          have e3 := cntP_succ (fun q => decide (f q = 3)) j
          have d0 := cell_of hNc 0
          have d1 := cell_of hNc 1
          have d2 := cell_of hNc 2
          have d3 := cell_of hNc 3
          have q0 := free_of hNc 0
          have q1 := free_of hNc 1
          have q2 := free_of hNc 2
          have q3 := free_of hNc 3
          have HNC := Lib.hid hNc; clear hNc
          generalize cntP (fun q => decide (f q = 0)) j = c0 at *
          generalize cntP (fun q => decide (f q = 1)) j = c1 at *
          generalize cntP (fun q => decide (f q = 2)) j = c2 at *
          generalize cntP (fun q => decide (f q = 3)) j = c3 at *
          have h4 : f j = 0 ∨ f j = 1 ∨ f j = 2 ∨ f j = 3 := by omega
          rcases h4 with hfj | hfj | hfj | hfj
          · have h0 : (if decide (f j = 0) = true then 1 else 0) = 1 := by simp [hfj]
            have h1 : (if decide (f j = 1) = true then 1 else 0) = 0 := by simp [hfj]
            have h2 : (if decide (f j = 2) = true then 1 else 0) = 0 := by simp [hfj]
            have h3 : (if decide (f j = 3) = true then 1 else 0) = 0 := by simp [hfj]
            rw [h0] at e0
            rw [h1] at e1
            rw [h2] at e2
            rw [h3] at e3
            have hix := fun w => run_index_s f hjl w
            rw [hfj] at hix
            clear hsx
            have E0 := Lib.hid e0
            have E1 := Lib.hid e1
            have E2 := Lib.hid e2
            have E3 := Lib.hid e3
            clear e0 e1 e2 e3 h0 h1 h2 h3 hfj
            go_wp2
            go_roundw
            case rel =>
              refine ⟨j + 1, by omega, by go_num, ?_, hul.setNew (by show _ ≤ N; exact Nat.le_of_eq HNN.out) _⟩
              rw [set_of HNC.out 0, E0.out, E1.out, E2.out, E3.out]
              simp
            case measure => simp [intOf]; omega
          · have h0 : (if decide (f j = 0) = true then 1 else 0) = 0 := by simp [hfj]
            have h1 : (if decide (f j = 1) = true then 1 else 0) = 1 := by simp [hfj]
            have h2 : (if decide (f j = 2) = true then 1 else 0) = 0 := by simp [hfj]
            have h3 : (if decide (f j = 3) = true then 1 else 0) = 0 := by simp [hfj]
            rw [h0] at e0
            rw [h1] at e1
            rw [h2] at e2
            rw [h3] at e3
            have hix := fun w => run_index_s f hjl w
            rw [hfj] at hix
            clear hsx
            have E0 := Lib.hid e0
            have E1 := Lib.hid e1
            have E2 := Lib.hid e2
            have E3 := Lib.hid e3
            clear e0 e1 e2 e3 h0 h1 h2 h3 hfj
            go_wp2
            go_roundw
            case rel =>
              refine ⟨j + 1, by omega, by go_num, ?_, hul.setNew (by show _ ≤ N; exact Nat.le_of_eq HNN.out) _⟩
              rw [set_of HNC.out 1, E0.out, E1.out, E2.out, E3.out]
              simp
            case measure => simp [intOf]; omega
          · have h0 : (if decide (f j = 0) = true then 1 else 0) = 0 := by simp [hfj]
            have h1 : (if decide (f j = 1) = true then 1 else 0) = 0 := by simp [hfj]
            have h2 : (if decide (f j = 2) = true then 1 else 0) = 1 := by simp [hfj]
            have h3 : (if decide (f j = 3) = true then 1 else 0) = 0 := by simp [hfj]
            rw [h0] at e0
            rw [h1] at e1
            rw [h2] at e2
            rw [h3] at e3
            have hix := fun w => run_index_s f hjl w
            rw [hfj] at hix
            clear hsx
            have E0 := Lib.hid e0
            have E1 := Lib.hid e1
            have E2 := Lib.hid e2
            have E3 := Lib.hid e3
            clear e0 e1 e2 e3 h0 h1 h2 h3 hfj
            go_wp2
            go_roundw
            case rel =>
              refine ⟨j + 1, by omega, by go_num, ?_, hul.setNew (by show _ ≤ N; exact Nat.le_of_eq HNN.out) _⟩
              rw [set_of HNC.out 2, E0.out, E1.out, E2.out, E3.out]
              simp
            case measure => simp [intOf]; omega
          · have h0 : (if decide (f j = 0) = true then 1 else 0) = 0 := by simp [hfj]
            have h1 : (if decide (f j = 1) = true then 1 else 0) = 0 := by simp [hfj]
            have h2 : (if decide (f j = 2) = true then 1 else 0) = 0 := by simp [hfj]
            have h3 : (if decide (f j = 3) = true then 1 else 0) = 1 := by simp [hfj]
            rw [h0] at e0
            rw [h1] at e1
            rw [h2] at e2
            rw [h3] at e3
            have hix := fun w => run_index_s f hjl w
            rw [hfj] at hix
            clear hsx
            have E0 := Lib.hid e0
            have E1 := Lib.hid e1
            have E2 := Lib.hid e2
            have E3 := Lib.hid e3
            clear e0 e1 e2 e3 h0 h1 h2 h3 hfj
            go_wp2
            go_roundw
            case rel =>
              refine ⟨j + 1, by omega, by go_num, ?_, hul.setNew (by show _ ≤ N; exact Nat.le_of_eq HNN.out) _⟩
              rw [set_of HNC.out 3, E0.out, E1.out, E2.out, E3.out]
              simp
            case measure => simp [intOf]; omega
        · obtain rfl : j = 16 := by omega
          have k1 := cnt16 f 1 (by omega) HBIG.out
          have k2 := cnt16 f 2 (by omega) HBIG.out
          have k3 := cnt16 f 3 (by omega) HBIG.out
          rw [k1, k2, k3] at hNc
          have hcd := card_eq f HST.out.small
          have bd : card f ≤ 256 := cntP_le _ _
          have HCD := Lib.hid hcd
          go_wp2_with fail
          have hst2 := HST.out.upd hul (by simp) (by simp)
          refine (counts_at b m f _ hst2).mono ?_; rintro e w7 ⟨rfl, u7⟩
          have hN7 := u7.keep hNc (by simp)
          have d1 := cell_of hN7 1
          have d2 := cell_of hN7 2
          have d3 := cell_of hN7 3
          have hst7 := hst2.upd u7 (by simp) (by simp)
          have H7 := Lib.hid hst7; clear hst7 hst2 hN7 hNc k1 k2 k3
          have g1 : cnt f 1 ≤ 256 := cntP_le _ _
          have g2 : cnt f 2 ≤ 256 := cntP_le _ _
          have g3 : cnt f 3 ≤ 256 := cntP_le _ _
          have hsum : ((card f : Int) == (cnt f 1 : Int) + cnt f 2 + cnt f 3) = true := by simp; omega
          clear hcd
          go_wp2_with (first | (go_at_call 14; refine (len_at b m f _ H7.out).mono ?_; rintro e wx ⟨rfl, rfl⟩) | (go_at_call 15; refine (works_ok _).mono ?_; rintro e w8 ⟨rfl, u8⟩))
          go_ret
          exact ⟨rfl, ((hup.trans hul).trans u7).trans u8⟩

theorem once_fr (w : World) (v : Value) (css : List (List Value)) (hv : Recs w v 2 css ∧ ∀ cs ∈ css, IsMove cs) :
    Calls Try.prog 3 #[v] w fun e w' => e = .returned (.bool true) ∧ Upd [] w w' := once_ok v css w hv.1 hv.2

end Go.Proofs.Ytphpimbhhmkdkaa
