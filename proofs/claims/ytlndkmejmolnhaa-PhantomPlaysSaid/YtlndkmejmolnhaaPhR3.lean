/-
  Contracts of the document's reference table (estrayref27): Ids, Len, Copy; and of a nil one. Conditions: it is as New and its own calls leave it, or nil.
-/
import Derived.Test.YtlndkmejmolnhaaPhR2
import Derived.Deep.AppendSrc
import Derived.Deep.Upon
namespace Go.Proofs.Ytlndkmejmolnhaa
open Go.RowKit Go.Maps

/-- The ids below n that watch something. -/
def idsTo (g : Nat → Option Rf) (n : Nat) : List Int := ((List.range n).filter fun i => (g i).isSome).map fun i : Nat => (i : Int)
theorem idsTo_yes {g : Nat → Option Rf} {n : Nat} (h : (g n).isSome = true) : idsTo g (n + 1) = idsTo g n ++ [(n : Int)] := by
  unfold idsTo; rw [List.range_succ, List.filter_append]; simp [h]
theorem idsTo_no {g : Nat → Option Rf} {n : Nat} (h : g n = none) : idsTo g (n + 1) = idsTo g n := by
  unfold idsTo; rw [List.range_succ, List.filter_append]; simp [h]
theorem idsTo_le (g : Nat → Option Rf) (n : Nat) : (idsTo g n).length ≤ n := by
  unfold idsTo
  rw [List.length_map]
  exact Nat.le_trans (List.length_filter_le _ _) (by simp)
theorem idsTo_all {s : Pt} (ho : s.ok) : idsTo s.g s.size = idsG s.g := by
  have h : ∀ k, idsTo s.g (s.size + k) = idsTo s.g s.size := fun k => by
    induction k with
    | zero => rfl
    | succ k ih =>
      rw [← Nat.add_assoc, idsTo_no, ih]
      cases hg : s.g (s.size + k) with
      | none => rfl
      | some r => have := (ho.good _ r hg).1; omega
  have := h (256 - s.size)
  have hle := ho.le
  rw [show s.size + (256 - s.size) = 256 by omega] at this
  exact this.symm
set_option maxRecDepth 100000 in
set_option maxHeartbeats 1000000 in
theorem rids {w : World} {rb gl : Nat} {s : Pt} (h : PrAt w rb gl s) (ho : s.ok) :
    Calls Try.prog 35 #[.pointer (some ⟨rb, 0, none⟩)] w fun e w' => ∃ v, e = .returned v ∧ Ints w' v (idsG s.g) ∧ Upd [] w w' := by
  obtain ⟨cl, h⟩ := h
  have H := Lib.hid h
  have hN0 : 0 < s.size := ho.pos
  have hN : s.size ≤ 256 := ho.le
  have hcl : cl ≤ 9223372036854775807 := by have := h.c2; unfold maxLen at this; omega
  have hc1 := h.c1
  have HO := Lib.hid ho
  have HA := Lib.hid (idsTo_all ho)
  obtain ⟨i0, hii, hz0, hz1, hz2⟩ := info_parts info3
  clear h ho
  go_enter Try.func35, Try.ntmps35
  go_wp2_with (go_at_call 31; refine (rvalid H.out hN0).mono ?_; rintro e w' ⟨rfl, e1⟩; obtain rfl := e1)
  go_loopw [3, 4] (fun y x wr => ∃ i : Nat, i ≤ s.size ∧ x = .int .i64 i ∧ wr.ownsRow w.heap.size 3 1 y (idsTo s.g i).length ((idsTo s.g i).map (Value.int .i64)) ∧ Upd [] w wr) (fun _ x _ => s.size - (intOf x).toNat)
  case atStart => exact ⟨0, by omega, rfl, World.ownsRow_nil _ _ _ _, Upd.refl _ _⟩
  case round =>
    obtain ⟨i, hi, rfl, hown, hup⟩ := hrel
    have HUP := Lib.hid hup
    have HR := Lib.hid (H.out.upd hup (by simp) (by simp))
    have HOWN := Lib.hid hown
    have d0 : wr.cell? ⟨rb, 0, none⟩ = some (.slice (some ⟨gl, 0, none⟩) s.size cl) := cell_of HR.out.blk 0
    clear hown hup
    by_cases hlt : i < s.size
    · have k0 := HR.out.row.cell0 hlt
      have k1 := HR.out.row.cell1 hlt
      have hgl := HR.out.row.lt
      cases hg : s.g i with
      | none =>
        rw [gv_no hg] at k0 k1
        have HN := Lib.hid (idsTo_no hg)
        clear hg
        go_wp2_with fail
        go_roundw
        case rel => exact ⟨i + 1, by omega, by go_num, by rw [HN.out]; exact HOWN.out, HUP.out⟩
        case measure => simp [intOf]; omega
      | some r =>
        have hr := good_pos HO.out hg
        rw [gv_of hg] at k0 k1
        have HN := Lib.hid (idsTo_yes (g := s.g) (n := i) (by rw [hg]; rfl))
        have hll := idsTo_le s.g i
        obtain ⟨r1, r2⟩ := r
        dsimp only at hr k0 k1
        clear hg
        generalize idsTo s.g i = L at *
        have hlt2 := HOWN.out.lt
        have HLT := Lib.hid hlt2
        clear hlt2
        go_wp2_with (at_builtin; refine wpList_append_any _ rfl (.tmp 25) (.tmp 27) 39 rfl w.heap.size 3 i0 (.int .i64 0) 1 8 Try.underlying39 hii hz0 hz1 hz2 rfl (by decide) _ L.length _ rfl (HOWN.out.alloc _) _ 1 [.int .i64 i] rfl (sl_lit1 _ _ _ _) ?c1 ?c2 ?c3 ?_)
        case c1 => unfold maxLen; omega
        case c2 => omega
        case c3 => simp; have := HUP.out.size; omega
        intro g7 c7 w7 hown7 hgrow7
        have u7 : Upd [] w w7 := (HUP.out.alloc _).grown hgrow7 (fun g hg => (HLT.out g hg).1)
        have OWN7 := Lib.hid hown7; have U7 := Lib.hid u7
        clear hown7 hgrow7 u7
        go_wp2_with fail
        go_roundw
        case rel =>
          refine ⟨i + 1, by omega, by go_num, ?_, U7.out⟩
          rw [HN.out, List.length_append, List.length_singleton, List.map_append]
          exact OWN7.out
        case measure => simp [intOf]; omega
    · obtain rfl : i = s.size := by omega
      go_wp2_with fail
      go_ret
      exact ⟨_, rfl, by rw [← HA.out]; exact Ints.ofOwn HOWN.out, HUP.out⟩
theorem rlen {w : World} {rb gl : Nat} {s : Pt} (h : PrAt w rb gl s) (ho : s.ok) :
    Calls Try.prog 36 #[.pointer (some ⟨rb, 0, none⟩)] w fun e w' => e = .returned (.int .i64 s.card) ∧ Upd [] w w' := by
  have HI := Lib.hid (rids h ho)
  have HL := Lib.hid (show (idsG s.g).length = s.card from idsG_length s.g)
  clear h ho
  go_enter Try.func36, Try.ntmps36
  go_wp2_with fail
  refine HI.out.mono ?_; rintro e w2 ⟨v, rfl, hI, u⟩
  obtain ⟨va, vc, rfl, hvc1, hvc2⟩ := hI.form
  go_wp2_with fail
  go_ret
  exact ⟨by rw [HL.out]; rfl, u⟩
set_option maxRecDepth 100000 in
theorem rcopy {w : World} {rb gl : Nat} {s : Pt} (h : PrAt w rb gl s) (ho : s.ok) :
    Calls Try.prog 23 #[.pointer (some ⟨rb, 0, none⟩)] w fun e w' => ∃ rb2 gl2, e = .returned (.pointer (some ⟨rb2, 0, none⟩)) ∧ PrAt w' rb2 gl2 s ∧ w.heap.size ≤ gl2 ∧ Upd [] w w' := by
  obtain ⟨cl, h⟩ := h
  have H := Lib.hid h
  have hN0 : 0 < s.size := ho.pos
  have hN : s.size ≤ 256 := ho.le
  have c0 : w.cell? ⟨rb, 0, none⟩ = some (.slice (some ⟨gl, 0, none⟩) s.size cl) := cell_of h.blk 0
  have kl := lt_of_block h.blk
  obtain ⟨i0, hii, hz0, hz1, hz2⟩ := info_parts infoR
  have hS : SlAt (w.alloc (.cells #[] 24)) 24 2 (.slice (some ⟨gl, 0, none⟩) s.size cl) s.size (rcells (gv s.g) s.size) := (H.out.row.upd ((Upd.refl [] _).alloc _) (by simp)).sl H.out.c1 H.out.c2
  have HS := Lib.hid hS
  clear h hS ho
  go_enter Try.func23, Try.ntmps23
  go_wp2_with (first | (go_at_call 31; refine (rvalid H.out hN0).mono ?_; rintro e w' ⟨rfl, e1⟩; obtain rfl := e1) | (at_builtin; refine wpList_append_any _ rfl (.tmp 6) (.tmp 10) 71 rfl w.heap.size 24 i0 _ 2 16 Try.underlying71 hii hz0 hz1 hz2 rfl (by decide) _ 0 [] rfl (owns_lit0 w 24 2) _ s.size _ rfl HS.out ?c1 ?c2 ?c3 ?_))
  case c1 => unfold maxLen; omega
  case c2 => omega
  case c3 => simp
  intro g7 c7 w7 hown7 hgrow7
  have u7 : Upd [] w w7 := ((Upd.refl _ _).alloc _).grown hgrow7 (fun g hg => by simp [Value.ownBlock] at hg; omega)
  obtain ⟨g, c, he, hc1, hc2, hbg, hrow⟩ := RefRow.ofOwn (by simpa using hown7) (show 0 < s.size by omega)
  simp only [Value.slice.injEq, true_and] at he
  obtain ⟨rfl, rfl⟩ := he
  have U7 := Lib.hid u7; have ROW := Lib.hid hrow
  clear hown7 hgrow7 u7 hrow
  go_wp2_with fail
  go_ret
  have ue : ∀ o, Upd [] w7 (w7.alloc o) := fun o => (Upd.refl _ _).alloc o
  exact ⟨w7.heap.size, g, rfl, ⟨_, new_of _ _, ROW.out.upd (ue _) (by simp), hc1, hc2⟩, hbg, U7.out.trans (ue _)⟩

/-! ### a nil table -/
theorem rnvalid (w : World) : Calls Try.prog 31 #[.pointer none] w fun e w' => e = .returned (.bool false) ∧ w = w' := by
  go_enter Try.func31, Try.ntmps31
  go_wp2
  go_ret
  exact ⟨rfl, rfl⟩
theorem rnof (id : Int) (w : World) : Calls Try.prog 33 #[.pointer none, .int .i64 id] w fun e w' => e = .returned (.tuple #[.agg #[.int .i64 0, .int .u32 0], .bool false]) ∧ Upd [] w w' := by
  have zR := zeroR
  go_enter Try.func33, Try.ntmps33
  go_wp2_with (go_at_call 31; refine (rnvalid _).mono ?_; rintro e w' ⟨rfl, e1⟩; obtain rfl := e1)
  go_returns
  exact ⟨rfl, (Upd.refl _ _).alloc _⟩
theorem rnby (a b : Int) (w : World) : Calls Try.prog 34 #[.pointer none, .agg #[.int .i64 a, .int .u32 b]] w fun e w' => e = .returned (.tuple #[.int .i64 0, .bool false]) ∧ Upd [] w w' := by
  go_enter Try.func34, Try.ntmps34
  go_wp2_with (go_at_call 31; refine (rnvalid _).mono ?_; rintro e w' ⟨rfl, e1⟩; obtain rfl := e1)
  go_ret2
  exact ⟨rfl, (Upd.refl _ _).alloc _⟩
theorem rnadd (id a b : Int) (w : World) : Calls Try.prog 21 #[.pointer none, .int .i64 id, .agg #[.int .i64 a, .int .u32 b]] w fun e w' => e = .returned (.int .i64 1) ∧ Upd [] w w' := by
  go_enter Try.func21, Try.ntmps21
  go_wp2_with (go_at_call 31; refine (rnvalid _).mono ?_; rintro e w' ⟨rfl, e1⟩; obtain rfl := e1)
  go_ret
  exact ⟨rfl, (Upd.refl _ _).alloc _⟩
theorem rnclr (id : Int) (w : World) : Calls Try.prog 22 #[.pointer none, .int .i64 id] w fun e w' => e = .returned (.tuple #[.agg #[.int .i64 0, .int .u32 0], .int .i64 1]) ∧ Upd [] w w' := by
  have zR := zeroR
  go_enter Try.func22, Try.ntmps22
  go_wp2_with (go_at_call 31; refine (rnvalid _).mono ?_; rintro e w' ⟨rfl, e1⟩; obtain rfl := e1)
  go_returns
  exact ⟨rfl, (Upd.refl _ _).alloc _⟩
theorem rnids (w : World) : Calls Try.prog 35 #[.pointer none] w fun e w' => e = .returned (.slice none 0 0) ∧ w = w' := by
  go_enter Try.func35, Try.ntmps35
  go_wp2_with (go_at_call 31; refine (rnvalid _).mono ?_; rintro e w' ⟨rfl, e1⟩; obtain rfl := e1)
  go_ret
  exact ⟨rfl, rfl⟩
theorem rnlen (w : World) : Calls Try.prog 36 #[.pointer none] w fun e w' => e = .returned (.int .i64 0) ∧ w = w' := by
  go_enter Try.func36, Try.ntmps36
  go_wp2_with (go_at_call 35; refine (rnids _).mono ?_; rintro e w' ⟨rfl, e1⟩; obtain rfl := e1)
  go_ret
  exact ⟨rfl, rfl⟩
theorem rncopy (w : World) : Calls Try.prog 23 #[.pointer none] w fun e w' => e = .returned (.pointer none) ∧ w = w' := by
  go_enter Try.func23, Try.ntmps23
  go_wp2_with (go_at_call 31; refine (rnvalid _).mono ?_; rintro e w' ⟨rfl, e1⟩; obtain rfl := e1)
  go_ret
  exact ⟨rfl, rfl⟩

end Go.Proofs.Ytlndkmejmolnhaa
