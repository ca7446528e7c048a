/-
  Contracts of the document's reference table (estrayref27): New, valid, id, Of, By. Conditions: it is as New and its own calls leave it.
-/
import Derived.Test.YtlndkmejmolnhaaPhNil
import Derived.Test.YtlndkmejmolnhaaRefRow
namespace Go.Proofs.Ytlndkmejmolnhaa
open Go.RowKit Go.Maps

theorem ne_types {w : World} {b b' : Nat} {c c' : Array Value} {t t' : TypeId} {f f' : Nat × Nat} (h : w.heap[b]? = some (.cells c t f)) (h' : w.heap[b']? = some (.cells c' t' f')) (ht : t ≠ t') : b ≠ b' := by
  rintro rfl
  rw [h] at h'
  simp at h'
  exact ht h'.2.1
/-- What an id watches; the zero object: nothing. -/
def gv (g : Nat → Option Rf) (i : Nat) : Rf := (g i).getD (0, 0)
theorem gv_set (g : Nat → Option Rf) (i : Nat) (o : Option Rf) : gv (setG g i o) = setR (gv g) i (o.getD (0, 0)) := by
  funext j
  unfold gv setG setR
  split <;> rfl
theorem gv_of {s : Pt} {i : Nat} {r : Rf} (h : s.g i = some r) : gv s.g i = r := by unfold gv; rw [h]; rfl
theorem gv_no {s : Pt} {i : Nat} (h : s.g i = none) : gv s.g i = (0, 0) := by unfold gv; rw [h]; rfl
theorem of_gv {s : Pt} {i : Nat} {r : Rf} (h : gv s.g i = r) (hr : 0 < r.2) : s.g i = some r := by
  unfold gv at h
  cases hg : s.g i with
  | none => rw [hg] at h; simp at h; subst h; simp at hr
  | some y => rw [hg] at h; simp at h; rw [h]
theorem good_pos {s : Pt} (ho : s.ok) {i : Nat} {r : Rf} (h : s.g i = some r) : 0 < r.2 := (ho.good i r h).2.2.2.1
theorem qbyI_none {s : Pt} {r : Rf} (h : ∀ i, i < s.size → s.g i ≠ some r) : s.byI r = none := by
  cases hb : s.byI r with
  | none => rfl
  | some i =>
    have h1 := byI_some hb
    unfold Pt.byI at hb
    have h2 := List.mem_of_find?_eq_some hb
    exact absurd h1 (h i (by simpa using h2))
/-- A reference table of the document's at a block. -/
structure PrIn (w : World) (rb gl cl N : Nat) (F : Nat → Rf) : Prop where
  blk : w.heap[rb]? = some (.cells #[.slice (some ⟨gl, 0, none⟩) N cl] 73 (0, 0))
  row : RefRow w gl N F
  c1 : N ≤ cl
  c2 : cl ≤ maxLen
def PrAt (w : World) (rb gl : Nat) (s : Pt) : Prop := ∃ cl, PrIn w rb gl cl s.size (gv s.g)
theorem PrIn.upd {w w' : World} {rb gl cl N : Nat} {F : Nat → Rf} (h : PrIn w rb gl cl N F) {S : List Nat} (u : Upd S w w') (h1 : rb ∉ S) (h2 : gl ∉ S) : PrIn w' rb gl cl N F :=
  ⟨u.keep h.blk h1, h.row.upd u h2, h.c1, h.c2⟩
theorem PrAt.upd {w w' : World} {rb gl : Nat} {s : Pt} (h : PrAt w rb gl s) {S : List Nat} (u : Upd S w w') (h1 : rb ∉ S) (h2 : gl ∉ S) : PrAt w' rb gl s := by
  obtain ⟨cl, h⟩ := h; exact ⟨cl, h.upd u h1 h2⟩
theorem PrAt.upd0 {w w' : World} {rb gl : Nat} {s : Pt} (h : PrAt w rb gl s) (u : Upd [] w w') : PrAt w' rb gl s := h.upd u (by simp) (by simp)
theorem PrAt.blk {w : World} {rb gl : Nat} {s : Pt} (h : PrAt w rb gl s) : ∃ c, w.heap[rb]? = some (.cells c 73 (0, 0)) := by
  obtain ⟨cl, h⟩ := h; exact ⟨_, h.blk⟩
theorem PrAt.row {w : World} {rb gl : Nat} {s : Pt} (h : PrAt w rb gl s) : RefRow w gl s.size (gv s.g) := by
  obtain ⟨cl, h⟩ := h; exact h.row
/-- The program's table was written. -/
theorem PrAt.go {w w' : World} {rb gl b m n : Nat} {s s2 : Pt} (h : PrAt w rb gl s) (p : PtAt w b m n s2) (u : Upd [m, n] w w') : PrAt w' rb gl s := by
  obtain ⟨c, hc⟩ := h.blk
  obtain ⟨d, hd⟩ := h.row.blk
  exact h.upd u (by simp; exact ⟨p.nem hc, p.nen hc⟩) (by simp; exact ⟨p.nem hd, p.nen hd⟩)
/-- The reference's row was written. -/
theorem PtAt.ref {w w' : World} {rb gl b m n : Nat} {s s2 : Pt} (p : PtAt w b m n s) (h : PrAt w rb gl s2) (u : Upd [gl] w w') : PtAt w' b m n s := by
  obtain ⟨d, hd⟩ := h.row.blk
  exact p.upd u (by simpa using ne_types p.blk hd (by decide)) (by simpa using Ne.symm (p.nem hd)) (by simpa using Ne.symm (p.nen hd))
/-- Another's row was written. -/
theorem PrAt.other {w w' : World} {rb gl rb2 gl2 : Nat} {s s2 : Pt} (h : PrAt w rb gl s) (h2 : PrAt w rb2 gl2 s2) (hne : gl ≠ gl2) (u : Upd [gl2] w w') : PrAt w' rb gl s := by
  obtain ⟨c, hc⟩ := h.blk
  obtain ⟨d, hd⟩ := h2.row.blk
  exact h.upd u (by simpa using ne_types hc hd (by decide)) (by simpa using hne)

theorem rvalid {w : World} {rb gl cl N : Nat} {F : Nat → Rf} (h : PrIn w rb gl cl N F) (hN : 0 < N) : Calls Try.prog 31 #[.pointer (some ⟨rb, 0, none⟩)] w fun e w' => e = .returned (.bool true) ∧ w = w' := by
  have c0 : w.cell? ⟨rb, 0, none⟩ = some (.slice (some ⟨gl, 0, none⟩) N cl) := cell_of h.blk 0
  clear h
  go_enter Try.func31, Try.ntmps31
  go_wp2
  go_ret
  exact ⟨rfl, rfl⟩
theorem rid {w : World} {rb gl cl N : Nat} {F : Nat → Rf} (h : PrIn w rb gl cl N F) (n : Int) : Calls Try.prog 32 #[.pointer (some ⟨rb, 0, none⟩), .int .i64 n] w fun e w' => e = .returned (.bool (decide (0 ≤ n ∧ n < N))) ∧ w = w' := by
  have c0 : w.cell? ⟨rb, 0, none⟩ = some (.slice (some ⟨gl, 0, none⟩) N cl) := cell_of h.blk 0
  clear h
  by_cases h0 : 0 ≤ n
  · by_cases h1 : n < N
    · rw [decide_eq_true ⟨h0, h1⟩]
      go_enter Try.func32, Try.ntmps32
      go_wp2
      go_ret
      exact ⟨rfl, rfl⟩
    · rw [decide_eq_false (fun h => h1 h.2)]
      go_enter Try.func32, Try.ntmps32
      go_wp2
      go_ret
      exact ⟨rfl, rfl⟩
  · rw [decide_eq_false (fun h => h0 h.1)]
    go_enter Try.func32, Try.ntmps32
    go_wp2
    go_ret
    exact ⟨rfl, rfl⟩
theorem rnew_err (k : Int) (w : World) (h : k < 1 ∨ 256 < k) : Calls Try.prog 20 #[.int .i64 k] w fun e w' => e = .returned (.tuple #[.pointer none, .int .i64 2]) ∧ w = w' := by
  rcases h with h | h
  · go_enter Try.func20, Try.ntmps20
    go_wp2
    go_ret2
    exact ⟨rfl, rfl⟩
  · have h0 : ¬ k < 1 := by omega
    go_enter Try.func20, Try.ntmps20
    go_wp2
    go_ret2
    exact ⟨rfl, rfl⟩
set_option maxRecDepth 100000 in
theorem rnew_ok (a : Nat) (w : World) (h1 : 1 ≤ a) (h2 : a ≤ 256) :
    Calls Try.prog 20 #[.int .i64 a] w fun e w' => ∃ rb gl, e = .returned (.tuple #[.pointer (some ⟨rb, 0, none⟩), .int .i64 0]) ∧ PrAt w' rb gl ⟨a, fun _ => none⟩ ∧ w.heap.size ≤ gl ∧ Upd [] w w' := by
  have hmk := makeR a h2
  go_enter Try.func20, Try.ntmps20
  go_wp2_with fail
  go_ret2
  refine ⟨w.heap.size + 1, w.heap.size, rfl, ⟨a, ?_, (RefRow.new w a (fun _ => (0, 0))).upd ((Upd.refl [] _).alloc _) (by simp), Nat.le_refl _, by unfold maxLen; show a ≤ _; omega⟩, Nat.le_refl _, ((Upd.refl _ _).alloc _).alloc _⟩
  have := new_of (w.alloc (.cells (vcells (rcell (fun _ => (0, 0))) (a * 2)) 24)) (.cells #[.slice (some ⟨w.heap.size, 0, none⟩) a a] 73)
  rw [World.size_alloc] at this
  exact this
set_option maxRecDepth 100000 in
theorem rof {w : World} {rb gl : Nat} {s : Pt} (h : PrAt w rb gl s) (ho : s.ok) (id : Int) :
    Calls Try.prog 33 #[.pointer (some ⟨rb, 0, none⟩), .int .i64 id] w fun e w' => e = .returned (.tuple #[refV ((s.ofI id).getD (0, 0)), .bool (s.ofI id).isSome]) ∧ Upd [] w w' := by
  obtain ⟨cl, h⟩ := h
  have u1 : Upd [] w (w.alloc (.cells #[.int .i64 0, .int .u32 0] 24)) := (Upd.refl _ _).alloc _
  have H := Lib.hid (h.upd u1 (by simp) (by simp))
  have hN0 : 0 < s.size := ho.pos
  have hN : s.size ≤ 256 := ho.le
  have hcl : cl ≤ 9223372036854775807 := by have := h.c2; unfold maxLen at this; omega
  have hc1 := h.c1
  have c0 : w.cell? ⟨rb, 0, none⟩ = some (.slice (some ⟨gl, 0, none⟩) s.size cl) := cell_of h.blk 0
  have hbl := lt_of_block h.blk
  have hgl := h.row.lt
  have HR := Lib.hid h.row
  have zR := zeroR
  clear h u1
  by_cases hid : 0 ≤ id ∧ id < s.size
  · obtain ⟨i, rfl⟩ := Int.eq_ofNat_of_zero_le hid.1
    have hi : i < s.size := by omega
    have hd : decide ((0 : Int) ≤ (i : Int) ∧ (i : Int) < s.size) = true := decide_eq_true hid
    have HI : Hid (Calls Try.prog 32 #[.pointer (some ⟨rb, 0, none⟩), .int .i64 i] (w.alloc (.cells #[.int .i64 0, .int .u32 0] 24)) fun e w' => e = .returned (.bool true) ∧ (w.alloc (.cells #[.int .i64 0, .int .u32 0] 24)) = w') := Lib.hid ((rid H.out (i : Int)).mono (fun e w' hh => by rw [hd] at hh; exact hh))
    rw [ofI_nat ho]
    have k0 := HR.out.cell0 hi
    have k1 := HR.out.cell1 hi
    clear hid hd
    cases hg : s.g i with
    | none =>
      rw [gv_no hg] at k0 k1
      dsimp only [Option.getD_none, Option.isSome_none] at k0 k1 ⊢
      unfold refV
      clear hg ho
      go_enter Try.func33, Try.ntmps33
      go_wp2_with (first | (go_at_call 31; refine (rvalid H.out hN0).mono ?_; rintro e w' ⟨rfl, e1⟩; obtain rfl := e1) | (go_at_call 32; refine HI.out.mono ?_; rintro e w' ⟨rfl, e1⟩; obtain rfl := e1))
      go_returns
      exact ⟨rfl, (Upd.refl _ _).alloc _⟩
    | some r =>
      have hr := good_pos ho hg
      rw [gv_of hg] at k0 k1
      obtain ⟨r1, r2⟩ := r
      dsimp only [Option.getD_some, Option.isSome_some] at k0 k1 hr ⊢
      unfold refV
      have hr0 : (r2 == 0) = false := by simp; omega
      clear hg ho
      go_enter Try.func33, Try.ntmps33
      go_wp2_with (first | (go_at_call 31; refine (rvalid H.out hN0).mono ?_; rintro e w' ⟨rfl, e1⟩; obtain rfl := e1) | (go_at_call 32; refine HI.out.mono ?_; rintro e w' ⟨rfl, e1⟩; obtain rfl := e1))
      go_returns
      exact ⟨rfl, (Upd.refl _ _).alloc _⟩
  · have hd : decide ((0 : Int) ≤ id ∧ id < s.size) = false := decide_eq_false hid
    have HI : Hid (Calls Try.prog 32 #[.pointer (some ⟨rb, 0, none⟩), .int .i64 id] (w.alloc (.cells #[.int .i64 0, .int .u32 0] 24)) fun e w' => e = .returned (.bool false) ∧ (w.alloc (.cells #[.int .i64 0, .int .u32 0] 24)) = w') := Lib.hid ((rid H.out id).mono (fun e w' hh => by rw [hd] at hh; exact hh))
    rw [show s.ofI id = none from by unfold Pt.ofI; rw [if_neg hid]]
    clear hid hd ho
    dsimp only [Option.getD_none, Option.isSome_none]
    unfold refV
    go_enter Try.func33, Try.ntmps33
    go_wp2_with (first | (go_at_call 31; refine (rvalid H.out hN0).mono ?_; rintro e w' ⟨rfl, e1⟩; obtain rfl := e1) | (go_at_call 32; refine HI.out.mono ?_; rintro e w' ⟨rfl, e1⟩; obtain rfl := e1))
    go_returns
    exact ⟨rfl, (Upd.refl _ _).alloc _⟩
set_option maxRecDepth 100000 in
set_option maxHeartbeats 1000000 in
theorem rby {w : World} {rb gl : Nat} {s : Pt} (h : PrAt w rb gl s) (ho : s.ok) (r : Rf) :
    Calls Try.prog 34 #[.pointer (some ⟨rb, 0, none⟩), .agg #[.int .i64 r.1, .int .u32 r.2]] w fun e w' => e = .returned (.tuple #[.int .i64 ((s.byI r).getD 0 : Nat), .bool (s.byI r).isSome]) ∧ Upd [] w w' := by
  obtain ⟨cl, h⟩ := h
  obtain ⟨r1, r2⟩ := r
  have u1 : Upd [] w (w.alloc (.cells #[.int .i64 r1, .int .u32 r2] 24)) := (Upd.refl _ _).alloc _
  have hX := new_of w (.cells #[.int .i64 r1, .int .u32 r2] 24)
  have H := Lib.hid (h.upd u1 (by simp) (by simp)); have HU := Lib.hid u1
  have hN0 : 0 < s.size := ho.pos
  have hN : s.size ≤ 256 := ho.le
  have hcl : cl ≤ 9223372036854775807 := by have := h.c2; unfold maxLen at this; omega
  have hc1 := h.c1
  have HO := Lib.hid ho
  clear h u1 ho
  have eR := eqR
  have gR := gdR
  have zR := zeroR
  dsimp only
  by_cases hr : 0 < r2
  · go_enter Try.func34, Try.ntmps34
    go_wp2_with fail
    generalize w.alloc (.cells #[.int .i64 r1, .int .u32 r2] 24) = V at *
    generalize w.heap.size = X at *
    have HX := Lib.hid hX
    have x0 : V.cell? ⟨X, 0, none⟩ = some (.int .i64 r1) := cell_of hX 0
    have x1 : V.cell? ⟨X, 1, none⟩ = some (.int .u32 r2) := cell_of hX 1
    clear hX
    refine (rvalid H.out hN0).mono ?_; rintro e w' ⟨rfl, e1⟩; obtain rfl := e1
    go_wp2_with fail
    clear x0 x1
    go_loopw [6] (fun x wr => ∃ i : Nat, i ≤ s.size ∧ x = .int .i64 i ∧ (∀ j, j < i → s.g j ≠ some (r1, r2)) ∧ Upd [] V wr) (fun x _ => s.size - (intOf x).toNat)
    case atStart => exact ⟨0, by omega, rfl, fun j hj => by omega, Upd.refl _ _⟩
    case round =>
      obtain ⟨i, hi, rfl, hno, hup⟩ := hrel
      have HNO := Lib.hid hno; have HUP := Lib.hid hup
      have HR := Lib.hid (H.out.upd hup (by simp) (by simp))
      have d0 : wr.cell? ⟨rb, 0, none⟩ = some (.slice (some ⟨gl, 0, none⟩) s.size cl) := cell_of HR.out.blk 0
      have x0 : wr.cell? ⟨X, 0, none⟩ = some (.int .i64 r1) := cell_of (hup.keep HX.out (by simp)) 0
      have x1 : wr.cell? ⟨X, 1, none⟩ = some (.int .u32 r2) := cell_of (hup.keep HX.out (by simp)) 1
      clear hno hup
      by_cases hlt : i < s.size
      · have k0 := HR.out.row.cell0 hlt
        have k1 := HR.out.row.cell1 hlt
        obtain ⟨⟨o1, o2⟩, hov⟩ : ∃ x : Rf, gv s.g i = x := ⟨_, rfl⟩
        rw [hov] at k0 k1
        dsimp only at k0 k1
        have HOV := Lib.hid hov
        have hgl := HR.out.row.lt
        clear hov
        cases he : (o1 == r1 && o2 == r2) with
        | true =>
          simp only [Bool.and_eq_true, beq_iff_eq] at he
          obtain ⟨rfl, rfl⟩ := he
          have hby : s.byI (o1, o2) = some i := byI_of HO.out (of_gv HOV.out hr)
          have e1 : (o1 == o1 && o2 == o2) = true := by simp
          have HBY := Lib.hid hby
          clear hby
          go_wp2_with fail
          go_quiet (fail)
          go_wp2_with fail
          go_ret2
          exact ⟨by rw [HBY.out]; rfl, (HU.out.trans HUP.out).drewN _⟩
        | false =>
          have HNG := Lib.hid (show s.g i ≠ some (r1, r2) from fun hg => by
            have := (HOV.out.symm.trans (gv_of hg))
            simp only [Prod.mk.injEq] at this
            rw [this.1, this.2] at he
            simp at he)
          go_wp2_with fail
          go_quiet (fail)
          go_wp2_with fail
          go_roundw
          case rel =>
            refine ⟨i + 1, by omega, by go_num, fun j hj => ?_, HUP.out.drewN _⟩
            by_cases e : j = i
            · subst e; exact HNG.out
            · exact HNO.out j (by omega)
          case measure => simp [intOf]; omega
      · have HB := Lib.hid (qbyI_none (s := s) (r := (r1, r2)) (fun j hj => HNO.out j (by omega)))
        go_wp2_with fail
        go_ret2
        exact ⟨by rw [HB.out]; rfl, HU.out.trans HUP.out⟩
  · have HB := Lib.hid (qbyI_none (s := s) (r := (r1, r2)) (fun j _ hg => hr (good_pos HO.out hg)))
    go_enter Try.func34, Try.ntmps34
    go_wp2_with (go_at_call 31; refine (rvalid H.out hN0).mono ?_; rintro e w' ⟨rfl, e1⟩; obtain rfl := e1)
    go_ret2
    exact ⟨by rw [HB.out]; rfl, HU.out⟩
end Go.Proofs.Ytlndkmejmolnhaa
