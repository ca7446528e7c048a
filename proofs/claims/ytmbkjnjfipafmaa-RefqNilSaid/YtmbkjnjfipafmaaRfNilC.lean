/-
  Contracts of the package refq at a queue that is nil or was not made by New. Conditions: none.
-/
import Derived.Test.YtmbkjnjfipafmaaRf
namespace Go.Proofs.Ytmbkjnjfipafmaa
open Go.RowKit Go.Maps

/-- No reference queue: nil, or the zero one. -/
def NoRf (w : World) (v : Value) : Prop := v = .pointer none ∨ ∃ b, v = .pointer (some ⟨b, 0, none⟩) ∧ w.cell? ⟨b, 3, none⟩ = some (.int .i64 0)
theorem NoRf.upd0 {w w' : World} {v : Value} (h : NoRf w v) (u : Upd [] w w') : NoRf w' v := by
  rcases h with h | ⟨b, h, hc⟩
  · exact .inl h
  · exact .inr ⟨b, h, (u.cell (p := ⟨b, 3, none⟩) (World.block_lt_of_cell? w _ hc) (by simp)).trans hc⟩
theorem nvalid {w : World} {v : Value} (h : NoRf w v) : Calls Try.prog 39 #[v] w fun e w' => e = .returned (.bool false) ∧ w = w' := by
  rcases h with rfl | ⟨b, rfl, hc⟩
  all_goals
    go_enter Try.func39, Try.ntmps39
    go_wp2
    go_ret
    exact ⟨rfl, rfl⟩
theorem nfound {w : World} {v : Value} (h : NoRf w v) (a b : Int) : Calls Try.prog 15 #[v, .agg #[.int .i64 a, .int .u32 b]] w fun e w' => e = .returned (.tuple #[.bool false, .int .i64 1]) ∧ Upd [] w w' := by
  have u1 : Upd [] w (w.alloc (.cells #[.int .i64 a, .int .u32 b] 36)) := (Upd.refl _ _).alloc _
  have HN := Lib.hid (h.upd0 u1)
  have HU := Lib.hid u1
  clear h u1
  go_enter Try.func15, Try.ntmps15
  go_wp2_with (go_at_call 39; refine (nvalid HN.out).mono ?_; rintro e w' ⟨rfl, rfl⟩)
  go_ret2
  exact ⟨rfl, HU.out⟩
theorem nwatches {w : World} {v : Value} (h : NoRf w v) (a b : Int) : Calls Try.prog 14 #[v, .agg #[.int .i64 a, .int .u32 b]] w fun e w' => e = .returned (.tuple #[.int .i64 0, .bool false]) ∧ Upd [] w w' := by
  have u1 : Upd [] w (w.alloc (.cells #[.int .i64 a, .int .u32 b] 36)) := (Upd.refl _ _).alloc _
  have HN := Lib.hid (h.upd0 u1)
  have HU := Lib.hid u1
  clear h u1
  go_enter Try.func14, Try.ntmps14
  go_wp2_with (go_at_call 39; refine (nvalid HN.out).mono ?_; rintro e w' ⟨rfl, rfl⟩)
  go_ret2
  exact ⟨rfl, HU.out⟩
theorem npoll {w : World} {v : Value} (h : NoRf w v) : Calls Try.prog 16 #[v] w fun e w' => e = .returned (.tuple #[.int .i64 0, .bool false]) ∧ w = w' := by
  have HN := Lib.hid h
  clear h
  go_enter Try.func16, Try.ntmps16
  go_wp2_with (go_at_call 39; refine (nvalid HN.out).mono ?_; rintro e w' ⟨rfl, rfl⟩)
  go_ret2
  exact ⟨rfl, rfl⟩
theorem nroom {w : World} {v : Value} (h : NoRf w v) : Calls Try.prog 22 #[v] w fun e w' => e = .returned (.int .i64 0) ∧ w = w' := by
  have HN := Lib.hid h
  clear h
  go_enter Try.func22, Try.ntmps22
  go_wp2_with (go_at_call 39; refine (nvalid HN.out).mono ?_; rintro e w' ⟨rfl, rfl⟩)
  go_ret
  exact ⟨rfl, rfl⟩
theorem nlen {w : World} {v : Value} (h : NoRf w v) : Calls Try.prog 23 #[v] w fun e w' => e = .returned (.int .i64 0) ∧ w = w' := by
  have HN := Lib.hid h
  clear h
  go_enter Try.func23, Try.ntmps23
  go_wp2_with (go_at_call 39; refine (nvalid HN.out).mono ?_; rintro e w' ⟨rfl, rfl⟩)
  go_ret
  exact ⟨rfl, rfl⟩
theorem nwaiting {w : World} {v : Value} (h : NoRf w v) : Calls Try.prog 18 #[v] w fun e w' => e = .returned (.slice none 0 0) ∧ w = w' := by
  have HN := Lib.hid h
  clear h
  go_enter Try.func18, Try.ntmps18
  go_wp2_with (go_at_call 39; refine (nvalid HN.out).mono ?_; rintro e w' ⟨rfl, rfl⟩)
  go_ret
  exact ⟨rfl, rfl⟩
theorem ncopy {w : World} {v : Value} (h : NoRf w v) : Calls Try.prog 29 #[v] w fun e w' => e = .returned (.pointer none) ∧ w = w' := by
  have HN := Lib.hid h
  clear h
  go_enter Try.func29, Try.ntmps29
  go_wp2_with (go_at_call 39; refine (nvalid HN.out).mono ?_; rintro e w' ⟨rfl, rfl⟩)
  go_ret
  exact ⟨rfl, rfl⟩
theorem nwith {w : World} {v : Value} (h : NoRf w v) (id : Int) (f : Value) : Calls Try.prog 33 #[v, .int .i64 id, f] w fun e w' => e = .returned (.int .i64 1) ∧ w = w' := by
  have HN := Lib.hid h
  clear h
  go_enter Try.func33, Try.ntmps33
  go_wp2_with (go_at_call 39; refine (nvalid HN.out).mono ?_; rintro e w' ⟨rfl, rfl⟩)
  go_ret
  exact ⟨rfl, rfl⟩
theorem nreg {w : World} {v : Value} (h : NoRf w v) (id a b : Int) : Calls Try.prog 13 #[v, .int .i64 id, .agg #[.int .i64 a, .int .u32 b]] w fun e w' => e = .returned (.int .i64 1) ∧ Upd [] w w' := by
  have u1 : Upd [] w (((w.alloc (.cells #[v] 30)).alloc (.cells #[.int .i64 id] 3)).alloc (.cells #[.int .i64 a, .int .u32 b] 36)) := (((Upd.refl _ _).alloc _).alloc _).alloc _
  have HN := Lib.hid (h.upd0 u1)
  have HU := Lib.hid u1
  clear u1
  rcases h with rfl | ⟨b, rfl, hc⟩
  · go_enter Try.func13, Try.ntmps13
    go_wp2_with (go_at_call 33; refine (nwith HN.out _ _).mono ?_; rintro e w5 ⟨rfl, rfl⟩)
    go_ret
    exact ⟨rfl, HU.out⟩
  · clear hc
    go_enter Try.func13, Try.ntmps13
    go_wp2_with (go_at_call 33; refine (nwith HN.out _ _).mono ?_; rintro e w5 ⟨rfl, rfl⟩)
    go_ret
    exact ⟨rfl, HU.out⟩
theorem ncancel {w : World} {v : Value} (h : NoRf w v) (id : Int) : Calls Try.prog 17 #[v, .int .i64 id] w fun e w' => e = .returned (.tuple #[.bool false, .int .i64 1]) ∧ Upd [] w w' := by
  have u1 : Upd [] w (((w.alloc (.cells #[v] 30)).alloc (.cells #[.int .i64 id] 3)).alloc (.cells #[.bool false] 4)) := (((Upd.refl _ _).alloc _).alloc _).alloc _
  have HN := Lib.hid (h.upd0 u1)
  have HU := Lib.hid u1
  clear u1
  rcases h with rfl | ⟨b, rfl, hc⟩
  · go_enter Try.func17, Try.ntmps17
    go_wp2_with (go_at_call 33; refine (nwith HN.out _ _).mono ?_; rintro e w5 ⟨rfl, rfl⟩)
    go_ret2
    exact ⟨rfl, HU.out⟩
  · clear hc
    go_enter Try.func17, Try.ntmps17
    go_wp2_with (go_at_call 33; refine (nwith HN.out _ _).mono ?_; rintro e w5 ⟨rfl, rfl⟩)
    go_ret2
    exact ⟨rfl, HU.out⟩

end Go.Proofs.Ytmbkjnjfipafmaa
