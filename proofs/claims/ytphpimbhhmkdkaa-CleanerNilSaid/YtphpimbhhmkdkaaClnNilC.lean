/-
  Contracts of the package cleaner at tables that are nil, or zero. Conditions: none.
-/
import Derived.Test.YtphpimbhhmkdkaaClnWorks
import Derived.Laws.IdiomRangeMap
namespace Go.Proofs.Ytphpimbhhmkdkaa
open Go.RowKit Go.Maps

/-- A table that is nil, or whose map is nil. -/
def NoT (w : World) (p : Option Addr) : Prop := p = none ∨ ∃ b, p = some ⟨b, 0, none⟩ ∧ w.heap[b]? = some (.cells #[.map none] 60 (0, 0))
theorem NoT.upd {w w' : World} {p : Option Addr} (h : NoT w p) (u : Upd [] w w') : NoT w' p := by
  rcases h with h | ⟨b, h, hb⟩
  · exact .inl h
  · exact .inr ⟨b, h, u.keep hb (by simp)⟩

theorem nfind (p : Option Addr) (id : Int) (w : World) (h : NoT w p) : Calls Try.prog 28 #[.pointer p, .int .i64 id] w fun e w' => e = .returned (.tuple #[.int .i64 0, .int .i64 1]) ∧ w = w' := by
  rcases h with rfl | ⟨b, rfl, hb⟩
  · exact find_none w id
  · exact find_zero w b id (cell_of hb 0)
theorem narm (p : Option Addr) (id : Int) (w : World) (h : NoT w p) : Calls Try.prog 16 #[.pointer p, .int .i64 id] w fun e w' => e = .returned (.int .i64 1) ∧ w = w' := by
  have H := Lib.hid h; clear h
  go_enter Try.func16, Try.ntmps16
  go_wp2_with (go_at_call 28; refine (nfind p id _ H.out).mono ?_; rintro e w' ⟨rfl, rfl⟩)
  go_ret
  exact ⟨rfl, rfl⟩
theorem nforget (p : Option Addr) (id : Int) (w : World) (h : NoT w p) : Calls Try.prog 17 #[.pointer p, .int .i64 id] w fun e w' => e = .returned (.int .i64 1) ∧ w = w' := by
  have H := Lib.hid h; clear h
  go_enter Try.func17, Try.ntmps17
  go_wp2_with (go_at_call 28; refine (nfind p id _ H.out).mono ?_; rintro e w' ⟨rfl, rfl⟩)
  go_ret
  exact ⟨rfl, rfl⟩
theorem nend (p : Option Addr) (id s : Int) (w : World) (h : NoT w p) : Calls Try.prog 29 #[.pointer p, .int .i64 id, .int .i64 s] w fun e w' => e = .returned (.tuple #[.bool false, .int .i64 1]) ∧ w = w' := by
  have H := Lib.hid h; clear h
  go_enter Try.func29, Try.ntmps29
  go_wp2_with (go_at_call 28; refine (nfind p id _ H.out).mono ?_; rintro e w' ⟨rfl, rfl⟩)
  go_ret2
  exact ⟨rfl, rfl⟩
theorem nfire (p : Option Addr) (id : Int) (w : World) (h : NoT w p) : Calls Try.prog 18 #[.pointer p, .int .i64 id] w fun e w' => e = .returned (.tuple #[.bool false, .int .i64 1]) ∧ w = w' := by
  have H := Lib.hid h; clear h
  go_enter Try.func18, Try.ntmps18
  go_wp2_with (go_at_call 29; refine (nend p id 2 _ H.out).mono ?_; rintro e w' ⟨rfl, rfl⟩)
  go_ret2
  exact ⟨rfl, rfl⟩
theorem ncancel (p : Option Addr) (id : Int) (w : World) (h : NoT w p) : Calls Try.prog 19 #[.pointer p, .int .i64 id] w fun e w' => e = .returned (.tuple #[.bool false, .int .i64 1]) ∧ w = w' := by
  have H := Lib.hid h; clear h
  go_enter Try.func19, Try.ntmps19
  go_wp2_with (go_at_call 29; refine (nend p id 3 _ H.out).mono ?_; rintro e w' ⟨rfl, rfl⟩)
  go_ret2
  exact ⟨rfl, rfl⟩
theorem nget (p : Option Addr) (id : Int) (w : World) (h : NoT w p) : Calls Try.prog 12 #[.pointer p, .int .i64 id] w fun e w' => e = .returned (.tuple #[.agg #[.int .i64 0, .int .i64 0], .int .i64 1]) ∧ Upd [] w w' := by
  have H := Lib.hid (h.upd ((Upd.refl [] w).alloc (Obj.cells #[.int .i64 0, .int .i64 0] 31))); clear h
  go_enter Try.func12, Try.ntmps12
  go_wp2_with (go_at_call 28; refine (nfind p id _ H.out).mono ?_; rintro e w' ⟨rfl, rfl⟩)
  go_returns
  exact ⟨rfl, (Upd.refl _ _).alloc _⟩
theorem nlen (p : Option Addr) (w : World) (h : NoT w p) : Calls Try.prog 14 #[.pointer p] w fun e w' => e = .returned (.int .i64 0) ∧ w = w' := by
  rcases h with rfl | ⟨b, rfl, hb⟩
  · go_enter Try.func14, Try.ntmps14
    go_wp2
    go_ret
    exact ⟨rfl, rfl⟩
  · have c0 := cell_of hb 0
    clear hb
    have q := fun (w : World) => Maps.len_nil (P := Try.prog) (w := w) Try.underlying58 3
    go_enter Try.func14, Try.ntmps14
    go_wp2
    go_ret
    exact ⟨rfl, rfl⟩
theorem ncopy (p : Option Addr) (w : World) (h : NoT w p) : Calls Try.prog 25 #[.pointer p] w fun e w' => e = .returned (.pointer none) ∧ w = w' := by
  rcases h with rfl | ⟨b, rfl, hb⟩
  · go_enter Try.func25, Try.ntmps25
    go_wp2
    go_ret
    exact ⟨rfl, rfl⟩
  · have c0 := cell_of hb 0
    clear hb
    have q := fun (w : World) => run_eql_map_nil (P := Try.prog) w 58 3 3 none Try.underlying58
    go_enter Try.func25, Try.ntmps25
    go_wp2
    go_ret
    exact ⟨rfl, rfl⟩
theorem ncounts (p : Option Addr) (w : World) (h : NoT w p) : Calls Try.prog 13 #[.pointer p] w fun e w' => e = .returned (.tuple #[.int .i64 0, .int .i64 0, .int .i64 0]) ∧ Upd [] w w' := by
  rcases h with rfl | ⟨b, rfl, hb⟩
  · go_enter Try.func13, Try.ntmps13
    go_wp2
    go_quiet (fail)
    go_wp2
    go_ret3
    exact ⟨rfl, ((Upd.refl _ _).alloc _).drewN _⟩
  · have c0 := cell_of hb 0
    have hbs := lt_of_block hb
    clear hb
    have hrg := run_range_nilMap (P := Try.prog) (w.alloc (.cells #[.int .i64 0, .int .i64 0, .int .i64 0, .int .i64 0] 35)) 58 3 3 Try.underlying58
    have hnx := run_next_nilMap (P := Try.prog) (w.alloc (.cells #[.int .i64 0, .int .i64 0, .int .i64 0, .int .i64 0] 35)) 0 0 0 #[]
    have e1 : (w.alloc (.cells #[.int .i64 0, .int .i64 0, .int .i64 0, .int .i64 0] 35)).heap.size = w.heap.size + 1 := by simp
    rw [e1] at hrg hnx
    clear e1
    go_enter Try.func13, Try.ntmps13
    go_wp2
    refine wp_loop_rounds 1 ?_
    rw [rounds_succ]
    go_wp2
    go_quiet (fail)
    go_wp2
    go_ret3
    exact ⟨rfl, (((Upd.refl _ _).alloc _).alloc _).drewN _⟩

end Go.Proofs.Ytphpimbhhmkdkaa
