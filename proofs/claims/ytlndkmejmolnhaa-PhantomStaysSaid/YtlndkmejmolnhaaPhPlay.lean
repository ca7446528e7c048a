/-
  What 'played' returns: a table behind moves, and what its ids watch. Conditions: none.
-/
import Derived.Test.YtlndkmejmolnhaaPhWorks
import Derived.Test.YtlndkmejmolnhaaArgs
namespace Go.Proofs.Ytlndkmejmolnhaa
open Go.RowKit Go.Maps

/-- The object of a move. -/
def objR (o : Nat) : Rf := (((o % 16 : Nat) : Int), ((1 + o / 16 % 2 : Nat) : Int))
theorem objR_good (o : Nat) : goodR (objR o) := by
  unfold goodR objR
  dsimp only
  omega
theorem object_at (a : Int) (o : Nat) (w : World) (ho : o < 256) :
    Calls Try.prog 30 #[.agg #[.int .u8 a, .int .u8 (o : Int)]] w fun e w' => e = .returned (.agg #[.int .i64 (objR o).1, .int .u32 (objR o).2]) ∧ Upd [] w w' := by
  have e1 : Int.tmod (o : Int) 16 = ((o % 16 : Nat) : Int) := by rw [Int.tmod_eq_emod_of_nonneg (by omega)]; rfl
  have e2 : Int.tdiv (o : Int) 16 = ((o / 16 : Nat) : Int) := by rw [Int.tdiv_eq_ediv_of_nonneg (by omega)]; rfl
  have e3 : Int.tmod ((o / 16 : Nat) : Int) 2 = ((o / 16 % 2 : Nat) : Int) := by rw [Int.tmod_eq_emod_of_nonneg (by omega)]; rfl
  have zR := zeroR
  unfold objR
  dsimp only
  generalize hx : o % 16 = x at *
  generalize hd : o / 16 = d at *
  generalize hy : d % 2 = y at *
  have hx1 : x < 16 := by omega
  have hy1 : y < 2 := by omega
  clear hx hy
  go_enter Try.func30, Try.ntmps30
  go_wp2
  go_returns
  exact ⟨by rw [Int.natCast_add]; rfl, ((Upd.refl _ _).alloc _).alloc _⟩

/-- A map that the law keeps, which reads as g. -/
def HasAt (w : World) (h : Nat) (g : Nat → Option Rf) : Prop := ∃ D, w.ownsMap Try.prog 3 refElem h 256 D ∧ Reads1 D g
def ByAt (w : World) (h : Nat) (g : Nat → Option Rf) : Prop := ∃ D, w.ownsMap Try.prog 24 (plainElem Try.prog 3) h 256 D ∧ Reads2 refK D g
theorem HasAt.upd {w w' : World} {h : Nat} {g : Nat → Option Rf} (k : HasAt w h g) {S : List Nat} (u : Upd S w w') (hn : h ∉ S) : HasAt w' h g := by
  obtain ⟨D, h1, h2⟩ := k; exact ⟨D, owns_upd_map h1 u hn, h2⟩
theorem ByAt.upd {w w' : World} {h : Nat} {g : Nat → Option Rf} (k : ByAt w h g) {S : List Nat} (u : Upd S w w') (hn : h ∉ S) : ByAt w' h g := by
  obtain ⟨D, h1, h2⟩ := k; exact ⟨D, owns_upd_map h1 u hn, h2⟩
theorem HasAt.ne {w : World} {h : Nat} {g : Nat → Option Rf} (k : HasAt w h g) {b : Nat} {c : Array Value} {t : TypeId} {f : Nat × Nat} (hb : w.heap[b]? = some (.cells c t f)) : b ≠ h := by
  obtain ⟨D, h1, _⟩ := k; exact ne_map hb h1
theorem ByAt.ne {w : World} {h : Nat} {g : Nat → Option Rf} (k : ByAt w h g) {b : Nat} {c : Array Value} {t : TypeId} {f : Nat × Nat} (hb : w.heap[b]? = some (.cells c t f)) : b ≠ h := by
  obtain ⟨D, h1, _⟩ := k; exact ne_map hb h1
theorem HasAt.lt {w : World} {h : Nat} {g : Nat → Option Rf} (k : HasAt w h g) : h < w.heap.size := by
  obtain ⟨D, h1, _⟩ := k; exact h1.lt
theorem ByAt.lt {w : World} {h : Nat} {g : Nat → Option Rf} (k : ByAt w h g) : h < w.heap.size := by
  obtain ⟨D, h1, _⟩ := k; exact h1.lt
theorem HasAt.look {w : World} {h : Nat} {g : Nat → Option Rf} (k : HasAt w h g) (i : Nat) (hi : i < 256) :
    (Instr.lookup 26 (.map (some h)) (.int .i64 (i : Int)) true).run Try.prog w = .ok (.tuple #[refV ((g i).getD (0, 0)), .bool (g i).isSome]) w := by
  obtain ⟨D, h1, h2⟩ := k; exact look_of h1 h2 i hi
theorem ByAt.look {w : World} {h : Nat} {s : Pt} (ho : s.ok) (k : ByAt w h s.g) (r : Rf) (hw : refWf r) :
    (Instr.lookup 27 (.map (some h)) (.agg #[.int .i64 r.1, .int .u32 r.2]) true).run Try.prog w = .ok (.tuple #[.int .i64 ((s.byI r).getD 0 : Nat), .bool (s.byI r).isSome]) w := by
  obtain ⟨D, h1, h2⟩ := k; exact look_by ho h1 h2 r hw
theorem HasAt.put {w : World} {h : Nat} {g : Nat → Option Rf} (k : HasAt w h g) (i : Nat) (r : Rf) (hi : i < 256) :
    ∃ w', (Instr.mapUpdate 26 (.map (some h)) (.int .i64 (i : Int)) (.agg #[.int .i64 r.1, .int .u32 r.2])).run Try.prog w = .ok () w' ∧ HasAt w' h (setG g i (some r)) ∧ Upd [h] w w' := by
  obtain ⟨D, h1, h2⟩ := k
  obtain ⟨w', hrun, o, t⟩ := h1.store law3 Try.underlying26 (by unfold maxLen; omega) (keyOf_int_mk Try.underlying3 (WalkArith.wf_i64 (n := (i : Int)) (by omega))) (refElem_mk r)
  have h3 := h2.put (r := r) (h1.tidy law3) hi
  exact ⟨w', hrun, ⟨_, owns_tight o (Nat.le_trans (Nat.le_of_eq h3.size) (cardG_le _)), h3⟩, (Upd.refl [h] w).turned t (by simp)⟩
theorem ByAt.put {w : World} {h : Nat} {s : Pt} (ho : s.ok) (k : ByAt w h s.g) (i : Nat) (r : Rf) (hi : i < 256) (hr : refWf r) (hg : s.g i = none) (hn : ∀ j, s.g j ≠ some r) :
    ∃ w', (Instr.mapUpdate 27 (.map (some h)) (.agg #[.int .i64 r.1, .int .u32 r.2]) (.int .i64 (i : Int))).run Try.prog w = .ok () w' ∧ ByAt w' h (setG s.g i (some r)) ∧ Upd [h] w w' := by
  obtain ⟨D, h1, h2⟩ := k
  obtain ⟨w', hrun, o, t⟩ := h1.store lawR Try.underlying27 (by unfold maxLen; omega) (refK_key hr) (plainElem_int (e := 3) Try.underlying3 (WalkArith.wf_i64 (n := (i : Int)) (by omega)))
  have h3 := h2.put refK_inj refK_lit (goodG ho) (h1.tidy lawR) hi hr hg hn
  exact ⟨w', hrun, ⟨_, owns_tight o (Nat.le_trans (Nat.le_of_eq h3.size) (cardG_le _)), h3⟩, (Upd.refl [h] w).turned t (by simp)⟩
theorem setG_none {g : Nat → Option Rf} {i : Nat} (h : g i = none) : setG g i none = g := by
  funext j
  unfold setG
  split
  · subst_vars; exact h.symm
  · rfl
theorem HasAt.del {w : World} {h : Nat} {g : Nat → Option Rf} (k : HasAt w h g) (i : Nat) (hi : i < 256) (ty : TypeId) :
    ∃ w', (Builtin.delete_ #[26, 3] ty #[.map (some h), .int .i64 (i : Int)]).run Try.prog w = .ok (.tuple #[]) w' ∧ HasAt w' h (setG g i none) ∧ Upd [h] w w' := by
  obtain ⟨D, h1, h2⟩ := k
  obtain ⟨w', hrun, o, t⟩ := h1.drop law3 Try.underlying26 (keyOf_int_mk Try.underlying3 (WalkArith.wf_i64 (n := (i : Int)) (by omega))) ty
  have h3 := h2.del (h1.tidy law3) hi
  exact ⟨w', hrun, ⟨_, o, h3⟩, (Upd.refl [h] w).turned t (by simp)⟩
theorem ByAt.del {w : World} {h : Nat} {s : Pt} (ho : s.ok) (k : ByAt w h s.g) (i : Nat) (hi : i < 256) (ty : TypeId) :
    ∃ w', (Builtin.delete_ #[27, 24] ty #[.map (some h), .agg #[.int .i64 ((s.g i).getD (0, 0)).1, .int .u32 ((s.g i).getD (0, 0)).2]]).run Try.prog w = .ok (.tuple #[]) w' ∧ ByAt w' h (setG s.g i none) ∧ Upd [h] w w' := by
  obtain ⟨D, h1, h2⟩ := k
  cases hg : s.g i with
  | none =>
    obtain ⟨w', hrun, o, t⟩ := h1.drop lawR Try.underlying27 (refK_key (r := (0, 0)) ⟨by decide, by decide⟩) ty
    have hno : ∀ j, s.g j ≠ some ((0, 0) : Rf) := fun j hj => by have := (ho.good j _ hj).2.2.2.1; simp at this
    rw [del_of_not_has (h2.no (0, 0) ⟨by decide, by decide⟩ hno)] at o
    exact ⟨w', hrun, ⟨_, o, by rw [setG_none hg]; exact h2⟩, (Upd.refl [h] w).turned t (by simp)⟩
  | some r =>
    obtain ⟨w', hrun, o, t⟩ := h1.drop lawR Try.underlying27 (refK_key (goodG ho i r hg)) ty
    exact ⟨w', hrun, ⟨_, o, h2.del refK_inj (goodG ho) ho.inj (h1.tidy lawR) hi hg⟩, (Upd.refl [h] w).turned t (by simp)⟩
/-- delete whose run is known, for the walk. -/
theorem wpList_del {P : Program} {w w' : World} {ops : Array Oper} {rest : List Oper} {o : Oper} {a : Act} {Q : Exit → Act → World → Prop} (hg : o.guard = none) (m x : Operand) (t k : TypeId)
    (hop : o.op = Op.call { callee := Callee.builtin Builtin.delete, args := #[m, x], argTypes := #[t, k] }) (mv key : Value) (hm : a.eval m = mv) (hx : a.eval x = key)
    (hrun : (Builtin.delete_ #[t, k] o.type #[mv, key]).run P w = .ok (.tuple #[]) w') (hK : wpList P ops Q rest (a.put o.dst (.tuple #[])) w') : wpList P ops Q (o :: rest) a w := by
  refine wpList_plain hg fun K' hK' => ?_
  unfold Oper.wp
  simp [execOp, hop, resolve, invoke, builtin, hm, hx, hrun, Result.andThen]
  exact hK' _ _ hK
theorem hasAt_new (w : World) : HasAt (w.alloc (.map #[] 0)) w.heap.size (fun _ => none) := ⟨.map [], (World.ownsMap_made w _ _ _).mono (by omega), reads1_empty⟩
theorem byAt_new (w : World) : ByAt (w.alloc (.map #[] 0)) w.heap.size (fun _ => none) := ⟨.map [], (World.ownsMap_made w _ _ _).mono (by omega), reads2_empty _⟩

/-- The objects of moves. -/
def ObjR (r : Rf) : Prop := ∃ o : Nat, o < 256 ∧ r = objR o
/-- What 'played' keeps: the table, and two maps of its own. -/
structure PlAt (w : World) (b m n h k : Nat) (s : Pt) : Prop where
  t : PtAt w b m n s
  has : HasAt w h s.g
  by_ : ByAt w k s.g
  ne : h ≠ k ∧ h ≠ m ∧ h ≠ n ∧ k ≠ m ∧ k ≠ n
  obj : ∀ i r, s.g i = some r → ObjR r
theorem PlAt.upd0 {w w' : World} {b m n h k : Nat} {s : Pt} (p : PlAt w b m n h k s) (u : Upd [] w w') : PlAt w' b m n h k s := ⟨p.t.upd0 u, p.has.upd u (by simp), p.by_.upd u (by simp), p.ne, p.obj⟩
/-- A block of cells is none of the maps. -/
theorem PlAt.notIn {w : World} {b m n h k : Nat} {s : Pt} (p : PlAt w b m n h k s) {x : Nat} {c : Array Value} {t : TypeId} {f : Nat × Nat} (hb : w.heap[x]? = some (.cells c t f)) : x ∉ [m, n, h, k] := by
  simp; exact ⟨p.t.nem hb, p.t.nen hb, p.has.ne hb, p.by_.ne hb⟩

/-- The cells of a move. -/
def IsMv (cs : List Value) : Prop := ∃ a o : Nat, cs = [.int .u8 (a : Int), .int .u8 (o : Int)] ∧ a < 256 ∧ o < 256
theorem moves_of {H : Type} {enc : TypeId × Value → H} {w : World} {v : Value} {d : DataW H} {p : List MemPlace}
    (hval : Value.okWide Try.prog w .any 0 45 v) (h : DataW.Trod enc Try.prog w 0 (fun _ => true) true 45 v d p) : ∃ css, Recs w v 2 css ∧ ∀ cs ∈ css, IsMv cs := by
  refine recs_of Try.underlying45 2 (by kernel_rfl) (by decide) IsMv (fun n cs y hl ht => ?_) hval h
  match cs, hl with
  | [c0, c1], _ =>
    obtain ⟨_, _, h0⟩ := field_of (c := 1) Try.underlying69 ht 0 _ rfl rfl rfl (by kernel_rfl)
    obtain ⟨_, _, h1⟩ := field_of (c := 1) Try.underlying69 ht 1 _ rfl rfl rfl (by kernel_rfl)
    obtain ⟨x, rfl, wx⟩ := int_cell Try.underlying5 h0
    obtain ⟨z, rfl, wz⟩ := int_cell Try.underlying5 h1
    have hx := wf_u8 wx
    have hz := wf_u8 wz
    exact ⟨x.toNat, z.toNat, by rw [Int.toNat_of_nonneg hx.1, Int.toNat_of_nonneg hz.1], by omega, by omega⟩

end Go.Proofs.Ytlndkmejmolnhaa
