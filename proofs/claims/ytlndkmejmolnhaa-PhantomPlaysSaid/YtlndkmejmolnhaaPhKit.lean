/-
  The maps of a table of phantom references at their operations. Conditions: sizes.
-/
import Derived.Test.YtlndkmejmolnhaaRows
import Derived.Test.YtlndkmejmolnhaaPhPlain
import Derived.Handy
import Derived.IntWalk
import Derived.DeepKeys4
import Derived.WideKeyEntry
import Derived.Shelf.SlMaps.Clone
import Derived.Deep.RegionLaw
import Derived.Deep.RegionHeld3
namespace Go.Proofs.Ytlndkmejmolnhaa
open Go.RowKit Go.Maps
open Go.ChangeMaps (setBlock)

theorem law3 : Keyed Try.prog 3 := int_keyed Try.underlying3
theorem rowR : (24 : TypeId) < Try.prog.types.size := of_decide_eq_true (by kernel_rfl)
theorem laidP : laidOutB Try.prog = true := by kernel_rfl
theorem lawR : Keyed Try.prog 24 := Keyed.of_law (deep_law_laid laidP (m := 3) (by omega) rowR (by kernel_rfl) (by kernel_rfl))
theorem zeroR (w : World) : (zeroValue 24).run Try.prog w = .ok (.agg #[.int .i64 0, .int .u32 0]) w := by kernel_rfl
theorem zeroI (w : World) : (zeroValue 3).run Try.prog w = .ok (.int .i64 0) w := by kernel_rfl
theorem refK_some {r : Rf} (h : refWf r) : ∃ l, keyOf Try.prog 24 (refV r) = some l := by
  obtain ⟨a, b⟩ := r
  obtain ⟨h1, h2⟩ := h
  have hk : Try.prog.keyType 24 = true := by kernel_rfl
  have hc : Try.prog.cellsOf 24 = 2 := by kernel_rfl
  have c3 : Try.prog.cellsOf 3 = 1 := by kernel_rfl
  have cu : Try.prog.cellsOf 22 = 1 := by kernel_rfl
  obtain ⟨n, hn'⟩ := Nat.exists_eq_succ_of_ne_zero (Nat.ne_of_gt (Nat.lt_of_le_of_lt (Nat.zero_le _) rowR))
  have hn : Try.prog.types.size + 1 = n + 2 := by rw [hn']
  unfold keyOf
  rw [Try.underlying24]
  simp only [hk, Value.formed, refV, Try.underlying24, hc, hn]
  dsimp only at h1 h2
  simp [Value.cells, Program.keyLits, Try.underlying24, Try.underlying3, Try.underlying22, hc, c3, cu, h1, h2]

/-- How an object reads as a key. -/
noncomputable def refK (r : Rf) : Lit := (keyOf Try.prog 24 (refV r)).getD (.bool true)
theorem refK_key {r : Rf} (h : refWf r) : keyOf Try.prog 24 (refV r) = some (refK r) := by
  obtain ⟨l, hl⟩ := refK_some h
  rw [refK, hl]; rfl
theorem refK_inj (r s : Rf) (hr : refWf r) (hs : refWf s) (h : refK r = refK s) : r = s := by
  have h1 := refK_key hr
  have h2 := refK_key hs
  rw [h] at h1
  have := lawR.inj h1 h2
  obtain ⟨a, b⟩ := r
  obtain ⟨c, d⟩ := s
  simp [refV] at this
  simp [this]
theorem refK_lit (r : Rf) : WideAt.IsKeyLit (refK r) := by
  unfold refK
  cases h : keyOf Try.prog 24 (refV r) with
  | none => trivial
  | some l => exact lawR.key h

/-! ### look-ups, as equations -/
theorem look_of {w : World} {b n : Nat} {D : DataW Unit} {g : Nat → Option Rf} (h : w.ownsMap Try.prog 3 refElem b n D) (hr : Reads1 D g) (i : Nat) (hi : i < 256) :
    (Instr.lookup 26 (.map (some b)) (.int .i64 (i : Int)) true).run Try.prog w = .ok (.tuple #[refV ((g i).getD (0, 0)), .bool (g i).isSome]) w := by
  obtain ⟨v, ps, hrun, hv⟩ := h.look_ok law3 Try.underlying26 (zeroR w) (refElem_mk (0, 0)) (keyOf_int_mk Try.underlying3 (WalkArith.wf_i64 (n := (i : Int)) (by omega)))
  obtain ⟨r, rfl, hz⟩ := refElem_inv hv
  rw [hrun, hr.has hi]
  simp only [Prod.mk.injEq] at hz
  cases hg : g i with
  | none =>
    have h1 := hr.rd i hi
    rw [hg] at h1
    have h2 := atKey_of_not_has (has_false_of_look h1) (refD (0, 0))
    rw [h2] at hz
    rw [← refD_inj hz.1]; rfl
  | some s =>
    have h1 := hr.rd i hi
    rw [hg] at h1
    rw [at_of_look h1] at hz
    rw [← refD_inj hz.1]; rfl
theorem look_of_out {w : World} {b n : Nat} {D : DataW Unit} {g : Nat → Option Rf} (h : w.ownsMap Try.prog 3 refElem b n D) (hr : Reads1 D g) (i : Int) (hw : (Lit.int .i64 i).wf = true) (hi : i < 0 ∨ 256 ≤ i) :
    (Instr.lookup 26 (.map (some b)) (.int .i64 i) true).run Try.prog w = .ok (.tuple #[refV (0, 0), .bool false]) w := by
  obtain ⟨v, ps, hrun, hv⟩ := h.look_ok law3 Try.underlying26 (zeroR w) (refElem_mk (0, 0)) (keyOf_int_mk Try.underlying3 hw)
  obtain ⟨r, rfl, hz⟩ := refElem_inv hv
  have hno : Maps.has D (.int .i64 i) = false := by
    cases hh : Maps.has D (.int .i64 i) with
    | false => rfl
    | true =>
      obtain ⟨j, hj, e⟩ := hr.keys _ hh
      simp at e
      omega
  rw [hrun, hno]
  simp only [Prod.mk.injEq] at hz
  rw [atKey_of_not_has hno] at hz
  rw [← refD_inj hz.1]
theorem look_by {w : World} {b n : Nat} {D : DataW Unit} {s : Pt} (ho : s.ok) (h : w.ownsMap Try.prog 24 (plainElem Try.prog 3) b n D) (hr : Reads2 refK D s.g) (r : Rf) (hw : refWf r) :
    (Instr.lookup 27 (.map (some b)) (refV r) true).run Try.prog w = .ok (.tuple #[.int .i64 ((s.byI r).getD 0 : Nat), .bool (s.byI r).isSome]) w := by
  obtain ⟨v, ps, hrun, hv⟩ := h.look_ok lawR Try.underlying27 (zeroI w) (plainElem_int Try.underlying3 (by decide)) (refK_key hw)
  obtain ⟨c, rfl, hz, -⟩ := plainElem_int_inv Try.underlying3 hv
  rw [hrun]
  simp only [Prod.mk.injEq] at hz
  cases hb : s.byI r with
  | none =>
    have h1 := hr.no r hw (byI_none ho hb)
    rw [atKey_of_not_has h1] at hz
    simp at hz
    rw [h1, ← hz.1]; rfl
  | some i =>
    have h1 := hr.yes i r (byI_some hb)
    rw [at_of_look h1] at hz
    simp at hz
    rw [has_of_look h1, ← hz.1]; rfl

/-! ### an entry that is not there yet, and the store into it -/
section
variable {P : Program} {w : World} {t k e : TypeId} {R : Value → Option (DataW Unit × List MemPlace)} {b n : Nat} {D : DataW Unit}
theorem find_not (hown : w.ownsMap P k R b n D) (K : Keyed P k) (ht : P.underlying t = some (.map k e)) {z : Value} (hz : (zeroValue e).run P w = .ok z w) {zd : DataW Unit} {zp : List MemPlace} (hzd : R z = some (zd, zp))
    {key : Value} {kl : Lit} (hkey : keyOf P k key = some kl) (hno : Maps.has D kl = false) : ∃ es clock, w.heap[b]? = some (.map es clock) ∧ Go.WideElems.Fit P k R es clock ∧ es.size ≤ n ∧ (Instr.findKey k key es.toList).run P w = .ok none w := by
  obtain ⟨v, ps, hrun, -⟩ := hown.look_ok K ht hz hzd hkey
  obtain ⟨es, clock, hb, F, hs, rfl⟩ := hown
  refine ⟨es, clock, hb, F, hs, ?_⟩
  rcases K.find w hkey es.toList F.keys with ⟨h1, -⟩ | ⟨j, e0, h1, -, -⟩
  · exact h1
  · rw [hno] at hrun
    simp [Instr.lookup, run_underlying ht, MapKept.run_getObj_map hb, K.check w _ hkey, h1, Result.andThen] at hrun
theorem entry_new (hown : w.ownsMap P k R b n D) (K : Keyed P k) (ht : P.underlying t = some (.map k e)) (hn : n < maxLen) {z : Value} (hz : ∀ u : World, (zeroValue e).run P u = .ok z u) {zd : DataW Unit} {zp : List MemPlace} (hzd : R z = some (zd, zp))
    {key : Value} {kl : Lit} (hkey : keyOf P k key = some kl) (hno : Maps.has D kl = false) :
    ∃ (st : Nat) (w1 : World), (Instr.mapEntry t (.map (some b)) key).run P w = .ok (.tuple #[z, .int .i64 (st : Int)]) w1 ∧ w.mapTurned w1 b ∧
      ∀ (w2 : World) (val : Value) (d : DataW Unit) (ps : List MemPlace), w2.heap[b]? = w1.heap[b]? → R val = some (d, ps) →
        ∃ w3, (Instr.entryStore t (.map (some b)) (.int .i64 (st : Int)) val).run P w2 = .ok () w3 ∧ w3.ownsMap P k R b (n + 1) (D.put kl d) ∧ w2.mapTurned w3 b := by
  obtain ⟨es, clock, hb, F, hs, hf⟩ := find_not hown K ht (hz w) hzd hkey hno
  refine ⟨clock, setBlock w b (.map (es.push ⟨key, z, clock⟩) (clock + 1)), ?_, ⟨es, clock, _, _, hb, rfl⟩, fun w2 val d ps hw2 hval => ?_⟩
  · simp [Instr.mapEntry, run_underlying ht, MapKept.run_getObj_map hb, K.check w false hkey, hf, hz, MapKept.run_setObj_map _ hb, Result.andThen, setBlock, goInt]
  · rw [Go.ChangeMaps.heap_setBlock_same hb] at hw2
    obtain ⟨w', hup, hown', -⟩ := hown.store K ht hn hkey hval
    have hup2 : (Instr.mapUpdate t (.map (some b)) key val).run P w = .ok () (setBlock w b (.map (es.push ⟨key, val, clock⟩) (clock + 1))) := by
      simp [Instr.mapUpdate, run_underlying ht, MapKept.run_getObj_map hb, K.check w false hkey, hf, MapKept.run_setObj_map _ hb, Result.andThen, setBlock]
    rw [hup] at hup2
    simp only [Result.ok.injEq, true_and] at hup2
    subst hup2
    obtain ⟨s1, s2, -⟩ := F.stamped
    have hidx : (es.push ⟨key, z, clock⟩).findIdx? (fun x => ((x.born : Nat) : Int) == ((clock : Nat) : Int)) = some es.size := by
      rw [Go.WideElems.findIdx_arr]
      refine Go.WideElems.findIdx_born (e0 := ⟨key, z, clock⟩) ?_ (by simp)
      simp only [Array.toList_push, List.map_append, List.map_cons, List.map_nil]
      refine List.nodup_append.2 ⟨s2, by simp, fun a ha c hc e1 => ?_⟩
      simp only [List.mem_singleton] at hc
      obtain ⟨x, hx, rfl⟩ := List.mem_map.1 ha
      have := s1 x hx
      omega
    have hmod : (es.push ⟨key, z, clock⟩).modify es.size (fun x => { x with val := val }) = es.push ⟨key, val, clock⟩ := by
      apply Array.ext'
      rw [Array.toList_modify, Array.toList_push, Array.toList_push, ← Array.length_toList, Go.WideElems.modify_last]
    refine ⟨setBlock w2 b (.map (es.push ⟨key, val, clock⟩) (clock + 1)), ?_, ?_, ⟨_, _, _, _, hw2, rfl⟩⟩
    · simp [Instr.entryStore, MapKept.run_getObj_map hw2, asInt, asIntOf, hidx, hmod, MapKept.run_setObj_map _ hw2, Result.andThen, setBlock]
    · obtain ⟨es', clock', hb', F', hs', hD'⟩ := hown'
      rw [Go.ChangeMaps.heap_setBlock_same hb] at hb'
      simp only [Option.some.injEq, Obj.map.injEq] at hb'
      obtain ⟨rfl, rfl⟩ := hb'
      exact ⟨_, _, Go.ChangeMaps.heap_setBlock_same hw2 _, F', hs', hD'⟩
end
/-- A look-up whose run is known, for the walk. -/
theorem wpList_look {P : Program} {w : World} {ops : Array Oper} {rest : List Oper} {o : Oper} {a : Act} {Q : Exit → Act → World → Prop} (hg : o.guard = none) (m x : Operand) (t : TypeId) (hop : o.op = Op.lookup t m x true)
    (mv key v : Value) (hm : a.eval m = mv) (hx : a.eval x = key) (hrun : (Instr.lookup t mv key true).run P w = .ok v w) (hK : wpList P ops Q rest (a.put o.dst v) w) : wpList P ops Q (o :: rest) a w := by
  refine wpList_plain hg fun K' hK' => ?_
  unfold Oper.wp
  simp [execOp, hop, hm, hx, hrun, Result.andThen]
  exact hK' _ _ hK

end Go.Proofs.Ytlndkmejmolnhaa
