/-
  What the statements about reference queues know: objects by ids, and the ids that wait. Conditions: none.
-/
import Derived.Test.YtmbkjnjfipafmaaRfWk
import Derived.Test.YtmbkjnjfipafmaaArgs
namespace Go.Proofs.Ytmbkjnjfipafmaa
open Go.RowKit Go.Maps

/-- An object by its number. -/
def objR (o : Nat) : Rf := (((o % 16 : Nat) : Int), ((1 + o / 16 % 2 : Nat) : Int))
theorem objR_good (o : Nat) : goodR (objR o) := by
  unfold goodR objR
  dsimp only
  omega
theorem object_at (o : Nat) (w : World) (ho : o < 256) :
    Calls Try.prog 12 #[.int .u8 (o : Int)] w fun e w' => e = .returned (.agg #[.int .i64 (objR o).1, .int .u32 (objR o).2]) ∧ Upd [] w w' := by
  have e1 : Int.tmod (o : Int) 16 = ((o % 16 : Nat) : Int) := by rw [Int.tmod_eq_emod_of_nonneg (by omega)]; rfl
  have e2 : Int.tdiv (o : Int) 16 = ((o / 16 : Nat) : Int) := by rw [Int.tdiv_eq_ediv_of_nonneg (by omega)]; rfl
  have e3 : Int.tmod ((o / 16 : Nat) : Int) 2 = ((o / 16 % 2 : Nat) : Int) := by rw [Int.tmod_eq_emod_of_nonneg (by omega)]; rfl
  have zR := zeroR
  unfold objR
  dsimp only
  generalize hx : o % 16 = x at *
  generalize hd : o / 16 = d at *
  generalize hy : d % 2 = y at *
  have hx1 : x < 16 := by omega
  have hy1 : y < 2 := by omega
  clear hx hy
  go_enter Try.func12, Try.ntmps12
  go_wp2
  go_returns
  exact ⟨by rw [Int.natCast_add]; rfl, (Upd.refl _ _).alloc _⟩

/-- A map that the law keeps, which reads as g. -/
def HasAt (w : World) (h : Nat) (g : Nat → Option Rf) : Prop := ∃ D, w.ownsMap Try.prog 3 refElem h 256 D ∧ Reads1 D g
theorem HasAt.upd {w w' : World} {h : Nat} {g : Nat → Option Rf} (k : HasAt w h g) {S : List Nat} (u : Upd S w w') (hn : h ∉ S) : HasAt w' h g := by
  obtain ⟨D, h1, h2⟩ := k; exact ⟨D, owns_upd_map h1 u hn, h2⟩
theorem HasAt.ne {w : World} {h : Nat} {g : Nat → Option Rf} (k : HasAt w h g) {b : Nat} {c : Array Value} {t : TypeId} {f : Nat × Nat} (hb : w.heap[b]? = some (.cells c t f)) : b ≠ h := by
  obtain ⟨D, h1, _⟩ := k; exact ne_map hb h1
theorem HasAt.lt {w : World} {h : Nat} {g : Nat → Option Rf} (k : HasAt w h g) : h < w.heap.size := by
  obtain ⟨D, h1, _⟩ := k; exact h1.lt
theorem HasAt.look {w : World} {h : Nat} {g : Nat → Option Rf} (k : HasAt w h g) (i : Nat) (hi : i < 256) :
    (Instr.lookup 31 (.map (some h)) (.int .i64 (i : Int)) true).run Try.prog w = .ok (.tuple #[refV ((g i).getD (0, 0)), .bool (g i).isSome]) w := by
  obtain ⟨D, h1, h2⟩ := k; exact look_of h1 h2 i hi
theorem HasAt.put {w : World} {h : Nat} {g : Nat → Option Rf} (k : HasAt w h g) (i : Nat) (r : Rf) (hi : i < 256) :
    ∃ w', (Instr.mapUpdate 31 (.map (some h)) (.int .i64 (i : Int)) (.agg #[.int .i64 r.1, .int .u32 r.2])).run Try.prog w = .ok () w' ∧ HasAt w' h (setG g i (some r)) ∧ Upd [h] w w' := by
  obtain ⟨D, h1, h2⟩ := k
  obtain ⟨w', hrun, o, t⟩ := h1.store law3 Try.underlying31 (by unfold maxLen; omega) (keyOf_int_mk Try.underlying3 (WalkArith.wf_i64 (n := (i : Int)) (by omega))) (refElem_mk r)
  have h3 := h2.put (r := r) (h1.tidy law3) hi
  exact ⟨w', hrun, ⟨_, owns_tight o (Nat.le_trans (Nat.le_of_eq h3.size) (cardG_le _)), h3⟩, (Upd.refl [h] w).turned t (by simp)⟩
theorem HasAt.del {w : World} {h : Nat} {g : Nat → Option Rf} (k : HasAt w h g) (i : Nat) (hi : i < 256) (ty : TypeId) :
    ∃ w', (Builtin.delete_ #[31, 3] ty #[.map (some h), .int .i64 (i : Int)]).run Try.prog w = .ok (.tuple #[]) w' ∧ HasAt w' h (setG g i none) ∧ Upd [h] w w' := by
  obtain ⟨D, h1, h2⟩ := k
  obtain ⟨w', hrun, o, t⟩ := h1.drop law3 Try.underlying31 (keyOf_int_mk Try.underlying3 (WalkArith.wf_i64 (n := (i : Int)) (by omega))) ty
  have h3 := h2.del (h1.tidy law3) hi
  exact ⟨w', hrun, ⟨_, o, h3⟩, (Upd.refl [h] w).turned t (by simp)⟩
theorem wpList_del {P : Program} {w w' : World} {ops : Array Oper} {rest : List Oper} {o : Oper} {a : Act} {Q : Exit → Act → World → Prop} (hg : o.guard = none) (m x : Operand) (t k : TypeId)
    (hop : o.op = Op.call { callee := Callee.builtin Builtin.delete, args := #[m, x], argTypes := #[t, k] }) (mv key : Value) (hm : a.eval m = mv) (hx : a.eval x = key)
    (hrun : (Builtin.delete_ #[t, k] o.type #[mv, key]).run P w = .ok (.tuple #[]) w') (hK : wpList P ops Q rest (a.put o.dst (.tuple #[])) w') : wpList P ops Q (o :: rest) a w := by
  refine wpList_plain hg fun K' hK' => ?_
  unfold Oper.wp
  simp [execOp, hop, resolve, invoke, builtin, hm, hx, hrun, Result.andThen]
  exact hK' _ _ hK
theorem hasAt_new (w : World) : HasAt (w.alloc (.map #[] 0)) w.heap.size (fun _ => none) := ⟨.map [], (World.ownsMap_made w _ _ _).mono (by omega), reads1_empty⟩

/-! ### slices -/
theorem SlAt.drop1 {w : World} {e n c g off : Nat} {xs : List Value} (h : SlAt w e 1 (.slice (some ⟨g, off, none⟩) n c) n xs) {i : Nat} (hi : i ≤ n) (hc : i < c) : SlAt w e 1 (.slice (some ⟨g, off + i, none⟩) (n - i) (c - i)) (n - i) (xs.drop i) := by
  obtain ⟨h1, h2, a', c', h3, h4, h5, h6, h7⟩ := h
  simp at h3
  obtain ⟨rfl, rfl⟩ := h3
  refine ⟨by simp; omega, fun x hx => h2 x (List.mem_of_mem_drop hx), _, _, rfl, by omega, by omega, by simp, ?_⟩
  rcases h7 with h7 | ⟨g', off', cur, ha, hg, hs, hr⟩
  · left; omega
  · simp at ha
    obtain ⟨rfl, rfl⟩ := ha
    refine .inr ⟨g, off + i, cur, rfl, hg, by omega, fun j x hx => ?_⟩
    rw [List.getElem?_drop] at hx
    rw [Nat.add_assoc]
    exact hr (i + j) x hx
theorem SlAt.rdrop1 {w : World} {e n c g off : Nat} {xs : List Value} (h : SlAt w e 1 (.slice (some ⟨g, off, none⟩) n c) n xs) {i : Nat} (hi : i ≤ n) (hc : i < c) : SlAt w e 1 (.slice (some ⟨g, off + i, none⟩) (n - i) (c - i)) (n - i) (xs.drop i) := by
  obtain ⟨h1, h2, a', c', h3, h4, h5, h6, h7⟩ := h
  simp at h3
  obtain ⟨rfl, rfl⟩ := h3
  refine ⟨by simp; omega, fun x hx => h2 x (List.mem_of_mem_drop hx), _, _, rfl, by omega, by omega, by simp, ?_⟩
  rcases h7 with h7 | ⟨g', off', cur, ha, hg, hs, hr⟩
  · left; omega
  · simp at ha
    obtain ⟨rfl, rfl⟩ := ha
    refine .inr ⟨g, off + i, cur, rfl, hg, by omega, fun j x hx => ?_⟩
    rw [List.getElem?_drop] at hx
    rw [Nat.add_assoc]
    exact hr (i + j) x hx
theorem sl_empty (w : World) (e : Nat) (a : Option Addr) : SlAt w e 1 (.slice a 0 0) 0 [] :=
  ⟨rfl, by simp, a, 0, rfl, Nat.le_refl _, Nat.zero_le _, fun _ => rfl, .inl rfl⟩


/-! ### what is known -/
/-- What the law itself keeps. -/
structure KnL (w : World) (kb b h : Nat) (v : Value) (s : Rs) : Prop where
  blk : w.heap[kb]? = some (.cells #[.pointer (some ⟨b, 0, none⟩), .int .i64 s.size, .int .i64 s.places, .map (some h), v] 33 (0, 0))
  has : HasAt w h s.g
  wait : Ints w v s.l
  pok : s.pt.ok
theorem KnL.upd0 {w w' : World} {kb b h : Nat} {v : Value} {s : Rs} (k : KnL w kb b h v s) (u : Upd [] w w') : KnL w' kb b h v s :=
  ⟨u.keep k.blk (by simp), k.has.upd u (by simp), k.wait.upd0 u, k.pok⟩
theorem KnL.cells {w : World} {kb b h : Nat} {v : Value} {s : Rs} (k : KnL w kb b h v s) :
    w.cell? ⟨kb, 0, none⟩ = some (.pointer (some ⟨b, 0, none⟩)) ∧ w.cell? ⟨kb, 1, none⟩ = some (.int .i64 s.size) ∧ w.cell? ⟨kb, 2, none⟩ = some (.int .i64 s.places) ∧ w.cell? ⟨kb, 3, none⟩ = some (.map (some h)) ∧ w.cell? ⟨kb, 4, none⟩ = some v :=
  ⟨cell_of k.blk 0, cell_of k.blk 1, cell_of k.blk 2, cell_of k.blk 3, cell_of k.blk 4⟩
theorem KnL.lt {w : World} {kb b h : Nat} {v : Value} {s : Rs} (k : KnL w kb b h v s) : kb < w.heap.size := lt_of_block k.blk
/-- Behind a call of the reference queue. -/
theorem KnL.go {w w' : World} {kb b h : Nat} {v : Value} {s s2 : Rs} {B : RfB} (k : KnL w kb b h v s) (r : RfAt w B s2) (hk : kb ∉ B.all) (hh : h ∉ B.all) (u : Upd B.S w w') : KnL w' kb b h v s :=
  ⟨u.keep k.blk (fun hm => hk (RfB.S_all hm)), k.has.upd u (fun hm => hh (RfB.S_all hm)), k.wait.rf r u, k.pok⟩
structure KnAt (w : World) (kb : Nat) (B : RfB) (h : Nat) (v : Value) (s : Rs) : Prop where
  l : KnL w kb B.b h v s
  rf : RfAt w B s
  ka : kb ∉ B.all
  ha : h ∉ B.all
theorem KnAt.upd0 {w w' : World} {kb : Nat} {B : RfB} {h : Nat} {v : Value} {s : Rs} (k : KnAt w kb B h v s) (u : Upd [] w w') : KnAt w' kb B h v s :=
  ⟨k.l.upd0 u, k.rf.upd0 u, k.ka, k.ha⟩
theorem KnL.kh {w : World} {kb b h : Nat} {v : Value} {s : Rs} (k : KnL w kb b h v s) : kb ≠ h := k.has.ne k.blk
/-- Slices of ints stay where a block of cells of another type, or a map, is written. -/
theorem Ints.kb {w w' : World} {v : Value} {l : List Int} {x : Nat} {c : Array Value} {t : TypeId} {f : Nat × Nat} (hI : Ints w v l) (hb : w.heap[x]? = some (.cells c t f)) (ht : t ≠ 3) (u : Upd [x] w w') : Ints w' v l := SlAt.upd1 hI u hb ht
theorem Ints.has {w w' : World} {v : Value} {l : List Int} {h : Nat} {g : Nat → Option Rf} (hI : Ints w v l) (hh : HasAt w h g) (u : Upd [h] w w') : Ints w' v l :=
  SlAt.upd hI u (fun x hx c hc => by simp at hx; subst hx; exact hh.ne hc rfl)
/-- Where an id waits: -1 where it does not. -/
theorem waits_at {w : World} {kb b h : Nat} {v : Value} {s : Rs} (k : KnL w kb b h v s) (i : Int) :
    Calls Try.prog 50 #[.pointer (some ⟨kb, 0, none⟩), .int .i64 i] w fun e w' => e = .returned (.int .i64 (fndI s.l i)) ∧ Upd [] w w' := by
  obtain ⟨a, c, rfl, hc1, hc2⟩ := k.wait.form
  have c4 : w.cell? ⟨kb, 4, none⟩ = some (.slice a s.l.length c) := k.cells.2.2.2.2
  have HW := Lib.hid k.wait
  clear k
  generalize s.l = l at *
  go_enter Try.func50, Try.ntmps50
  go_wp2_with fail
  go_loop [5] (fun x => ∃ k : Nat, k ≤ l.length ∧ x = .int .i64 k ∧ ∀ (j : Nat) (y : Int), j < k → l[j]? = some y → y ≠ i) (fun x => l.length - (intOf x).toNat)
  case atStart => exact ⟨0, by omega, rfl, fun j y hj => by omega⟩
  case round =>
    obtain ⟨k, hk, rfl, hno⟩ := hrel
    have HNO := Lib.hid hno; clear hno
    by_cases hlt : k < l.length
    · obtain ⟨g, off, rfl, hg, _, hcell⟩ := HW.out.at hlt
      by_cases he : l[k] = i
      · have hb : (l[k] == i) = true := by simp [he]
        have hf : fndI l i = k := by rw [fndI, fnd_some hlt he HNO.out]
        have HF := Lib.hid hf
        clear hf he
        go_wp2_with fail
        go_ret
        exact ⟨by rw [HF.out]; rfl, Upd.refl _ _⟩
      · have hb : (l[k] == i) = false := by simpa using he
        have HE := Lib.hid he; clear he
        have hg2 : l[k]? = some l[k] := List.getElem?_eq_getElem hlt
        have HG := Lib.hid hg2; clear hg2
        go_wp2_with fail
        go_round
        case rel =>
          refine ⟨k + 1, by omega, by go_num, fun j y hj hy => ?_⟩
          by_cases e : j = k
          · subst e; rw [HG.out] at hy; cases hy; exact HE.out
          · exact HNO.out j y (by omega) hy
        case measure => simp [intOf]; omega
    · have hf : fndI l i = -1 := by
        rw [fndI, fnd_none.2 (fun hm => by
          obtain ⟨j, hj, e⟩ := List.getElem_of_mem hm
          exact HNO.out j _ (by omega) (List.getElem?_eq_getElem hj) e)]
      have HF := Lib.hid hf; clear hf
      go_wp2_with fail
      go_ret
      exact ⟨by rw [HF.out]; rfl, Upd.refl _ _⟩
/-- The id that watches an object: -1 where there is none. -/
def Rs.byR (s : Rs) (r : Rf) : Int := match s.byI r with
  | some i => (i : Int)
  | none => -1
theorem byR_some {s : Rs} (ho : s.pt.ok) {r : Rf} {i : Nat} (h : s.g i = some r) : s.byR r = i := by
  unfold Rs.byR Rs.byI; rw [byI_of ho h]
theorem byR_none {s : Rs} {r : Rf} (h : ∀ i, i < s.size → s.g i ≠ some r) : s.byR r = -1 := by
  unfold Rs.byR Rs.byI
  cases hb : s.pt.byI r with
  | none => rfl
  | some i =>
    have h1 := byI_some hb
    unfold Pt.byI at hb
    have h2 := List.mem_of_find?_eq_some hb
    exact absurd h1 (h i (by simpa [Rs.pt] using h2))
set_option maxHeartbeats 1000000 in
theorem by_at {w : World} {kb b h : Nat} {v : Value} {s : Rs} (k : KnL w kb b h v s) (r : Rf) :
    Calls Try.prog 51 #[.pointer (some ⟨kb, 0, none⟩), .agg #[.int .i64 r.1, .int .u32 r.2]] w fun e w' => e = .returned (.int .i64 (s.byR r)) ∧ Upd [] w w' := by
  obtain ⟨r1, r2⟩ := r
  have u1 : Upd [] w (w.alloc (.cells #[.int .i64 r1, .int .u32 r2] 36)) := (Upd.refl _ _).alloc _
  have hX := new_of w (.cells #[.int .i64 r1, .int .u32 r2] 36)
  have K := Lib.hid (k.upd0 u1)
  have HU := Lib.hid u1
  have hN : s.size ≤ 256 := k.pok.le
  clear u1 k
  have eR := eqR
  have gR := gdR
  have zR := zeroR
  dsimp only
  go_enter Try.func51, Try.ntmps51
  go_wp2_with fail
  generalize w.alloc (.cells #[.int .i64 r1, .int .u32 r2] 36) = V at *
  generalize w.heap.size = X at *
  have HX := Lib.hid hX; clear hX
  go_loopw [5] (fun x wr => ∃ i : Nat, i ≤ s.size ∧ x = .int .i64 i ∧ (∀ j, j < i → s.g j ≠ some (r1, r2)) ∧ Upd [] V wr) (fun x _ => s.size - (intOf x).toNat)
  case atStart => exact ⟨0, by omega, rfl, fun j hj => by omega, Upd.refl _ _⟩
  case round =>
    obtain ⟨i, hi, rfl, hno, hup⟩ := hrel
    have HNO := Lib.hid hno; have HUP := Lib.hid hup
    have KR := Lib.hid (K.out.upd0 hup)
    obtain ⟨-, c1, -, c3, -⟩ := KR.out.cells
    clear hno hup
    by_cases hlt : i < s.size
    · have Q := KR.out.has.look i (by omega)
      obtain ⟨⟨o1, o2⟩, hold⟩ : ∃ x : Rf, (s.g i).getD (0, 0) = x := ⟨_, rfl⟩
      obtain ⟨z, hz⟩ : ∃ z, (s.g i).isSome = z := ⟨_, rfl⟩
      rw [hold, hz] at Q
      unfold refV at Q
      dsimp only at Q
      have QQ := Lib.hid Q
      have HO := Lib.hid hold; have HZ := Lib.hid hz
      have UF := Lib.hid (HUP.out.alloc (.cells #[.int .i64 o1, .int .u32 o2] 36))
      have hX := UF.out.keep HX.out (by simp)
      have x0 : (_ : World).cell? ⟨X, 0, none⟩ = some (.int .i64 r1) := cell_of hX 0
      have x1 : (_ : World).cell? ⟨X, 1, none⟩ = some (.int .u32 r2) := cell_of hX 1
      clear Q hold hz hX
      by_cases hit : s.g i = some (r1, r2)
      · have e1 : z = true := by rw [← HZ.out, hit]; rfl
        have e2 : ((o1, o2) : Rf) = (r1, r2) := by rw [← HO.out, hit]; rfl
        simp only [Prod.mk.injEq] at e2
        obtain ⟨rfl, rfl⟩ := e2
        subst e1
        have hb := byR_some KR.out.pok hit
        have HB := Lib.hid hb
        have heq : (o1 == o1 && o2 == o2) = true := by simp
        clear hit hb
        go_wp2_with (at_lookup; refine wpList_look rfl _ _ 31 rfl _ _ _ rfl rfl QQ.out ?_)
        go_ret
        exact ⟨by rw [HB.out]; rfl, HU.out.trans UF.out⟩
      · have heq : z = true → (o1 == r1 && o2 == r2) = false := fun hz => by
          cases hg : s.g i with
          | none => have := HZ.out; rw [hg, hz] at this; simp at this
          | some y =>
            have h1 := HO.out
            rw [hg] at h1 hit
            simp only [Option.getD_some] at h1
            subst h1
            simp only [Option.some.injEq, Prod.mk.injEq] at hit
            simp only [Bool.and_eq_false_iff, beq_eq_false_iff_ne, ne_eq]
            by_cases h2 : o1 = r1
            · right; intro h3; exact hit ⟨h2, h3⟩
            · left; exact h2
        have HIT := Lib.hid hit; clear hit
        cases z with
        | false =>
          clear heq
          go_wp2_with (at_lookup; refine wpList_look rfl _ _ 31 rfl _ _ _ rfl rfl QQ.out ?_)
          go_roundw
          case rel =>
            refine ⟨i + 1, by omega, by go_num, fun j hj => ?_, UF.out⟩
            by_cases e : j = i
            · subst e; exact HIT.out
            · exact HNO.out j (by omega)
          case measure => simp [intOf]; omega
        | true =>
          have heq := heq rfl
          go_wp2_with (at_lookup; refine wpList_look rfl _ _ 31 rfl _ _ _ rfl rfl QQ.out ?_)
          go_roundw
          case rel =>
            refine ⟨i + 1, by omega, by go_num, fun j hj => ?_, UF.out⟩
            by_cases e : j = i
            · subst e; exact HIT.out
            · exact HNO.out j (by omega)
          case measure => simp [intOf]; omega
    · have hb := byR_none (s := s) (r := (r1, r2)) (fun j hj => HNO.out j (by omega))
      have HB := Lib.hid hb; clear hb
      go_wp2_with fail
      go_ret
      exact ⟨by rw [HB.out]; rfl, HU.out.trans HUP.out⟩

end Go.Proofs.Ytmbkjnjfipafmaa
