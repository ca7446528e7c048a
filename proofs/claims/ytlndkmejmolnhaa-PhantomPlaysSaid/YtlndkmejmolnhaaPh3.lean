/-
  Contracts of the package phantom: Clear, Copy. Conditions: the table is as New and its own calls leave it.
-/
import Derived.Test.YtlndkmejmolnhaaPh2
namespace Go.Proofs.Ytlndkmejmolnhaa
open Go.RowKit Go.Maps

/-- delete as a step of a region that draws. -/
theorem step_delete_own {P : Program} {w : World} {ops : Array Oper} {o : Oper} {a : Act} {K : Act → World → Prop} {Q : Exit → Act → World → Prop} {E : Prop} (hg : o.guard = none) (m x : Operand) (t k : TypeId)
    (hop : o.op = Op.call { callee := Callee.builtin Builtin.delete, args := #[m, x], argTypes := #[t, k] })
    (e : TypeId) (K' : Keyed P k) (ht : P.underlying t = some (.map k e)) (R : Value → Option (DataW Unit × List MemPlace)) (b n : Nat) (D : DataW Unit)
    (hm : a.eval m = .map (some b)) (hown : w.ownsMap P k R b n D) (key : Value) (kl : Lit) (hx : a.eval x = key) (hkey : keyOf P k key = some kl)
    (hK : ∀ w', w'.ownsMap P k R b n (D.del kl) → w.mapTurned w' b → K (a.put o.dst (.tuple #[])) w') :
    if Region.wanted o (yielded ops a.tmps) = true then Oper.wp P o a w K Q else E := by
  have hw : Region.wanted o (yielded ops a.tmps) = true := by simp [Region.wanted, hg]
  rw [if_pos hw]
  obtain ⟨w', hrun, r1, r2⟩ := hown.drop K' ht hkey o.type
  unfold Oper.wp
  simp [execOp, hop, resolve, invoke, builtin, hm, hx, hrun, Result.andThen]
  exact hK w' r1 r2

theorem pclr_range {b m n : Nat} {s : Pt} {w : World} (h : PtAt w b m n s) (id : Int) (hid : ¬ (0 ≤ id ∧ id < s.size)) :
    Calls Try.prog 9 #[.pointer (some ⟨b, 0, none⟩), .int .i64 id] w fun e w' => e = .returned (.tuple #[.agg #[.int .i64 0, .int .u32 0], .int .i64 3]) ∧ Upd [] w w' := by
  have u1 : Upd [] w (w.alloc (.cells #[.int .i64 0, .int .u32 0] 24)) := (Upd.refl _ _).alloc _
  have H := Lib.hid (h.upd0 u1)
  have hc : s.chkE id = 3 := if_neg hid
  have HC := Lib.hid hc
  have zR := zeroR
  clear h u1 hc hid
  go_enter Try.func9, Try.ntmps9
  go_wp2_with (go_at_call 25; refine (pcheck H.out id).mono ?_; rw [HC.out]; rintro e w' ⟨rfl, rfl⟩)
  go_returns
  exact ⟨rfl, (Upd.refl _ _).alloc _⟩
theorem pclr_none {b m n : Nat} {s : Pt} {w : World} (h : PtAt w b m n s) (i : Nat) (hid : i < s.size) (hg : s.g i = none) :
    Calls Try.prog 9 #[.pointer (some ⟨b, 0, none⟩), .int .i64 i] w fun e w' => e = .returned (.tuple #[.agg #[.int .i64 0, .int .u32 0], .int .i64 5]) ∧ Upd [] w w' := by
  have hs := h.ok.le
  have hwi : (Lit.int .i64 (i : Int)).wf = true := WalkArith.wf_i64 (by omega)
  have u1 : Upd [] w (w.alloc (.cells #[.int .i64 0, .int .u32 0] 24)) := (Upd.refl _ _).alloc _
  have H := Lib.hid (h.upd0 u1)
  have c1 := cell_of H.out.blk 1
  have hbl := h.lt
  have hc : s.chkE i = 0 := if_pos ⟨by omega, by omega⟩
  have HC := Lib.hid hc
  have q1 := H.out.look1 i hwi
  rw [ofI_nat h.ok, hg] at q1
  unfold refV at q1
  dsimp only [Option.getD_none, Option.isSome_none] at q1
  have Q1 := Lib.hid q1; clear q1
  have zR := zeroR
  clear h u1 hc hid hg
  go_enter Try.func9, Try.ntmps9
  go_wp2_with (first | (go_at_call 25; refine (pcheck H.out i).mono ?_; rw [HC.out]; rintro e w' ⟨rfl, rfl⟩) | (at_lookup; refine wpList_look rfl _ _ 26 rfl _ _ _ rfl rfl Q1.out ?_))
  go_returns
  exact ⟨rfl, ((Upd.refl _ _).alloc _).alloc _⟩
set_option maxRecDepth 100000 in
set_option maxHeartbeats 1000000 in
theorem pclr_some {b m n : Nat} {s : Pt} {w : World} (h : PtAt w b m n s) (i : Nat) (r : Rf) (hid : i < s.size) (hg : s.g i = some r) :
    Calls Try.prog 9 #[.pointer (some ⟨b, 0, none⟩), .int .i64 i] w fun e w' => e = .returned (.tuple #[.agg #[.int .i64 r.1, .int .u32 r.2], .int .i64 0]) ∧ PtAt w' b m n (s.set i none) ∧ Upd [m, n] w w' := by
  have hs := h.ok.le
  have hwi : (Lit.int .i64 (i : Int)).wf = true := WalkArith.wf_i64 (by omega)
  have u1 : Upd [] w (w.alloc (.cells #[.int .i64 0, .int .u32 0] 24)) := (Upd.refl _ _).alloc _
  have H := Lib.hid (h.upd0 u1)
  have c1 := cell_of H.out.blk 1
  have hbl := h.lt
  have hc : s.chkE i = 0 := if_pos ⟨by omega, by omega⟩
  have HC := Lib.hid hc
  have q1 := H.out.look1 i hwi
  rw [ofI_nat h.ok, hg] at q1
  have HG := Lib.hid hg
  have hwr := goodG h.ok i r hg
  have HO := Lib.hid h.ok
  clear h hc hg
  obtain ⟨r1, r2⟩ := r
  unfold refV at q1
  dsimp only [Option.getD_some, Option.isSome_some] at q1 ⊢
  have Q1 := Lib.hid q1; clear q1
  have zR := zeroR
  have u2 : Upd [] w ((w.alloc (.cells #[.int .i64 0, .int .u32 0] 24)).alloc (.cells #[.int .i64 r1, .int .u32 r2] 24)) := u1.alloc _
  have HU := Lib.hid u2
  obtain ⟨ho, hmn, hb, D, E, hD, hE, hR1, hR2⟩ := H.out.upd0 (((Upd.refl [] _).alloc (.cells #[.int .i64 r1, .int .u32 r2] 24)))
  have hN : ((w.alloc (.cells #[.int .i64 0, .int .u32 0] 24)).alloc (.cells #[.int .i64 r1, .int .u32 r2] 24)).heap[w.heap.size + 1]? = some (.cells #[.int .i64 r1, .int .u32 r2] 24 (0, 0)) := by
    have := new_of (w.alloc (.cells #[.int .i64 0, .int .u32 0] 24)) (.cells #[.int .i64 r1, .int .u32 r2] 24)
    rwa [World.size_alloc] at this
  have hM : ((w.alloc (.cells #[.int .i64 0, .int .u32 0] 24)).alloc (.cells #[.int .i64 r1, .int .u32 r2] 24)).heap[w.heap.size]? = some (.cells #[.int .i64 0, .int .u32 0] 24 (0, 0)) := alloc_of (new_of _ _)
  have HDD := Lib.hid hD; clear hD
  go_enter Try.func9, Try.ntmps9
  go_wp2_with (first | (go_at_call 25; refine (pcheck H.out i).mono ?_; rw [HC.out]; rintro e w' ⟨rfl, rfl⟩) | (at_lookup; refine wpList_look rfl _ _ 26 rfl _ _ _ rfl rfl Q1.out ?_) | (at_delete; refine wpList_delete_own _ rfl _ _ 26 3 rfl 24 law3 Try.underlying26 refElem m 256 D rfl HDD.out _ _ rfl (keyOf_int_mk Try.underlying3 hwi) ?_; intro V hown1 hturn1))
  have hNm := ne_map hN HDD.out
  have hMm := ne_map hM HDD.out
  have hNn := ne_map hN hE
  have hMn := ne_map hM hE
  have hbm := ne_map hb HDD.out
  have hbn := ne_map hb hE
  have u3 : Upd [m] _ V := (Upd.refl [m] _).turned hturn1 (by simp)
  have hE1 := owns_upd_map hE u3 (by simpa using fun e : n = m => hmn e.symm)
  have hN1 := u3.keep hN (by simpa using hNm)
  have hM1 := u3.keep hM (by simpa using hMm)
  have hb1 := u3.keep hb (by simpa using hbm)
  have hr1' := hR1.del (HDD.out.tidy law3) (i := i) (by omega)
  have hr2' := hR2.del refK_inj (goodG ho) ho.inj (hE.tidy lawR) (i := i) (by omega) HG.out
  have d2 := cell_of hb1 2
  have n0 := cell_of hN1 0
  have n1 := cell_of hN1 1
  have HE := Lib.hid hE1.drew
  have X1 := Lib.hid hown1
  have X2 := Lib.hid hr1'
  have X3 := Lib.hid hr2'
  have U3 := Lib.hid ((u2.mono (T := [m, n]) (by simp)).trans (u3.mono (by simp)))
  have HN := Lib.hid hN1
  have HM := Lib.hid hM1
  have HB := Lib.hid hb1
  clear hE hE1 hN hN1 hM hM1 hb hb1 hR1 hR2 hr1' hr2' hown1 hturn1 u1 u2 u3 H c1 Q1 HC HDD HU zR
  have hMw : w.heap.size ≤ w.heap.size := Nat.le_refl _
  generalize w.heap.size + 1 = N at *
  generalize hMe : w.heap.size = M at *
  have HMW := Lib.hid (Nat.le_of_eq hMe); clear hMe hMw
  go_frame
  go_region_law (refine step_delete_own rfl (.tmp 36) (.tmp 37) 27 24 rfl 3 lawR Try.underlying27 (plainElem Try.prog 3) n 256 E (by first | (simp [Act.eval]; done) | simp [Act.eval, Act.put]) HE.out (.agg #[.int .i64 r1, .int .u32 r2]) _ (by first | (simp [Act.eval]; done) | simp [Act.eval, Act.put]) (refK_key hwr) ?_; intro V2 hown2 hturn2)
  all_goals
    have u4 : Upd [n] V V2 := ((Upd.refl [n] V).drew).turned hturn2 (by simp)
    have hN2 := u4.keep HN.out (by simpa using hNn)
    have hM2 := u4.keep HM.out (by simpa using hMn)
    have hb2 := u4.keep HB.out (by simpa using hbn)
    have o1 := owns_tight (owns_upd_map X1.out u4 (by simpa using hmn)) (Nat.le_trans (Nat.le_of_eq X2.out.size) (cardG_le _))
    have o2 := owns_tight hown2 (Nat.le_trans (Nat.le_of_eq X3.out.size) (cardG_le _))
    have n20 := cell_of hN2 0
    have n21 := cell_of hN2 1
    have m20 := cell_of hM2 0
    have m21 := cell_of hM2 1
    have f20 : V2.frozen? ⟨M, 0, none⟩ = false := free_of hM2 0
    have f21 : V2.frozen? ⟨M, 1, none⟩ = false := free_of hM2 1
    have FIN := Lib.hid (show PtAt V2 b m n (s.set i none) ∧ Upd [m, n] w V2 from ⟨⟨HO.out.setNone i, hmn, hb2, _, _, o1, o2, X2.out, X3.out⟩, U3.out.trans (u4.mono (by simp))⟩)
    clear hown2 hturn2 o1 o2 u4 hN2
    have z0 : (V2.setCell ⟨M, 0, none⟩ (.int .i64 r1)).cell? ⟨M, 0, none⟩ = some (.int .i64 r1) := cell_of (set_of hM2 0 _) 0
    have z1 : ((V2.setCell ⟨M, 0, none⟩ (.int .i64 r1)).setCell ⟨M, 1, none⟩ (.int .u32 r2)).cell? ⟨M, 1, none⟩ = some (.int .u32 r2) := cell_of (set_of (set_of hM2 0 _) 1 _) 1
    have u5 : Upd [M] V2 ((V2.setCell ⟨M, 0, none⟩ (.int .i64 r1)).setCell ⟨M, 1, none⟩ (.int .u32 r2)) := ((Upd.refl [M] V2).setCell (by simp) _).setCell (by simp) _
    have FIN5 := Lib.hid (show PtAt _ b m n (s.set i none) ∧ Upd [m, n] w _ from ⟨FIN.out.1.upd u5 (by simp; omega) (by simpa using fun e : m = M => hMm e.symm) (by simpa using fun e : n = M => hMn e.symm), FIN.out.2.after u5 (by simp; exact .inl HMW.out)⟩)
    clear hM2 u5 FIN
    go_wp2
    try simp only [Exit.inBlock, Exit.then]
    refine bodyPost_ret (by simp [results, Try.results9, go_sem, z0, z1, Result.andThen]; rfl) rfl ?_
    exact ⟨rfl, FIN5.out⟩

set_option maxRecDepth 100000 in
theorem pclone1 (m k : Nat) (D : DataW Unit) (w : World) (hown : w.ownsMap (H := Unit) Try.prog 3 refElem m k D) :
    Calls Try.prog 28 #[.map (some m)] w fun e w' => e = .returned (.map (some w.heap.size)) ∧ w'.ownsMap (H := Unit) Try.prog 3 refElem w.heap.size k D ∧ Upd [] w w' := by
  obtain ⟨es, clock, hb, F, hs, hD⟩ := hown
  have hq := fun (w : World) => run_eql_map_nil (P := Try.prog) w 26 3 24 (some m) Try.underlying26
  go_enter Try.func28, Try.ntmps28
  go_wp2
  rw [run_callFunc_extern Try.func39 (by kernel_rfl) (by kernel_rfl) (by kernel_rfl) (e := Extern.MapsClone.clone) (by kernel_rfl), run_maps_clone_sl w 26 hb]
  simp only [Result.andThen]
  rw [Oper.upon_value]
  go_wp2
  rw [run_typeAssert_map_sl _ 26 20 _ _ _ Try.underlying26]
  simp only [Result.andThen]
  rw [Oper.upon_value]
  go_wp2
  go_ret
  exact ⟨rfl, ⟨es, clock, new_of _ _, F, hs, hD⟩, (Upd.refl _ _).alloc _⟩
set_option maxRecDepth 100000 in
theorem pclone2 (m k : Nat) (D : DataW Unit) (w : World) (hown : w.ownsMap (H := Unit) Try.prog 24 (plainElem Try.prog 3) m k D) :
    Calls Try.prog 29 #[.map (some m)] w fun e w' => e = .returned (.map (some w.heap.size)) ∧ w'.ownsMap (H := Unit) Try.prog 24 (plainElem Try.prog 3) w.heap.size k D ∧ Upd [] w w' := by
  obtain ⟨es, clock, hb, F, hs, hD⟩ := hown
  have hq := fun (w : World) => run_eql_map_nil (P := Try.prog) w 27 24 3 (some m) Try.underlying27
  go_enter Try.func29, Try.ntmps29
  go_wp2
  rw [run_callFunc_extern Try.func39 (by kernel_rfl) (by kernel_rfl) (by kernel_rfl) (e := Extern.MapsClone.clone) (by kernel_rfl), run_maps_clone_sl w 27 hb]
  simp only [Result.andThen]
  rw [Oper.upon_value]
  go_wp2
  rw [run_typeAssert_map_sl _ 27 20 _ _ _ Try.underlying27]
  simp only [Result.andThen]
  rw [Oper.upon_value]
  go_wp2
  go_ret
  exact ⟨rfl, ⟨es, clock, new_of _ _, F, hs, hD⟩, (Upd.refl _ _).alloc _⟩
set_option maxHeartbeats 1000000 in
theorem pcopy {b m n : Nat} {s : Pt} {w : World} (h : PtAt w b m n s) :
    Calls Try.prog 15 #[.pointer (some ⟨b, 0, none⟩)] w fun e w' => ∃ b2 m2 n2, e = .returned (.pointer (some ⟨b2, 0, none⟩)) ∧ PtAt w' b2 m2 n2 s ∧ Upd [] w w' ∧ w.heap.size ≤ b2 ∧ w.heap.size ≤ m2 ∧ w.heap.size ≤ n2 := by
  have H := Lib.hid h
  obtain ⟨ho, hmn, hb, D, E, hD, hE, hR1, hR2⟩ := h
  have c0 := cell_of hb 0
  have c1 := cell_of hb 1
  have c2 := cell_of hb 2
  have HB := Lib.hid hb
  have HD := Lib.hid hD.drew
  have HE := Lib.hid hE
  have HR1 := Lib.hid hR1
  have HR2 := Lib.hid hR2
  have HO := Lib.hid ho
  clear hb hD hE hR1 hR2 ho hmn
  go_enter Try.func15, Try.ntmps15
  go_wp2_with (go_at_call 26; refine (pmade H.out).mono ?_; rintro e w' ⟨rfl, rfl⟩)
  go_region_held3 (fun w' => w'.cell? ⟨b, 0, none⟩ = some (.int .i64 s.size) ∧ w'.cell? ⟨b, 1, none⟩ = some (.map (some m)) ∧ w'.cell? ⟨b, 2, none⟩ = some (.map (some n))) (first | go_keep | exact ⟨c0, c1, c2⟩ | exact x1 | exact x2) (first | (go_at_call 28; refine (pclone1 m 256 D _ HD.out).mono ?_; rintro e w1 ⟨rfl, o1, u1⟩; have u2 : Upd [] w w1 := ((Upd.refl _ _).drew).trans u1; have x10 : w1.cell? ⟨b, 0, none⟩ = some (.int .i64 s.size) := cell_of (u2.keep HB.out (by simp)) 0; have x11 : w1.cell? ⟨b, 1, none⟩ = some (.map (some m)) := cell_of (u2.keep HB.out (by simp)) 1; have x12 : w1.cell? ⟨b, 2, none⟩ = some (.map (some n)) := cell_of (u2.keep HB.out (by simp)) 2; have x1 := And.intro x10 (And.intro x11 x12); have O1 := Lib.hid o1; have E1 := Lib.hid (owns_upd_map HE.out u2 (by simp))) | (go_at_call 29; refine (pclone2 n 256 E _ E1.out).mono ?_; rintro e w2 ⟨rfl, o2, u3⟩; have u4 : Upd [] w w2 := u2.trans u3; have x20 : w2.cell? ⟨b, 0, none⟩ = some (.int .i64 s.size) := cell_of (u4.keep HB.out (by simp)) 0; have x21 : w2.cell? ⟨b, 1, none⟩ = some (.map (some m)) := cell_of (u4.keep HB.out (by simp)) 1; have x22 : w2.cell? ⟨b, 2, none⟩ = some (.map (some n)) := cell_of (u4.keep HB.out (by simp)) 2; have x2 := And.intro x20 (And.intro x21 x22)))
  all_goals
    go_wp2
    go_ret
    have hlt := O1.out.lt
    have o1' := (owns_upd_map O1.out u3 (by simp)).alloc (.cells #[.int .i64 s.size, .map (some w.drew.heap.size), .map (some w1.heap.size)] 29)
    refine ⟨_, _, _, rfl, ⟨HO.out, Nat.ne_of_lt hlt, new_of _ _, _, _, o1', o2.alloc _, HR1.out, HR2.out⟩, u4.alloc _, u4.size, Nat.le_refl _, u2.size⟩

end Go.Proofs.Ytlndkmejmolnhaa
