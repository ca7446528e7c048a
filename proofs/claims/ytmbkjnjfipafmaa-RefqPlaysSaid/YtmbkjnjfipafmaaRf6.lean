/-
  Contracts of the package refq: Cancel, Copy. Conditions: the queue is as New and its own calls leave it.
-/
import Derived.Test.YtmbkjnjfipafmaaRf5
namespace Go.Proofs.Ytmbkjnjfipafmaa
open Go.RowKit Go.Maps

set_option maxRecDepth 100000 in
theorem rfcancel {w : World} {B : RfB} {s : Rs} (h : RfAt w B s) (id : Int) :
    Calls Try.prog 17 #[.pointer (some ⟨B.b, 0, none⟩), .int .i64 id] w fun e w' => e = .returned (.tuple #[.bool (s.canB id), .int .i64 (s.canE id)]) ∧ RfAt w' B (s.canS id) ∧ Upd B.S w w' := by
  have u1 : Upd [] w (((w.alloc (.cells #[.pointer (some ⟨B.b, 0, none⟩)] 30)).alloc (.cells #[.int .i64 id] 3)).alloc (.cells #[.bool false] 4)) := (((Upd.refl _ _).alloc _).alloc _).alloc _
  have b3 : (((w.alloc (.cells #[.pointer (some ⟨B.b, 0, none⟩)] 30)).alloc (.cells #[.int .i64 id] 3)).alloc (.cells #[.bool false] 4)).heap[w.heap.size]? = some (.cells #[.pointer (some ⟨B.b, 0, none⟩)] 30 (0, 0)) := alloc_of (alloc_of (new_of _ _))
  have b4 : (((w.alloc (.cells #[.pointer (some ⟨B.b, 0, none⟩)] 30)).alloc (.cells #[.int .i64 id] 3)).alloc (.cells #[.bool false] 4)).heap[w.heap.size + 1]? = some (.cells #[.int .i64 id] 3 (0, 0)) := by
    have := new_of (w.alloc (.cells #[.pointer (some ⟨B.b, 0, none⟩)] 30)) (.cells #[.int .i64 id] 3)
    rw [World.size_alloc] at this
    exact alloc_of this
  have b5 : (((w.alloc (.cells #[.pointer (some ⟨B.b, 0, none⟩)] 30)).alloc (.cells #[.int .i64 id] 3)).alloc (.cells #[.bool false] 4)).heap[w.heap.size + 1 + 1]? = some (.cells #[.bool false] 4 (0, 0)) := by
    have := new_of ((w.alloc (.cells #[.pointer (some ⟨B.b, 0, none⟩)] 30)).alloc (.cells #[.int .i64 id] 3)) (.cells #[.bool false] 4)
    simpa using this
  have H1 := Lib.hid (h.upd0 u1)
  have HU := Lib.hid u1
  have B3 := Lib.hid b3; have B4 := Lib.hid b4; have B5 := Lib.hid b5
  clear u1 b3 b4 b5
  by_cases hid : 0 ≤ id ∧ id < s.size
  · have hE : s.canE id = 0 := by unfold Rs.canE; rw [if_pos hid]
    obtain ⟨i, rfl⟩ := Int.eq_ofNat_of_zero_le hid.1
    have hi : i < s.size := by omega
    have hc : Calls Try.prog 46 #[.pointer (some ⟨w.heap.size, 0, none⟩), .pointer (some ⟨w.heap.size + 1, 0, none⟩), .pointer (some ⟨w.heap.size + 1 + 1, 0, none⟩)] (((w.alloc (.cells #[.pointer (some ⟨B.b, 0, none⟩)] 30)).alloc (.cells #[.int .i64 i] 3)).alloc (.cells #[.bool false] 4)) (fun e w' => ∃ x, e = .returned (.int .i64 x) ∧ (fun (x : Int) w' => x = 0 ∧ RfAt w' B (s.canS i) ∧ w'.cell? ⟨w.heap.size + 1 + 1, 0, none⟩ = some (.bool (s.canB i)) ∧ Upd B.S w w') x w') :=
      (can1 _ _ _ H1.out B3.out B4.out B5.out hi).mono fun _ _ ⟨h1, h2, h3, h4⟩ => ⟨_, h1, rfl, h2, h3, HU.out.nil.after h4 (fun x hx => by
        rcases List.mem_cons.1 hx with rfl | hx
        · exact .inl (by omega)
        · exact .inr hx)⟩
    have HE := Lib.hid hE
    have hwr := with_can H1.out i hi _ _ _ hc
    have HW := Lib.hid hwr
    clear hc hwr h hid hE
    go_enter Try.func17, Try.ntmps17
    go_wp2_with fail
    refine HW.out.mono ?_; rintro e w5 ⟨x, rfl, rfl, hr, hc, hu⟩
    go_wp2_with fail
    go_ret2
    exact ⟨by rw [HE.out]; rfl, hr, hu⟩
  · have hE : s.canE id = 3 := by unfold Rs.canE; rw [if_neg hid]
    have hB : s.canB id = false := by unfold Rs.canB; rw [decide_eq_false hid]; rfl
    have hS : s.canS id = s := by unfold Rs.canS; rw [hB]; rfl
    have hwo := fun f => with_out H1.out id f hid
    have HW := Lib.hid hwo
    have HE := Lib.hid hE; have HB := Lib.hid hB; have HS := Lib.hid hS
    have c5 := cell_of B5.out 0
    clear hwo h hid hE hB hS
    go_enter Try.func17, Try.ntmps17
    go_wp2_with fail
    refine (HW.out _).mono ?_; rintro e w5 ⟨rfl, rfl⟩
    go_wp2_with fail
    go_ret2
    exact ⟨by rw [HE.out, HB.out]; rfl, by rw [HS.out]; exact H1.out, HU.out.nil⟩

/-- Three cells that were written, one behind the other. -/
theorem set3_cells {w : World} {b : Nat} {x y z u v t : Value} (h0 : w.cell? ⟨b, 0, none⟩ = some u) (h1 : w.cell? ⟨b, 1, none⟩ = some v) (h2 : w.cell? ⟨b, 2, none⟩ = some t) :
    (((w.setCell ⟨b, 0, none⟩ x).setCell ⟨b, 1, none⟩ y).setCell ⟨b, 2, none⟩ z).cell? ⟨b, 0, none⟩ = some x ∧ (((w.setCell ⟨b, 0, none⟩ x).setCell ⟨b, 1, none⟩ y).setCell ⟨b, 2, none⟩ z).cell? ⟨b, 1, none⟩ = some y ∧
    (((w.setCell ⟨b, 0, none⟩ x).setCell ⟨b, 1, none⟩ y).setCell ⟨b, 2, none⟩ z).cell? ⟨b, 2, none⟩ = some z := by
  have o : ∀ (w : World) (i j : Nat) (v : Value), i ≠ j → (w.setCell ⟨b, i, none⟩ v).cell? ⟨b, j, none⟩ = w.cell? ⟨b, j, none⟩ := fun w i j v h => World.cell?_setCell_other w ⟨b, i, none⟩ ⟨b, j, none⟩ v (by simp)
  refine ⟨?_, ?_, ?_⟩
  · rw [o _ 2 0 _ (by decide), o _ 1 0 _ (by decide)]; exact World.cell?_setCell_same' _ _ _ (by rw [h0]; rfl)
  · rw [o _ 2 1 _ (by decide)]; exact World.cell?_setCell_same' _ _ _ (by rw [o _ 0 1 _ (by decide), h1]; rfl)
  · exact World.cell?_setCell_same' _ _ _ (by rw [o _ 1 2 _ (by decide), o _ 0 2 _ (by decide), h2]; rfl)
set_option maxRecDepth 100000 in
set_option maxHeartbeats 2000000 in
/-- Copies of the parts. -/
theorem rftwin {w : World} {B : RfB} {p : Pt} {q : Qu} {f : Nat → Nat} (h : Parts w B p q f) :
    Calls Try.prog 60 #[.agg #[.pointer (some ⟨B.bo, 0, none⟩), .pointer (some ⟨B.bq, 0, none⟩), .pointer (some ⟨B.bc, 0, none⟩)]] w fun e w' =>
      ∃ bo bq bc m n mc, e = .returned (.agg #[.pointer (some ⟨bo, 0, none⟩), .pointer (some ⟨bq, 0, none⟩), .pointer (some ⟨bc, 0, none⟩)]) ∧ (PtAt w' bo m n p ∧ QAt w' bq q ∧ Cl.ClAt w' bc mc f ∧ mc ≠ m ∧ mc ≠ n) ∧
        (w.heap.size ≤ bo ∧ w.heap.size ≤ bq ∧ w.heap.size ≤ bc ∧ w.heap.size ≤ m ∧ w.heap.size ≤ n ∧ w.heap.size ≤ mc) ∧ Upd [] w w' := by
  have H := Lib.hid h
  clear h
  go_enter Try.func60, Try.ntmps60
  go_wp2_with fail
  have u1 : Upd [] w ((w.alloc (.cells #[.pointer (some ⟨B.bo, 0, none⟩), .pointer (some ⟨B.bq, 0, none⟩), .pointer (some ⟨B.bc, 0, none⟩)] 69)).alloc (.cells #[.pointer none, .pointer none, .pointer none] 69)) := ((Upd.refl _ _).alloc _).alloc _
  have b1 : ((w.alloc (.cells #[.pointer (some ⟨B.bo, 0, none⟩), .pointer (some ⟨B.bq, 0, none⟩), .pointer (some ⟨B.bc, 0, none⟩)] 69)).alloc (.cells #[.pointer none, .pointer none, .pointer none] 69)).heap[w.heap.size]? = some (.cells #[.pointer (some ⟨B.bo, 0, none⟩), .pointer (some ⟨B.bq, 0, none⟩), .pointer (some ⟨B.bc, 0, none⟩)] 69 (0, 0)) := alloc_of (new_of _ _)
  have b2 : ((w.alloc (.cells #[.pointer (some ⟨B.bo, 0, none⟩), .pointer (some ⟨B.bq, 0, none⟩), .pointer (some ⟨B.bc, 0, none⟩)] 69)).alloc (.cells #[.pointer none, .pointer none, .pointer none] 69)).heap[w.heap.size + 1]? = some (.cells #[.pointer none, .pointer none, .pointer none] 69 (0, 0)) := by
    have := new_of (w.alloc (.cells #[.pointer (some ⟨B.bo, 0, none⟩), .pointer (some ⟨B.bq, 0, none⟩), .pointer (some ⟨B.bc, 0, none⟩)] 69)) (.cells #[.pointer none, .pointer none, .pointer none] 69)
    rwa [World.size_alloc] at this
  have P0 := Lib.hid (H.out.upd0 u1)
  have hsz := u1.size
  have hlt := lt_of_block b2
  generalize ((w.alloc (.cells #[.pointer (some ⟨B.bo, 0, none⟩), .pointer (some ⟨B.bq, 0, none⟩), .pointer (some ⟨B.bc, 0, none⟩)] 69)).alloc (.cells #[.pointer none, .pointer none, .pointer none] 69)) = V at *
  have KEEP := Lib.hid (show ∀ w', Upd [] V w' → w'.cell? ⟨w.heap.size, 0, none⟩ = some (.pointer (some ⟨B.bo, 0, none⟩)) ∧ w'.cell? ⟨w.heap.size, 1, none⟩ = some (.pointer (some ⟨B.bq, 0, none⟩)) ∧ w'.cell? ⟨w.heap.size, 2, none⟩ = some (.pointer (some ⟨B.bc, 0, none⟩)) from fun w' u =>
    ⟨cell_of (u.keep b1 (by simp)) 0, cell_of (u.keep b1 (by simp)) 1, cell_of (u.keep b1 (by simp)) 2⟩)
  have KEEP2 := Lib.hid (show ∀ w', Upd [] V w' → w'.heap[w.heap.size + 1]? = some (.cells #[.pointer none, .pointer none, .pointer none] 69 (0, 0)) from fun w' u => u.keep b2 (by simp))
  obtain ⟨c0, c1, c2⟩ := KEEP.out V (Upd.refl _ _)
  have D0 := Lib.hid (P0.out.upd0 ((Upd.refl _ _).drew))
  clear b1 b2
  generalize hN : w.heap.size = N at *
  go_region_held3 (fun w' => w'.cell? ⟨N, 0, none⟩ = some (.pointer (some ⟨B.bo, 0, none⟩)) ∧ w'.cell? ⟨N, 1, none⟩ = some (.pointer (some ⟨B.bq, 0, none⟩)) ∧ w'.cell? ⟨N, 2, none⟩ = some (.pointer (some ⟨B.bc, 0, none⟩))) (first | go_keep | exact ⟨c0, c1, c2⟩ | exact KKC | exact KKB | exact KKA) (first | (go_at_call 74; refine (pcopy D0.out.t).mono ?_; rintro e w1 ⟨bo, m, n, rfl, t1, v1, l1, l2, l3⟩; have x1 : Upd [] V w1 := ((Upd.refl _ _).drew).trans v1; have KKA := KEEP.out _ x1; have PA := Lib.hid (P0.out.upd0 x1)) | (go_at_call 75; refine (copy_any PA.out.q).mono ?_; rintro e w2 ⟨rfl, q2, v2⟩; have x2 : Upd [] V w2 := x1.trans v2; have KKB := KEEP.out _ x2; have PB := Lib.hid (P0.out.upd0 x2)) | (go_at_call 76; refine (Cl.copy_at _ _ _ _ PB.out.c).mono ?_; rintro e w3 ⟨bc, mc, rfl, k3, v3, l4, l5⟩; have x3 : Upd [] V w3 := x2.trans v3; have KKC := KEEP.out _ x3; have KD := KEEP2.out _ x3; have f0 : w3.frozen? ⟨N + 1, 0, none⟩ = false := free_of KD 0; have f1 : w3.frozen? ⟨N + 1, 1, none⟩ = false := free_of KD 1; have f2 : w3.frozen? ⟨N + 1, 2, none⟩ = false := free_of KD 2; have k0 : w3.cell? ⟨N + 1, 0, none⟩ = some (.pointer none) := cell_of KD 0; have k1 : w3.cell? ⟨N + 1, 1, none⟩ = some (.pointer none) := cell_of KD 1; have k2 : w3.cell? ⟨N + 1, 2, none⟩ = some (.pointer none) := cell_of KD 2))
  have hW : Upd [] w (((w3.setCell ⟨N + 1, 0, none⟩ (.pointer (some ⟨bo, 0, none⟩))).setCell ⟨N + 1, 1, none⟩ (.pointer (some ⟨w1.heap.size, 0, none⟩))).setCell ⟨N + 1, 2, none⟩ (.pointer (some ⟨bc, 0, none⟩))) :=
    (((u1.trans x3).setNew (p := ⟨N + 1, 0, none⟩) (by show w.heap.size ≤ N + 1; omega) _).setNew (p := ⟨N + 1, 1, none⟩) (by show w.heap.size ≤ N + 1; omega) _).setNew (p := ⟨N + 1, 2, none⟩) (by show w.heap.size ≤ N + 1; omega) _
  have hS : Upd [N + 1] w3 (((w3.setCell ⟨N + 1, 0, none⟩ (.pointer (some ⟨bo, 0, none⟩))).setCell ⟨N + 1, 1, none⟩ (.pointer (some ⟨w1.heap.size, 0, none⟩))).setCell ⟨N + 1, 2, none⟩ (.pointer (some ⟨bc, 0, none⟩))) :=
    (((Upd.refl [N + 1] w3).setCell (p := ⟨N + 1, 0, none⟩) (by simp) _).setCell (p := ⟨N + 1, 1, none⟩) (by simp) _).setCell (p := ⟨N + 1, 2, none⟩) (by simp) _
  obtain ⟨g0, g1, g2⟩ := set3_cells (x := .pointer (some ⟨bo, 0, none⟩)) (y := .pointer (some ⟨w1.heap.size, 0, none⟩)) (z := .pointer (some ⟨bc, 0, none⟩)) k0 k1 k2
  generalize (((w3.setCell ⟨N + 1, 0, none⟩ (.pointer (some ⟨bo, 0, none⟩))).setCell ⟨N + 1, 1, none⟩ (.pointer (some ⟨w1.heap.size, 0, none⟩))).setCell ⟨N + 1, 2, none⟩ (.pointer (some ⟨bc, 0, none⟩))) = W at *
  clear k0 k1 k2 f0 f1 f2 KKA KKB KKC c0 c1 c2
  have T1 := Lib.hid t1; have Q2 := Lib.hid q2; have K3 := Lib.hid k3; have HW := Lib.hid hW; have HS := Lib.hid hS
  have V2 := Lib.hid v2; have V3 := Lib.hid v3; have X3 := Lib.hid x3; have X1 := Lib.hid x1; have X2 := Lib.hid x2; have U1 := Lib.hid u1
  have L := Lib.hid (And.intro l1 (And.intro l2 (And.intro l3 (And.intro l4 l5))))
  have BN := Lib.hid (KEEP2.out _ x3)
  clear t1 q2 k3 hW hS v1 v2 v3 x1 x2 x3 u1 KD l1 l2 l3 l4 l5 KEEP KEEP2 PA PB D0 P0
  go_wp2_with fail
  refine bodyPost_ret (by simp [results, Try.results60, go_sem, g0, g1, g2, Result.andThen]; rfl) rfl ?_
  obtain ⟨l1, l2, l3, l4, l5⟩ := L.out
  have s1 := X1.out.size
  have s2 := X2.out.size
  have s3 := T1.out.ltm
  have s4 := T1.out.ltn
  have s5 := V2.out.size
  have s6 : V.drew.heap.size = V.heap.size := rfl
  exact ⟨bo, w1.heap.size, bc, m, n, mc, rfl, ⟨((T1.out.upd0 V2.out).upd0 V3.out).upd HS.out (by simp; omega) (by simp; omega) (by simp; omega), (Q2.out.upd V3.out (by simp)).upd HS.out (by simp; omega), K3.out.upd HS.out (by simp; omega) (by simp; omega), by omega, by omega⟩, ⟨by omega, by omega, by omega, by omega, by omega, by omega⟩, HW.out⟩
theorem rfcopy {w : World} {B : RfB} {s : Rs} (h : RfAt w B s) :
    Calls Try.prog 29 #[.pointer (some ⟨B.b, 0, none⟩)] w fun e w' => ∃ B2 : RfB, e = .returned (.pointer (some ⟨B2.b, 0, none⟩)) ∧ RfAt w' B2 s ∧ B2.since w.heap.size ∧ Upd [] w w' := by
  have H := Lib.hid h
  have D := Lib.hid (h.parts.upd0 ((Upd.refl _ _).drew))
  have c0 : w.cell? ⟨B.b, 0, none⟩ = some (.pointer (some ⟨B.bo, 0, none⟩)) := cell_of h.blk 0
  have c1 : w.cell? ⟨B.b, 1, none⟩ = some (.pointer (some ⟨B.bq, 0, none⟩)) := cell_of h.blk 1
  have c2 : w.cell? ⟨B.b, 2, none⟩ = some (.pointer (some ⟨B.bc, 0, none⟩)) := cell_of h.blk 2
  have c3 : w.cell? ⟨B.b, 3, none⟩ = some (.int .i64 s.size) := cell_of h.blk 3
  have KEEP := Lib.hid (show ∀ w', Upd [] w w' → w'.cell? ⟨B.b, 0, none⟩ = some (.pointer (some ⟨B.bo, 0, none⟩)) ∧ w'.cell? ⟨B.b, 1, none⟩ = some (.pointer (some ⟨B.bq, 0, none⟩)) ∧ w'.cell? ⟨B.b, 2, none⟩ = some (.pointer (some ⟨B.bc, 0, none⟩)) ∧ w'.cell? ⟨B.b, 3, none⟩ = some (.int .i64 s.size) from fun w' u =>
    ⟨cell_of (u.keep H.out.blk (by simp)) 0, cell_of (u.keep H.out.blk (by simp)) 1, cell_of (u.keep H.out.blk (by simp)) 2, cell_of (u.keep H.out.blk (by simp)) 3⟩)
  clear h
  go_enter Try.func29, Try.ntmps29
  go_wp2_with (go_at_call 39; refine (rfvalid H.out).mono ?_; rintro e w' ⟨rfl, rfl⟩)
  go_region_held3 (fun w' => w'.cell? ⟨B.b, 0, none⟩ = some (.pointer (some ⟨B.bo, 0, none⟩)) ∧ w'.cell? ⟨B.b, 1, none⟩ = some (.pointer (some ⟨B.bq, 0, none⟩)) ∧ w'.cell? ⟨B.b, 2, none⟩ = some (.pointer (some ⟨B.bc, 0, none⟩)) ∧ w'.cell? ⟨B.b, 3, none⟩ = some (.int .i64 s.size)) (first | go_keep | exact ⟨c0, c1, c2, c3⟩ | exact KK) (first | (go_at_call 60; refine (rftwin D.out).mono ?_; rintro e w1 ⟨bo, bq, bc, m, n, mc, rfl, p1, l1, u1⟩; have u2 : Upd [] w w1 := ((Upd.refl _ _).drew).trans u1; have KK := KEEP.out _ u2))
  clear c0 c1 c2 c3 KK KEEP D
  obtain ⟨t1, q1, k1, n1⟩ := p1
  have HT := Lib.hid t1; have HQ := Lib.hid q1; have HK := Lib.hid k1; have HN := Lib.hid n1; have HL := Lib.hid l1; have HU := Lib.hid u1; have HV := Lib.hid u2
  clear t1 q1 k1 n1 l1 u1 u2
  go_wp2_with fail
  go_ret
  have u5 : Upd [] w1 (w1.alloc (.cells #[.pointer (some ⟨bo, 0, none⟩), .pointer (some ⟨bq, 0, none⟩), .pointer (some ⟨bc, 0, none⟩), .int .i64 s.size] 71)) := (Upd.refl _ _).alloc _
  refine ⟨⟨w1.heap.size, bo, bq, bc, m, n, mc⟩, rfl, ⟨H.out.ok, new_of _ _, HT.out.upd0 u5, HQ.out.upd u5 (by simp), HK.out.upd u5 (by simp) (by simp), HN.out⟩, ?_, HV.out.alloc _⟩
  intro x hx
  have hl := HL.out
  have hv := HV.out.size
  simp only [RfB.all, List.mem_cons, List.not_mem_nil, or_false] at hx
  have hd : w.drew.heap.size = w.heap.size := rfl
  omega

end Go.Proofs.Ytmbkjnjfipafmaa
