/-
  Contracts of the package refq: Cancel. Conditions: the queue is as New and its own calls leave it.
-/
import Derived.Test.YtmbkjnjfipafmaaRf4
namespace Go.Proofs.Ytmbkjnjfipafmaa
open Go.RowKit Go.Maps

theorem Parts.offAll {w : World} {B : RfB} {p : Pt} {q : Qu} {g : Nat → Nat} (h : Parts w B p q g) {x : Nat} {c : Array Value} {t : TypeId} {f : Nat × Nat} (hx : w.heap[x]? = some (.cells c t f)) (h1 : t ≠ 71) (h2 : t ≠ 97) (h3 : t ≠ 108) (h4 : t ≠ 105) : x ∉ B.all := by
  obtain ⟨_, hq⟩ := h.q.blk
  obtain ⟨_, hc⟩ := clAt_blk h.c
  simp only [RfB.all, List.mem_cons, List.not_mem_nil, or_false, not_or]
  exact ⟨ne_types hx h.blk h1, ne_types hx h.t.blk h2, ne_types hx hq h3, ne_types hx hc h4, h.t.nem hx, h.t.nen hx, clAt_map h.c hx⟩
set_option maxRecDepth 100000 in
set_option maxHeartbeats 2000000 in
theorem can1 {w : World} {B : RfB} {s : Rs} {i : Nat} (x3 x4 x6 : Nat) (h : RfAt w B s) (hq : w.heap[x3]? = some (.cells #[.pointer (some ⟨B.b, 0, none⟩)] 30 (0, 0))) (hn : w.heap[x4]? = some (.cells #[.int .i64 i] 3 (0, 0))) (hb : w.heap[x6]? = some (.cells #[.bool false] 4 (0, 0))) (hi : i < s.size) :
    Calls Try.prog 46 #[.pointer (some ⟨x3, 0, none⟩), .pointer (some ⟨x4, 0, none⟩), .pointer (some ⟨x6, 0, none⟩)] w fun e w' => e = .returned (.int .i64 0) ∧ RfAt w' B (s.canS i) ∧ w'.cell? ⟨x6, 0, none⟩ = some (.bool (s.canB i)) ∧ Upd (x6 :: B.S) w w' := by
  have hB : s.canB i = decide (s.cl i ≠ 0) := by unfold Rs.canB; rw [Int.toNat_natCast, decide_eq_true ⟨by omega, by omega⟩]; rfl
  have HB := Lib.hid hB; clear hB
  have H := Lib.hid h
  have hs := h.szs
  have hi2 : i < 256 := by omega
  have c0 : w.cell? ⟨x3, 0, none⟩ = some (.pointer (some ⟨B.b, 0, none⟩)) := cell_of hq 0
  have c1 : w.cell? ⟨x4, 0, none⟩ = some (.int .i64 i) := cell_of hn 0
  have n34 : x3 ≠ x6 := ne_types hq hb (by decide)
  have n46 : x4 ≠ x6 := ne_types hn hb (by decide)
  have HQ := Lib.hid hq; have HN := Lib.hid hn; have HX := Lib.hid hb
  clear h hq hn hb hs
  go_enter Try.func46, Try.ntmps46
  go_wp2_with fail
  refine (rffree H.out i hi).mono ?_; rintro e w1 ⟨rfl, u1⟩
  by_cases hz : s.cl i = 0
  · rw [decide_eq_true hz]
    have hS : s.canS i = s := by unfold Rs.canS; rw [HB.out, hz]; rfl
    have HS := Lib.hid hS
    have HZ := Lib.hid hz
    have x1 := u1.keep HX.out (by simp)
    have k2 : w1.cell? ⟨x6, 0, none⟩ = some (.bool false) := cell_of x1 0
    have fr : w1.frozen? ⟨x6, 0, none⟩ = false := free_of x1 0
    have P1 := Lib.hid (H.out.parts.upd0 u1)
    clear hz hS c0 c1
    go_wp2_with fail
    go_ret
    refine ⟨rfl, ?_, ?_, (u1.nil (S := x6 :: B.S)).setCell (p := ⟨x6, 0, none⟩) (by simp) _⟩
    · rw [HS.out]
      exact (H.out.upd0 u1).updA ((Upd.refl [x6] w1).setCell (p := ⟨x6, 0, none⟩) (by simp) _) (fun y hy => by simp; rintro rfl; exact P1.out.offAll x1 (by decide) (by decide) (by decide) (by decide) hy)
    · rw [HB.out, decide_eq_false (by simpa using HZ.out)]
      exact World.cell?_setCell_same' _ _ _ (by rw [k2]; rfl)
  · rw [decide_eq_false hz]
    have hcl : s.cl i = 1 := by
      unfold Rs.cl at hz ⊢
      split at hz
      · rename_i h0; rw [if_pos h0]
      · exact absurd rfl hz
    have hS : s.canS i = s.remS i := by unfold Rs.canS; rw [HB.out, decide_eq_true hz, if_pos rfl, Int.toNat_natCast]
    have HS := Lib.hid hS
    have HC := Lib.hid hcl; have HZ := Lib.hid hz
    have x1 := u1.keep HX.out (by simp)
    have xq := u1.keep HQ.out (by simp)
    have xn := u1.keep HN.out (by simp)
    have p1 := H.out.parts.upd0 u1
    have hx6 : ∀ y, y ∈ B.all → y ∉ [x6] := fun y hy => by simp; rintro rfl; exact p1.offAll x1 (by decide) (by decide) (by decide) (by decide) hy
    have us : Upd [x6] w1 (w1.setCell ⟨x6, 0, none⟩ (.bool true)) := (Upd.refl [x6] w1).setCell (p := ⟨x6, 0, none⟩) (by simp) _
    have xb : (w1.setCell ⟨x6, 0, none⟩ (.bool true)).cell? ⟨x6, 0, none⟩ = some (.bool true) := World.cell?_setCell_same' _ _ _ (by rw [cell_of x1 0]; rfl)
    have xl : x6 < (w1.setCell ⟨x6, 0, none⟩ (.bool true)).heap.size := World.block_lt_of_cell? _ _ xb
    have r1 := (H.out.upd0 u1).updA us hx6
    have yq := us.keep xq (by simpa using n34)
    have yn := us.keep xn (by simpa using n46)
    have U1 := Lib.hid (((u1.nil (S := x6 :: B.S))).trans (us.mono (T := x6 :: B.S) (by simp)))
    have NX := Lib.hid (p1.notIn x1 (by decide))
    clear hz hcl hS p1 xq xn c0 c1 n34 n46 hx6
    have d2 : w1.cell? ⟨x6, 0, none⟩ = some (.bool false) := cell_of x1 0
    have fr : w1.frozen? ⟨x6, 0, none⟩ = false := free_of x1 0
    clear x1 us u1
    go_wp2_with fail
    generalize w1.setCell ⟨x6, 0, none⟩ (.bool true) = V at *
    clear d2 fr
    have c0 : V.cell? ⟨x3, 0, none⟩ = some (.pointer (some ⟨B.b, 0, none⟩)) := cell_of yq 0
    have c1 : V.cell? ⟨x4, 0, none⟩ = some (.int .i64 i) := cell_of yn 0
    have p0 := r1.parts
    obtain ⟨d0, -, -⟩ := p0.ptrs
    have ho := r1.t.ok
    have hok := r1.ok
    have hcl := pclr (p0.upd0 ((Upd.refl _ _).drew)).t (i : Int)
    rw [pclrS_eq ho] at hcl
    obtain ⟨⟨o1, o2⟩, hor⟩ : ∃ x : Rf, s.pt.clrR i = x := ⟨_, rfl⟩
    rw [hor] at hcl
    dsimp only at hcl
    generalize s.pt.clrE i = oe at hcl
    have HCL := Lib.hid hcl
    have P0 := Lib.hid p0
    have YQ := Lib.hid yq; have YN := Lib.hid yn; have XB := Lib.hid xb; have XL := Lib.hid xl; have HOK := Lib.hid hok
    have KEEP := Lib.hid (show ∀ w', Upd [B.m, B.n] V w' → w'.cell? ⟨x3, 0, none⟩ = some (.pointer (some ⟨B.b, 0, none⟩)) ∧ w'.cell? ⟨x4, 0, none⟩ = some (.int .i64 i) ∧ w'.cell? ⟨B.b, 0, none⟩ = some (.pointer (some ⟨B.bo, 0, none⟩)) from fun w' u =>
      ⟨cell_of (u.keep YQ.out (by simp; exact ⟨P0.out.t.nem YQ.out, P0.out.t.nen YQ.out⟩)) 0, cell_of (u.keep YN.out (by simp; exact ⟨P0.out.t.nem YN.out, P0.out.t.nen YN.out⟩)) 0, cell_of (u.keep P0.out.blk (by simp; exact ⟨P0.out.t.nem P0.out.blk, P0.out.t.nen P0.out.blk⟩)) 0⟩)
    clear hcl p0 yq yn xb xl hok ho hor r1
    go_region_held3 (fun w' => w'.cell? ⟨x3, 0, none⟩ = some (.pointer (some ⟨B.b, 0, none⟩)) ∧ w'.cell? ⟨x4, 0, none⟩ = some (.int .i64 i) ∧ w'.cell? ⟨B.b, 0, none⟩ = some (.pointer (some ⟨B.bo, 0, none⟩))) (first | go_keep | exact ⟨c0, c1, d0⟩ | exact KK) (first | (go_at_call 41; refine HCL.out.mono ?_; rintro e w2 ⟨rfl, t2, u2⟩; have u3 : Upd [B.m, B.n] V w2 := ((Upd.refl _ _).drew).trans u2; have KK := KEEP.out _ u3))
    have p1 := P0.out.goT u3 t2 rfl
    have yq := u3.keep YQ.out (by simp; exact ⟨P0.out.t.nem YQ.out, P0.out.t.nen YQ.out⟩)
    have yn := u3.keep YN.out (by simp; exact ⟨P0.out.t.nem YN.out, P0.out.t.nen YN.out⟩)
    have U2 := Lib.hid (U1.out.trans (u3.mono (T := x6 :: B.S) (by simp [RfB.S])))
    have HV := Lib.hid (u3.mono (T := B.S) (by simp [RfB.S]))
    clear KEEP HCL t2 u2 u3 KK c0 c1 d0
    have c0 : w2.cell? ⟨x3, 0, none⟩ = some (.pointer (some ⟨B.b, 0, none⟩)) := cell_of yq 0
    have c1 : w2.cell? ⟨x4, 0, none⟩ = some (.int .i64 i) := cell_of yn 0
    obtain ⟨-, d1, -⟩ := p1.ptrs
    have hre := rem_any (i : Int) (p1.upd0 ((Upd.refl _ _).drew)).q
    rw [remS_erase] at hre
    generalize s.qu.remB i = ob at hre
    have HRE := Lib.hid hre
    have P1 := Lib.hid p1; have ZQ := Lib.hid yq; have ZN := Lib.hid yn
    obtain ⟨_, hqb⟩ := p1.q.blk
    have HQB := Lib.hid hqb
    have KEEP := Lib.hid (show ∀ w', Upd [B.bq] w2 w' → w'.cell? ⟨x3, 0, none⟩ = some (.pointer (some ⟨B.b, 0, none⟩)) ∧ w'.cell? ⟨x4, 0, none⟩ = some (.int .i64 i) ∧ w'.cell? ⟨B.b, 1, none⟩ = some (.pointer (some ⟨B.bq, 0, none⟩)) from fun w' u =>
      ⟨cell_of (u.keep ZQ.out (by simpa using ne_types ZQ.out HQB.out (by decide))) 0, cell_of (u.keep ZN.out (by simpa using ne_types ZN.out HQB.out (by decide))) 0, cell_of (u.keep P1.out.blk (by simpa using ne_types P1.out.blk HQB.out (by decide))) 1⟩)
    clear hre p1 yq yn hqb
    go_wp2_with fail
    go_region_held3 (fun w' => w'.cell? ⟨x3, 0, none⟩ = some (.pointer (some ⟨B.b, 0, none⟩)) ∧ w'.cell? ⟨x4, 0, none⟩ = some (.int .i64 i) ∧ w'.cell? ⟨B.b, 1, none⟩ = some (.pointer (some ⟨B.bq, 0, none⟩))) (first | go_keep | exact ⟨c0, c1, d1⟩ | exact KK) (first | (go_at_call 47; refine HRE.out.mono ?_; rintro e w3 ⟨rfl, q3, u3⟩; have u4 : Upd [B.bq] w2 w3 := ((Upd.refl _ _).drew).trans u3; have KK := KEEP.out _ u4))
    have p2 := P1.out.goQ u4 q3
    have yq := u4.keep ZQ.out (by simpa using ne_types ZQ.out HQB.out (by decide))
    have yn := u4.keep ZN.out (by simpa using ne_types ZN.out HQB.out (by decide))
    have U3 := Lib.hid (U2.out.trans (u4.mono (T := x6 :: B.S) (by simp [RfB.S])))
    have HV3 := Lib.hid (HV.out.trans (u4.mono (T := B.S) (by simp [RfB.S])))
    clear KEEP HRE q3 u3 u4 KK c0 c1 d1
    have c0 : w3.cell? ⟨x3, 0, none⟩ = some (.pointer (some ⟨B.b, 0, none⟩)) := cell_of yq 0
    have c1 : w3.cell? ⟨x4, 0, none⟩ = some (.int .i64 i) := cell_of yn 0
    obtain ⟨-, -, d2⟩ := p2.ptrs
    have hca := Cl.cancel_armed _ _ _ i _ (p2.upd0 ((Upd.refl _ _).drew)).c hi2 HC.out
    have HCA := Lib.hid hca
    have P2 := Lib.hid p2; have WQ := Lib.hid yq; have WN := Lib.hid yn
    have KEEP := Lib.hid (show ∀ w', Upd [B.mc] w3 w' → w'.cell? ⟨x3, 0, none⟩ = some (.pointer (some ⟨B.b, 0, none⟩)) ∧ w'.cell? ⟨x4, 0, none⟩ = some (.int .i64 i) ∧ w'.cell? ⟨B.b, 2, none⟩ = some (.pointer (some ⟨B.bc, 0, none⟩)) from fun w' u =>
      ⟨cell_of (u.keep WQ.out (by simpa using clAt_map P2.out.c WQ.out)) 0, cell_of (u.keep WN.out (by simpa using clAt_map P2.out.c WN.out)) 0, cell_of (u.keep P2.out.blk (by simpa using clAt_map P2.out.c P2.out.blk)) 2⟩)
    clear hca p2 yq yn
    go_wp2_with fail
    go_region_held3 (fun w' => w'.cell? ⟨x3, 0, none⟩ = some (.pointer (some ⟨B.b, 0, none⟩)) ∧ w'.cell? ⟨x4, 0, none⟩ = some (.int .i64 i) ∧ w'.cell? ⟨B.b, 2, none⟩ = some (.pointer (some ⟨B.bc, 0, none⟩))) (first | go_keep | exact ⟨c0, c1, d2⟩ | exact KK) (first | (go_at_call 48; refine HCA.out.mono ?_; rintro e w4 ⟨rfl, k4, u4⟩; have u5 : Upd [B.mc] w3 w4 := ((Upd.refl _ _).drew).trans u4; have KK := KEEP.out _ u5))
    have p3 := P2.out.goC u5 k4
    have yq := u5.keep WQ.out (by simpa using clAt_map P2.out.c WQ.out)
    have yn := u5.keep WN.out (by simpa using clAt_map P2.out.c WN.out)
    have U4 := Lib.hid (U3.out.trans (u5.mono (T := x6 :: B.S) (by simp [RfB.S])))
    have HV4 := Lib.hid (HV3.out.trans (u5.mono (T := B.S) (by simp [RfB.S])))
    clear KEEP HCA k4 u4 u5 KK c0 c1 d2
    have c0 : w4.cell? ⟨x3, 0, none⟩ = some (.pointer (some ⟨B.b, 0, none⟩)) := cell_of yq 0
    have c1 : w4.cell? ⟨x4, 0, none⟩ = some (.int .i64 i) := cell_of yn 0
    obtain ⟨-, -, d2⟩ := p3.ptrs
    have hfo := Cl.forget_done _ _ _ i _ (p3.upd0 ((Upd.refl _ _).drew)).c hi2 (by rw [upd_same]; decide) (by rw [upd_same]; decide)
    have HFO := Lib.hid hfo
    have P3 := Lib.hid p3; have TQ := Lib.hid yq; have TN := Lib.hid yn
    have KEEP := Lib.hid (show ∀ w', Upd [B.mc] w4 w' → w'.cell? ⟨x3, 0, none⟩ = some (.pointer (some ⟨B.b, 0, none⟩)) ∧ w'.cell? ⟨x4, 0, none⟩ = some (.int .i64 i) ∧ w'.cell? ⟨B.b, 2, none⟩ = some (.pointer (some ⟨B.bc, 0, none⟩)) from fun w' u =>
      ⟨cell_of (u.keep TQ.out (by simpa using clAt_map P3.out.c TQ.out)) 0, cell_of (u.keep TN.out (by simpa using clAt_map P3.out.c TN.out)) 0, cell_of (u.keep P3.out.blk (by simpa using clAt_map P3.out.c P3.out.blk)) 2⟩)
    clear hfo p3 yq yn
    go_wp2_with fail
    go_region_held3 (fun w' => w'.cell? ⟨x3, 0, none⟩ = some (.pointer (some ⟨B.b, 0, none⟩)) ∧ w'.cell? ⟨x4, 0, none⟩ = some (.int .i64 i) ∧ w'.cell? ⟨B.b, 2, none⟩ = some (.pointer (some ⟨B.bc, 0, none⟩))) (first | go_keep | exact ⟨c0, c1, d2⟩ | exact KK) (first | (go_at_call 45; refine HFO.out.mono ?_; rintro e w5 ⟨rfl, k5, u5⟩; have u6 : Upd [B.mc] w4 w5 := ((Upd.refl _ _).drew).trans u5; have KK := KEEP.out _ u6))
    have p4 := P3.out.goC u6 k5
    have U5 := Lib.hid (U4.out.trans (u6.mono (T := x6 :: B.S) (by simp [RfB.S])))
    have HV5 := Lib.hid (HV4.out.trans (u6.mono (T := B.S) (by simp [RfB.S])))
    have P4 := Lib.hid p4
    clear KEEP HFO k5 u5 u6 KK c0 c1 d2 p4
    go_wp2_with fail
    go_ret
    refine ⟨rfl, ?_, ?_, U5.out⟩
    · rw [HS.out]
      refine Parts.rf (s := s.remS i) ?_ (rem_ok HOK.out i)
      rw [cl_rem HOK.out i 3]
      exact P4.out
    · rw [HB.out, decide_eq_true HZ.out]
      exact (HV5.out.cell (p := ⟨x6, 0, none⟩) XL.out NX.out).trans XB.out

end Go.Proofs.Ytmbkjnjfipafmaa
