/-
  Contracts of the package refq: New, Register. Conditions: the queue is as New and its own calls leave it.
-/
import Derived.Test.YtmbkjnjfipafmaaRf
namespace Go.Proofs.Ytmbkjnjfipafmaa
open Go.RowKit Go.Maps

theorem paddS_ok {s : Pt} {id : Int} {r : Rf} (h : s.addE id r = 0) : s.addS id r = s.set id.toNat (some r) := if_pos h
theorem rfnew_err (a b : Int) (w : World) (h : (a < 1 ∨ 256 < a) ∨ (b < 1 ∨ 64 < b)) : Calls Try.prog 21 #[.int .i64 a, .int .i64 b] w fun e w' => e = .returned (.tuple #[.pointer none, .int .i64 2]) ∧ w = w' := by
  by_cases h1 : a < 1
  · go_enter Try.func21, Try.ntmps21
    go_wp2
    go_ret2
    exact ⟨rfl, rfl⟩
  · by_cases h2 : 256 < a
    · go_enter Try.func21, Try.ntmps21
      go_wp2
      go_ret2
      exact ⟨rfl, rfl⟩
    · by_cases h3 : b < 1
      · clear h
        go_enter Try.func21, Try.ntmps21
        go_wp2
        go_ret2
        exact ⟨rfl, rfl⟩
      · have h4 : 64 < b := by omega
        clear h
        go_enter Try.func21, Try.ntmps21
        go_wp2
        go_ret2
        exact ⟨rfl, rfl⟩
def rs0 (a b : Nat) : Rs := ⟨a, b, fun _ => none, []⟩
theorem rfnew_ok (a b : Nat) (w : World) (h1 : 1 ≤ a) (h2 : a ≤ 256) (h3 : 1 ≤ b) (h4 : b ≤ 64) :
    Calls Try.prog 21 #[.int .i64 a, .int .i64 b] w fun e w' => ∃ B : RfB, e = .returned (.tuple #[.pointer (some ⟨B.b, 0, none⟩), .int .i64 0]) ∧ RfAt w' B (rs0 a b) ∧ B.since w.heap.size ∧ Upd [] w w' := by
  go_enter Try.func21, Try.ntmps21
  go_wp2_with fail
  refine (pnew_ok a _ h1 h2).mono ?_; rintro e w1 ⟨rfl, t1, u1⟩
  go_wp2_with fail
  refine (new_at b _ h3 h4).mono ?_; rintro e w2 ⟨rfl, q2, u2⟩
  go_wp2_with fail
  refine (Cl.new_at _).mono ?_; rintro e w3 ⟨rfl, c3, u3⟩
  go_wp2_with fail
  go_ret2
  have hs1 := t1.lt
  have e1 := u1.size
  have e2 := u2.size
  have e3 := u3.size
  have e4 := c3.lt
  have hcl : (rs0 a b).cl = fun _ => 0 := by funext i; simp [Rs.cl, rs0]
  refine ⟨⟨w3.heap.size, w.heap.size + 2, w1.heap.size, w2.heap.size + 1, w.heap.size, w.heap.size + 1, w2.heap.size⟩, rfl, ⟨⟨by simp [rs0], by simp [rs0], by simp [rs0]⟩, new_of _ _, ?_, ?_, ?_, ?_⟩, ?_, ((u1.trans u2).trans u3).alloc _⟩
  · exact (t1.upd0 (u2.trans u3)).upd0 ((Upd.refl _ _).alloc _)
  · exact (q2.upd u3 (by simp)).upd ((Upd.refl [] _).alloc _) (by simp)
  · rw [hcl]; exact c3.upd ((Upd.refl [] _).alloc _) (by simp) (by simp)
  · show w2.heap.size ≠ w.heap.size ∧ w2.heap.size ≠ w.heap.size + 1
    omega
  · intro x hx
    simp only [RfB.all, List.mem_cons, List.not_mem_nil, or_false] at hx
    omega

theorem rffree {w : World} {B : RfB} {s : Rs} (h : RfAt w B s) (i : Nat) (hi : i < s.size) :
    Calls Try.prog 36 #[.pointer (some ⟨B.b, 0, none⟩), .int .i64 i] w fun e w' => e = .returned (.bool (decide (s.cl i = 0))) ∧ Upd [] w w' := by
  have H := Lib.hid h
  have c2 := cell_of h.blk 2
  have hs := h.szs
  have hi2 : i < 256 := by omega
  clear h hs
  by_cases hz : s.cl i = 0
  · rw [decide_eq_true hz]
    have HZ := Lib.hid hz; clear hz
    go_enter Try.func36, Try.ntmps36
    go_wp2_with (go_at_call 65; refine (Cl.get_none _ _ _ i _ H.out.c hi2 HZ.out).mono ?_; rintro e w1 ⟨rfl, u1⟩)
    go_ret
    exact ⟨rfl, u1.alloc _⟩
  · rw [decide_eq_false hz]
    have HZ := Lib.hid hz; clear hz
    generalize hv : s.cl i = v at *
    have HV := Lib.hid hv; clear hv
    go_enter Try.func36, Try.ntmps36
    go_wp2_with (go_at_call 65; refine (Cl.get_in _ _ _ i _ H.out.c hi2 (by rw [HV.out]; exact HZ.out)).mono ?_; rw [HV.out]; rintro e w1 ⟨rfl, u1⟩)
    go_ret
    exact ⟨rfl, u1.alloc _⟩

/-- What 'Register' answers at an id that there is. -/
def Rs.regE (s : Rs) (i : Nat) (r : Rf) : Int := if goodR r then (if (s.byI r).isSome = true ∨ s.cl i ≠ 0 then 6 else 0) else 2
def Rs.setG (s : Rs) (i : Nat) (o : Option Rf) : Rs := ⟨s.size, s.places, Go.Proofs.Ytmbkjnjfipafmaa.setG s.g i o, s.l⟩
def Rs.regS (s : Rs) (i : Nat) (r : Rf) : Rs := if s.regE i r = 0 then s.setG i (some r) else s
theorem cl_zero {s : Rs} {i : Nat} (h : s.cl i = 0) : s.g i = none ∧ (i : Int) ∉ s.l := by
  unfold Rs.cl at h
  split at h
  · cases h
  · rename_i hn
    refine ⟨?_, fun hm => hn (.inr hm)⟩
    cases hg : s.g i with
    | none => rfl
    | some r => exact absurd (.inl (by rw [hg]; rfl)) hn
theorem cl_set {s : Rs} {i : Nat} {r : Rf} : (s.setG i (some r)).cl = upd s.cl i 1 := by
  funext j
  unfold Rs.cl Rs.setG upd
  by_cases e : j = i
  · subst e
    rw [if_pos rfl, if_pos (.inl (by show (Go.Proofs.Ytmbkjnjfipafmaa.setG s.g j (some r) j).isSome = true; rw [setG_same]; rfl))]
  · rw [if_neg e]
    simp only [setG_other _ _ e]
theorem ok_set {s : Rs} (ho : s.ok) {i : Nat} {r : Rf} (h : s.cl i = 0) : (s.setG i (some r)).ok := by
  refine ⟨ho.nodup, fun j hj => ?_, ho.lt⟩
  by_cases e : j = i
  · subst e; exact (cl_zero h).2
  · exact ho.apart j (by simpa [Rs.setG, setG_other _ _ e] using hj)
/-- The boxes of a closure. -/
structure Boxes (w : World) (x5 x3 x4 : Nat) (B : RfB) (i : Nat) (r1 r2 : Int) : Prop where
  r : w.heap[x5]? = some (.cells #[.int .i64 r1, .int .u32 r2] 36 (0, 0))
  q : w.heap[x3]? = some (.cells #[.pointer (some ⟨B.b, 0, none⟩)] 30 (0, 0))
  i : w.heap[x4]? = some (.cells #[.int .i64 i] 3 (0, 0))
theorem Boxes.upd {w w' : World} {x5 x3 x4 : Nat} {B : RfB} {i : Nat} {r1 r2 : Int} {s : Rs} (b : Boxes w x5 x3 x4 B i r1 r2) (h : RfAt w B s) {S : List Nat} (u : Upd S w w') (hS : ∀ x, x ∈ S → x ∈ B.S) : Boxes w' x5 x3 x4 B i r1 r2 :=
  ⟨u.keep b.r (fun hm => h.notIn b.r (by decide) (hS _ hm)), u.keep b.q (fun hm => h.notIn b.q (by decide) (hS _ hm)), u.keep b.i (fun hm => h.notIn b.i (by decide) (hS _ hm))⟩
theorem Boxes.upd0 {w w' : World} {x5 x3 x4 : Nat} {B : RfB} {i : Nat} {r1 r2 : Int} (b : Boxes w x5 x3 x4 B i r1 r2) (u : Upd [] w w') : Boxes w' x5 x3 x4 B i r1 r2 :=
  ⟨u.keep b.r (by simp), u.keep b.q (by simp), u.keep b.i (by simp)⟩
/-- What the closure's loads read. -/
theorem Boxes.cells {w : World} {x5 x3 x4 : Nat} {B : RfB} {i : Nat} {r1 r2 : Int} (b : Boxes w x5 x3 x4 B i r1 r2) :
    w.cell? ⟨x5, 0, none⟩ = some (.int .i64 r1) ∧ w.cell? ⟨x5, 1, none⟩ = some (.int .u32 r2) ∧ w.cell? ⟨x3, 0, none⟩ = some (.pointer (some ⟨B.b, 0, none⟩)) ∧ w.cell? ⟨x4, 0, none⟩ = some (.int .i64 i) :=
  ⟨cell_of b.r 0, cell_of b.r 1, cell_of b.q 0, cell_of b.i 0⟩
theorem RfAt.ptrs {w : World} {B : RfB} {s : Rs} (h : RfAt w B s) :
    w.cell? ⟨B.b, 0, none⟩ = some (.pointer (some ⟨B.bo, 0, none⟩)) ∧ w.cell? ⟨B.b, 1, none⟩ = some (.pointer (some ⟨B.bq, 0, none⟩)) ∧ w.cell? ⟨B.b, 2, none⟩ = some (.pointer (some ⟨B.bc, 0, none⟩)) :=
  ⟨cell_of h.blk 0, cell_of h.blk 1, cell_of h.blk 2⟩

theorem reg1_bad {w : World} {B : RfB} {i : Nat} {r1 r2 : Int} (x5 x3 x4 : Nat) (hw : refWf (r1, r2)) (hb : Boxes w x5 x3 x4 B i r1 r2) (hr : ¬ goodR (r1, r2)) :
    Calls Try.prog 34 #[.pointer (some ⟨x5, 0, none⟩), .pointer (some ⟨x3, 0, none⟩), .pointer (some ⟨x4, 0, none⟩)] w fun e w' => e = .returned (.int .i64 2) ∧ w = w' := by
  obtain ⟨c0, c1, c2, c3⟩ := hb.cells
  have hb2 := bounds_u32 hw.2
  unfold goodR at hr
  dsimp only at hr hb2
  clear hb hw
  by_cases h1 : r1 < 0
  · clear hr hb2
    go_enter Try.func34, Try.ntmps34
    go_wp2
    go_ret
    exact ⟨rfl, rfl⟩
  · by_cases h2 : 256 ≤ r1
    · clear hr hb2
      go_enter Try.func34, Try.ntmps34
      go_wp2
      go_ret
      exact ⟨rfl, rfl⟩
    · obtain rfl : r2 = 0 := by omega
      clear hr hb2
      go_enter Try.func34, Try.ntmps34
      go_wp2
      go_ret
      exact ⟨rfl, rfl⟩
set_option maxRecDepth 100000 in
set_option maxHeartbeats 2000000 in
theorem reg1_good {w : World} {B : RfB} {s : Rs} {i : Nat} {r1 r2 : Int} (x5 x3 x4 : Nat) (h : RfAt w B s) (hb : Boxes w x5 x3 x4 B i r1 r2) (hi : i < s.size) (hr : goodR (r1, r2)) :
    Calls Try.prog 34 #[.pointer (some ⟨x5, 0, none⟩), .pointer (some ⟨x3, 0, none⟩), .pointer (some ⟨x4, 0, none⟩)] w fun e w' => e = .returned (.int .i64 (s.regE i (r1, r2))) ∧ RfAt w' B (s.regS i (r1, r2)) ∧ Upd B.S w w' := by
  have hE : s.regE i (r1, r2) = if (s.byI (r1, r2)).isSome = true ∨ s.cl i ≠ 0 then 6 else 0 := by unfold Rs.regE; rw [if_pos hr]
  have HE := Lib.hid hE; clear hE
  have H0 := Lib.hid h; have HB := Lib.hid hb; have HG := Lib.hid hr
  obtain ⟨c0, c1, c2, c3⟩ := hb.cells
  obtain ⟨d0, d1, d2⟩ := h.ptrs
  have D := Lib.hid (h.upd0 ((Upd.refl _ _).drew))
  obtain ⟨g0, g1, g2, g3⟩ := hr
  dsimp only at g0 g1 g2 g3
  have g4 : (r2 == 0) = false := by simp; omega
  have KEEP := Lib.hid (show ∀ w', Upd [] w w' → w'.cell? ⟨x5, 0, none⟩ = some (.int .i64 r1) ∧ w'.cell? ⟨x5, 1, none⟩ = some (.int .u32 r2) ∧ w'.cell? ⟨x3, 0, none⟩ = some (.pointer (some ⟨B.b, 0, none⟩)) ∧ w'.cell? ⟨B.b, 0, none⟩ = some (.pointer (some ⟨B.bo, 0, none⟩)) from fun w' u => by
    obtain ⟨e0, e1, e2, -⟩ := (HB.out.upd0 u).cells
    exact ⟨e0, e1, e2, (H0.out.upd0 u).ptrs.1⟩)
  have hpb := pby D.out.t (r1, r2) HG.out.wf
  have HPB := Lib.hid hpb
  obtain ⟨bq, hbq⟩ : ∃ x, s.byI (r1, r2) = x := ⟨_, rfl⟩
  have HBQ := Lib.hid hbq
  clear hpb h hb hbq
  go_enter Try.func34, Try.ntmps34
  go_wp2_with fail
  go_region_held3 (fun w' => w'.cell? ⟨x5, 0, none⟩ = some (.int .i64 r1) ∧ w'.cell? ⟨x5, 1, none⟩ = some (.int .u32 r2) ∧ w'.cell? ⟨x3, 0, none⟩ = some (.pointer (some ⟨B.b, 0, none⟩)) ∧ w'.cell? ⟨B.b, 0, none⟩ = some (.pointer (some ⟨B.bo, 0, none⟩))) (first | go_keep | exact ⟨c0, c1, c2, d0⟩ | exact KK) (first | (go_at_call 35; refine HPB.out.mono ?_; rintro e w1 ⟨rfl, u1⟩; have u2 : Upd [] w w1 := ((Upd.refl _ _).drew).trans u1; have KK := KEEP.out _ u2))
  have h1 := H0.out.upd0 u2
  have b1 := HB.out.upd0 u2
  have U1 := Lib.hid u2
  rw [show s.pt.byI (r1, r2) = bq from HBQ.out]
  clear c0 c1 c2 c3 d0 d1 d2 KK u1 u2 D KEEP HPB
  obtain ⟨c0, c1, c2, c3⟩ := b1.cells
  have H1 := Lib.hid h1; have B1 := Lib.hid b1
  clear h1 b1
  cases bq with
  | some j =>
    have hE : s.regE i (r1, r2) = 6 := by rw [HE.out, HBQ.out]; simp
    have hS : s.regS i (r1, r2) = s := by unfold Rs.regS; rw [hE]; rfl
    have HEE := Lib.hid hE; have HSS := Lib.hid hS
    clear hE hS
    dsimp only [Option.getD_some, Option.isSome_some]
    go_wp2_with fail
    go_ret
    exact ⟨by rw [HEE.out]; rfl, by rw [HSS.out]; exact H1.out, U1.out.nil⟩
  | none =>
    dsimp only [Option.getD_none, Option.isSome_none]
    go_wp2_with fail
    refine (rffree H1.out i hi).mono ?_; rintro e w2 ⟨rfl, u2⟩
    have h2 := H1.out.upd0 u2
    have b2 := B1.out.upd0 u2
    have U2 := Lib.hid (U1.out.trans u2)
    have H2 := Lib.hid h2; have B2 := Lib.hid b2
    clear c0 c1 c2 c3 u2 h2 b2
    by_cases hz : s.cl i = 0
    · rw [decide_eq_true hz]
      have HZ := Lib.hid hz
      have hs := H2.out.szs
      have hi2 : i < 256 := by omega
      have hA0 : s.pt.addE i (r1, r2) = 0 := by
        unfold Pt.addE
        rw [if_pos ⟨by omega, by show (i : Int) < (s.size : Int); omega⟩, if_pos HG.out, ofI_nat H2.out.t.ok, show s.pt.byI (r1, r2) = none from HBQ.out, show s.pt.g i = none from (cl_zero hz).1]
        simp
      have hE : s.regE i (r1, r2) = 0 := by rw [HE.out, HBQ.out, hz]; simp
      have hS : s.regS i (r1, r2) = s.setG i (some (r1, r2)) := by unfold Rs.regS; rw [hE]; rfl
      have HEE := Lib.hid hE; have HSS := Lib.hid hS
      clear hE hS hz hs
      obtain ⟨c0, c1, c2, c3⟩ := B2.out.cells
      obtain ⟨d0, -, d2⟩ := H2.out.ptrs
      have hpa := padd (H2.out.upd0 ((Upd.refl _ _).drew)).t i (r1, r2) HG.out.wf
      unfold AddPost at hpa
      rw [hA0, paddS_ok hA0, Int.toNat_natCast] at hpa
      dsimp only at hpa
      have HPA := Lib.hid hpa
      clear hpa hA0
      have KEEP := Lib.hid (show ∀ w', Upd [B.m, B.n] w2 w' → w'.cell? ⟨x5, 0, none⟩ = some (.int .i64 r1) ∧ w'.cell? ⟨x5, 1, none⟩ = some (.int .u32 r2) ∧ w'.cell? ⟨x3, 0, none⟩ = some (.pointer (some ⟨B.b, 0, none⟩)) ∧ w'.cell? ⟨x4, 0, none⟩ = some (.int .i64 i) ∧ w'.cell? ⟨B.b, 0, none⟩ = some (.pointer (some ⟨B.bo, 0, none⟩)) from fun w' u => by
        obtain ⟨e0, e1, e2, e3⟩ := (B2.out.upd H2.out u (by simp [RfB.S])).cells
        exact ⟨e0, e1, e2, e3, cell_of (u.keep H2.out.blk (by simp; exact ⟨H2.out.t.nem H2.out.blk, H2.out.t.nen H2.out.blk⟩)) 0⟩)
      go_wp2_with fail
      go_region_held3 (fun w' => w'.cell? ⟨x5, 0, none⟩ = some (.int .i64 r1) ∧ w'.cell? ⟨x5, 1, none⟩ = some (.int .u32 r2) ∧ w'.cell? ⟨x3, 0, none⟩ = some (.pointer (some ⟨B.b, 0, none⟩)) ∧ w'.cell? ⟨x4, 0, none⟩ = some (.int .i64 i) ∧ w'.cell? ⟨B.b, 0, none⟩ = some (.pointer (some ⟨B.bo, 0, none⟩))) (first | go_keep | exact ⟨c0, c1, c2, c3, d0⟩ | exact KK) (first | (go_at_call 37; refine HPA.out.mono ?_; rintro e w3 ⟨rfl, t3, u3⟩; have u4 : Upd [B.m, B.n] w2 w3 := ((Upd.refl _ _).drew).trans u3; have KK := KEEP.out _ u4))
      all_goals
        obtain ⟨k3, q3, cc3⟩ := H2.out.table u4
        have b3 := B2.out.upd H2.out u4 (by simp [RfB.S])
        have U3 := Lib.hid (U2.out.nil.trans (u4.mono (T := B.S) (by simp [RfB.S])))
        have T3 := Lib.hid t3; have Q3 := Lib.hid q3; have C3 := Lib.hid cc3; have K3 := Lib.hid k3; have B3 := Lib.hid b3
        clear t3 u3 u4 k3 q3 cc3 b3 KK c0 c1 c2 c3 d0 d2 HPA KEEP
        obtain ⟨c0, c1, c2, c3⟩ := B3.out.cells
        have d2 : w3.cell? ⟨B.b, 2, none⟩ = some (.pointer (some ⟨B.bc, 0, none⟩)) := cell_of K3.out 2
        have hcd := C3.out.upd ((Upd.refl [] _).drew) (by simp) (by simp)
        have har := Cl.arm_new _ _ _ i _ hcd hi2 HZ.out
        have HAR := Lib.hid har
        have KEEP := Lib.hid (show ∀ w', Upd [B.mc] w3 w' → w'.cell? ⟨x3, 0, none⟩ = some (.pointer (some ⟨B.b, 0, none⟩)) ∧ w'.cell? ⟨x4, 0, none⟩ = some (.int .i64 i) ∧ w'.cell? ⟨B.b, 2, none⟩ = some (.pointer (some ⟨B.bc, 0, none⟩)) from fun w' u =>
          ⟨cell_of (u.keep B3.out.q (by simpa using clAt_map C3.out B3.out.q)) 0, cell_of (u.keep B3.out.i (by simpa using clAt_map C3.out B3.out.i)) 0, cell_of (u.keep K3.out (by simpa using clAt_map C3.out K3.out)) 2⟩)
        clear hcd har c0 c1
        go_wp2_with fail
        go_region_held3 (fun w' => w'.cell? ⟨x3, 0, none⟩ = some (.pointer (some ⟨B.b, 0, none⟩)) ∧ w'.cell? ⟨x4, 0, none⟩ = some (.int .i64 i) ∧ w'.cell? ⟨B.b, 2, none⟩ = some (.pointer (some ⟨B.bc, 0, none⟩))) (first | go_keep | exact ⟨c2, c3, d2⟩ | exact KK) (first | (go_at_call 38; refine HAR.out.mono ?_; rintro e w5 ⟨rfl, cc5, u5⟩; have u6 : Upd [B.mc] w3 w5 := ((Upd.refl _ _).drew).trans u5; have KK := KEEP.out _ u6))
        all_goals
          go_wp2_with fail
          go_ret
          have hne := H2.out.ne
          obtain ⟨_, hqb⟩ := Q3.out.blk
          refine ⟨by rw [HEE.out]; rfl, ?_, U3.out.trans (u6.mono (by simp [RfB.S]))⟩
          rw [HSS.out]
          refine ⟨ok_set H2.out.ok HZ.out, u6.keep K3.out (by simpa using clAt_map C3.out K3.out), T3.out.upd u6 (by simpa using clAt_map C3.out T3.out.blk) (by simpa using fun e : B.m = B.mc => hne.1 e.symm) (by simpa using fun e : B.n = B.mc => hne.2 e.symm), Q3.out.upd u6 (by simpa using clAt_map C3.out hqb), ?_, hne⟩
          rw [cl_set]
          exact cc5
    · rw [decide_eq_false hz]
      have hE : s.regE i (r1, r2) = 6 := by rw [HE.out, if_pos (.inr hz)]
      have hS : s.regS i (r1, r2) = s := by unfold Rs.regS; rw [hE]; rfl
      have HEE := Lib.hid hE; have HSS := Lib.hid hS
      clear hE hS hz
      go_wp2_with fail
      go_ret
      exact ⟨by rw [HEE.out]; rfl, by rw [HSS.out]; exact H2.out, U2.out.nil⟩

end Go.Proofs.Ytmbkjnjfipafmaa
