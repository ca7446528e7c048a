/-
  Contracts of the package refq: Register, Found, Poll. Conditions: the queue is as New and its own calls leave it.
-/
import Derived.Test.YtmbkjnjfipafmaaRf2
namespace Go.Proofs.Ytmbkjnjfipafmaa
open Go.RowKit Go.Maps

/-- 'with', at an id that there is, does what it is given. -/
theorem with_reg {w : World} {B : RfB} {s : Rs} (h : RfAt w B s) (i : Nat) (hi : i < s.size) (p5 p3 p4 : Value) {R : Int → World → Prop} (hc : Calls Try.prog 34 #[p5, p3, p4] w fun e w' => ∃ x, e = .returned (.int .i64 x) ∧ R x w') :
    Calls Try.prog 33 #[.pointer (some ⟨B.b, 0, none⟩), .int .i64 i, .func (.func 34) #[] #[p5, p3, p4]] w fun e w' => ∃ x, e = .returned (.int .i64 x) ∧ R x w' := by
  have H := Lib.hid h; have HC := Lib.hid hc
  have c3 : w.cell? ⟨B.b, 3, none⟩ = some (.int .i64 s.size) := cell_of h.blk 3
  have hi2 : (i : Int) < (s.size : Int) := by omega
  clear h hc
  go_enter Try.func33, Try.ntmps33
  go_wp2_with (first | (go_at_call 39; refine (rfvalid H.out).mono ?_; rintro e w' ⟨rfl, rfl⟩) | (go_at_call 34; refine HC.out.mono ?_; rintro e w' ⟨x, rfl, hr⟩))
  go_ret
  exact ⟨x, rfl, hr⟩
theorem with_can {w : World} {B : RfB} {s : Rs} (h : RfAt w B s) (i : Nat) (hi : i < s.size) (p5 p3 p4 : Value) {R : Int → World → Prop} (hc : Calls Try.prog 46 #[p5, p3, p4] w fun e w' => ∃ x, e = .returned (.int .i64 x) ∧ R x w') :
    Calls Try.prog 33 #[.pointer (some ⟨B.b, 0, none⟩), .int .i64 i, .func (.func 46) #[] #[p5, p3, p4]] w fun e w' => ∃ x, e = .returned (.int .i64 x) ∧ R x w' := by
  have H := Lib.hid h; have HC := Lib.hid hc
  have c3 : w.cell? ⟨B.b, 3, none⟩ = some (.int .i64 s.size) := cell_of h.blk 3
  have hi2 : (i : Int) < (s.size : Int) := by omega
  clear h hc
  go_enter Try.func33, Try.ntmps33
  go_wp2_with (first | (go_at_call 39; refine (rfvalid H.out).mono ?_; rintro e w' ⟨rfl, rfl⟩) | (go_at_call 46; refine HC.out.mono ?_; rintro e w' ⟨x, rfl, hr⟩))
  go_ret
  exact ⟨x, rfl, hr⟩
theorem with_out {w : World} {B : RfB} {s : Rs} (h : RfAt w B s) (id : Int) (f : Value) (hi : ¬ (0 ≤ id ∧ id < s.size)) :
    Calls Try.prog 33 #[.pointer (some ⟨B.b, 0, none⟩), .int .i64 id, f] w fun e w' => e = .returned (.int .i64 3) ∧ w = w' := by
  have H := Lib.hid h
  have c3 : w.cell? ⟨B.b, 3, none⟩ = some (.int .i64 s.size) := cell_of h.blk 3
  clear h
  by_cases h0 : id < 0
  · clear hi
    go_enter Try.func33, Try.ntmps33
    go_wp2_with (go_at_call 39; refine (rfvalid H.out).mono ?_; rintro e w' ⟨rfl, rfl⟩)
    go_ret
    exact ⟨rfl, rfl⟩
  · have h1 : (s.size : Int) ≤ id := by omega
    clear hi
    go_enter Try.func33, Try.ntmps33
    go_wp2_with (go_at_call 39; refine (rfvalid H.out).mono ?_; rintro e w' ⟨rfl, rfl⟩)
    go_ret
    exact ⟨rfl, rfl⟩
/-- What 'Register' answers. -/
def Rs.regE' (s : Rs) (id : Int) (r : Rf) : Int := if 0 ≤ id ∧ id < s.size then s.regE id.toNat r else 3
def Rs.regS' (s : Rs) (id : Int) (r : Rf) : Rs := if 0 ≤ id ∧ id < s.size then s.regS id.toNat r else s
theorem rfreg {w : World} {B : RfB} {s : Rs} (h : RfAt w B s) (id : Int) (r : Rf) (hw : refWf r) :
    Calls Try.prog 13 #[.pointer (some ⟨B.b, 0, none⟩), .int .i64 id, .agg #[.int .i64 r.1, .int .u32 r.2]] w fun e w' => e = .returned (.int .i64 (s.regE' id r)) ∧ RfAt w' B (s.regS' id r) ∧ Upd B.S w w' := by
  have u1 : Upd [] w (((w.alloc (.cells #[.pointer (some ⟨B.b, 0, none⟩)] 30)).alloc (.cells #[.int .i64 id] 3)).alloc (.cells #[.int .i64 r.1, .int .u32 r.2] 36)) := (((Upd.refl _ _).alloc _).alloc _).alloc _
  have h1 := h.upd0 u1
  have b3 : (((w.alloc (.cells #[.pointer (some ⟨B.b, 0, none⟩)] 30)).alloc (.cells #[.int .i64 id] 3)).alloc (.cells #[.int .i64 r.1, .int .u32 r.2] 36)).heap[w.heap.size]? = some (.cells #[.pointer (some ⟨B.b, 0, none⟩)] 30 (0, 0)) := alloc_of (alloc_of (new_of _ _))
  have b4 : (((w.alloc (.cells #[.pointer (some ⟨B.b, 0, none⟩)] 30)).alloc (.cells #[.int .i64 id] 3)).alloc (.cells #[.int .i64 r.1, .int .u32 r.2] 36)).heap[w.heap.size + 1]? = some (.cells #[.int .i64 id] 3 (0, 0)) := by
    have := new_of (w.alloc (.cells #[.pointer (some ⟨B.b, 0, none⟩)] 30)) (.cells #[.int .i64 id] 3)
    rw [World.size_alloc] at this
    exact alloc_of this
  have b5 : (((w.alloc (.cells #[.pointer (some ⟨B.b, 0, none⟩)] 30)).alloc (.cells #[.int .i64 id] 3)).alloc (.cells #[.int .i64 r.1, .int .u32 r.2] 36)).heap[w.heap.size + 1 + 1]? = some (.cells #[.int .i64 r.1, .int .u32 r.2] 36 (0, 0)) := by
    have := new_of ((w.alloc (.cells #[.pointer (some ⟨B.b, 0, none⟩)] 30)).alloc (.cells #[.int .i64 id] 3)) (.cells #[.int .i64 r.1, .int .u32 r.2] 36)
    simpa using this
  obtain ⟨r1, r2⟩ := r
  dsimp only at u1 h1 b3 b4 b5 ⊢
  have HU := Lib.hid u1
  have H1 := Lib.hid h1
  have B3 := Lib.hid b3; have B4 := Lib.hid b4; have B5 := Lib.hid b5
  unfold Rs.regE' Rs.regS'
  clear u1 h1 b3 b4 b5
  by_cases hid : 0 ≤ id ∧ id < s.size
  · obtain ⟨i, rfl⟩ := Int.eq_ofNat_of_zero_le hid.1
    have hi : i < s.size := by omega
    rw [if_pos hid, if_pos hid, Int.toNat_natCast]
    have bx : Boxes _ (w.heap.size + 1 + 1) w.heap.size (w.heap.size + 1) B i r1 r2 := ⟨B5.out, B3.out, B4.out⟩
    have hc : Calls Try.prog 34 #[.pointer (some ⟨w.heap.size + 1 + 1, 0, none⟩), .pointer (some ⟨w.heap.size, 0, none⟩), .pointer (some ⟨w.heap.size + 1, 0, none⟩)] (((w.alloc (.cells #[.pointer (some ⟨B.b, 0, none⟩)] 30)).alloc (.cells #[.int .i64 i] 3)).alloc (.cells #[.int .i64 r1, .int .u32 r2] 36)) (fun e w' => ∃ x, e = .returned (.int .i64 x) ∧ (fun (x : Int) w' => x = s.regE i (r1, r2) ∧ RfAt w' B (s.regS i (r1, r2)) ∧ Upd B.S w w') x w') := by
      by_cases hg : goodR (r1, r2)
      · exact (reg1_good _ _ _ H1.out bx hi hg).mono fun _ _ ⟨h1, h2, h3⟩ => ⟨_, h1, rfl, h2, HU.out.nil.trans h3⟩
      · have hE : s.regE i (r1, r2) = 2 := by unfold Rs.regE; rw [if_neg hg]
        have hS : s.regS i (r1, r2) = s := by unfold Rs.regS; rw [hE]; rfl
        exact (reg1_bad _ _ _ hw bx hg).mono fun _ _ ⟨h1, h2⟩ => ⟨_, h1, by rw [hE], by rw [hS]; exact h2 ▸ H1.out, h2 ▸ HU.out.nil⟩
    have hwr := with_reg H1.out i hi _ _ _ hc
    have HW := Lib.hid hwr
    clear hc hwr bx h hid
    go_enter Try.func13, Try.ntmps13
    go_wp2_with (go_at_call 33; refine HW.out.mono ?_; rintro e w5 ⟨x, rfl, hx, hr, hu⟩)
    go_ret
    subst hx
    exact ⟨rfl, hr, hu⟩
  · rw [if_neg hid, if_neg hid]
    have hwo := fun f => with_out H1.out id f hid
    have HW := Lib.hid hwo
    clear hwo h hid
    go_enter Try.func13, Try.ntmps13
    go_wp2_with (go_at_call 33; refine (HW.out _).mono ?_; rintro e w5 ⟨rfl, rfl⟩)
    go_ret
    exact ⟨rfl, H1.out, HU.out.nil⟩

/-- What 'Found' answers. -/
def Rs.fndB (s : Rs) (r : Rf) : Bool := (s.byI r).isSome && decide (s.l.length ≠ s.places)
def Rs.fndE (s : Rs) (r : Rf) : Int := if (s.byI r).isSome = true ∧ s.l.length = s.places then 4 else 0
def Rs.fndS (s : Rs) (r : Rf) : Rs := match s.byI r with
  | some i => if s.l.length = s.places then s else ⟨s.size, s.places, Go.Proofs.Ytmbkjnjfipafmaa.setG s.g i none, s.l ++ [(i : Int)]⟩
  | none => s
theorem psetG_none {g : Nat → Option Rf} {i : Nat} (h : g i = none) : Go.Proofs.Ytmbkjnjfipafmaa.setG g i none = g := by
  funext j
  unfold Go.Proofs.Ytmbkjnjfipafmaa.setG
  split
  · subst_vars; exact h.symm
  · rfl
theorem pclrS_eq {s : Pt} (ho : s.ok) {i : Nat} : s.clrS i = s.set i none := by
  unfold Pt.clrS
  rw [ofI_nat ho]
  split
  · rfl
  · rename_i h
    have hg : s.g i = none := by cases hx : s.g i <;> simp [hx] at h ⊢
    rw [Pt.set, psetG_none hg]
theorem fnd_ok {s : Rs} (ho : s.ok) {i : Nat} (hi : i < s.size) (hg : (s.g i).isSome = true) : (Rs.mk s.size s.places (Go.Proofs.Ytmbkjnjfipafmaa.setG s.g i none) (s.l ++ [(i : Int)])).ok := by
  have hni := ho.apart i hg
  refine ⟨List.nodup_append.2 ⟨ho.nodup, by simp, fun a ha c hc e => hni (by simp at hc; subst hc; exact e ▸ ha)⟩, fun j hj => ?_, fun x hx => ?_⟩
  · by_cases e : j = i
    · subst e; simp [setG_same] at hj
    · have hj2 : (s.g j).isSome = true := by simpa [setG_other _ _ e] using hj
      intro hm
      rcases List.mem_append.1 hm with hm | hm
      · exact ho.apart j hj2 hm
      · simp at hm; omega
  · rcases List.mem_append.1 hx with hx | hx
    · exact ho.lt x hx
    · simp at hx; subst hx; show 0 ≤ (i : Int) ∧ (i : Int) < (s.size : Int); omega
theorem fnd_cl {s : Rs} {i : Nat} (hg : (s.g i).isSome = true) : (Rs.mk s.size s.places (Go.Proofs.Ytmbkjnjfipafmaa.setG s.g i none) (s.l ++ [(i : Int)])).cl = s.cl := by
  funext j
  unfold Rs.cl
  by_cases e : j = i
  · subst e
    rw [if_pos (.inr (by simp)), if_pos (.inl hg)]
  · have h1 : Go.Proofs.Ytmbkjnjfipafmaa.setG s.g i none j = s.g j := setG_other _ _ e
    have h2 : ((j : Int) ∈ s.l ++ [(i : Int)]) ↔ (j : Int) ∈ s.l := by
      rw [List.mem_append]
      simp
      omega
    simp only [h1, h2]
theorem rffound {w : World} {B : RfB} {s : Rs} (h : RfAt w B s) (r : Rf) (hw : refWf r) :
    Calls Try.prog 15 #[.pointer (some ⟨B.b, 0, none⟩), .agg #[.int .i64 r.1, .int .u32 r.2]] w fun e w' => e = .returned (.tuple #[.bool (s.fndB r), .int .i64 (s.fndE r)]) ∧ RfAt w' B (s.fndS r) ∧ Upd B.S w w' := by
  have u1 : Upd [] w (w.alloc (.cells #[.int .i64 r.1, .int .u32 r.2] 36)) := (Upd.refl _ _).alloc _
  have H := Lib.hid (h.upd0 u1)
  have hN := new_of w (.cells #[.int .i64 r.1, .int .u32 r.2] 36)
  have b0 := cell_of H.out.blk 0
  have n0 := cell_of hN 0
  have n1 := cell_of hN 1
  have D := Lib.hid (H.out.upd0 ((Upd.refl _ _).drew))
  have HU := Lib.hid u1
  obtain ⟨r1, r2⟩ := r
  clear h hN u1
  dsimp only at b0 n0 n1 H D HU ⊢
  have hpb := pby D.out.t (r1, r2) hw
  obtain ⟨bq, hbq⟩ : ∃ x, s.byI (r1, r2) = x := ⟨_, rfl⟩
  rw [show s.pt.byI (r1, r2) = bq from hbq] at hpb
  have HPB := Lib.hid hpb
  have HBQ := Lib.hid hbq
  clear hpb hbq
  go_enter Try.func15, Try.ntmps15
  go_wp2_with (go_at_call 39; refine (rfvalid H.out).mono ?_; rintro e w' ⟨rfl, rfl⟩)
  generalize w.alloc (.cells #[.int .i64 r1, .int .u32 r2] 36) = V at *
  generalize w.heap.size = N at *
  have hbl := lt_of_block H.out.blk
  have hnl := World.block_lt_of_cell? V _ n0
  have KEEP := Lib.hid (show ∀ w', Upd [] V w' → w'.cell? ⟨B.b, 0, none⟩ = some (.pointer (some ⟨B.bo, 0, none⟩)) ∧ w'.cell? ⟨N, 0, none⟩ = some (.int .i64 r1) ∧ w'.cell? ⟨N, 1, none⟩ = some (.int .u32 r2) from fun w' u => ⟨(u.cell (p := ⟨B.b, 0, none⟩) hbl (by simp)).trans b0, (u.cell (p := ⟨N, 0, none⟩) hnl (by simp)).trans n0, (u.cell (p := ⟨N, 1, none⟩) hnl (by simp)).trans n1⟩)
  go_region_held3 (fun w' => w'.cell? ⟨B.b, 0, none⟩ = some (.pointer (some ⟨B.bo, 0, none⟩)) ∧ w'.cell? ⟨N, 0, none⟩ = some (.int .i64 r1) ∧ w'.cell? ⟨N, 1, none⟩ = some (.int .u32 r2)) (first | go_keep | exact ⟨b0, n0, n1⟩ | exact KK) (first | (go_at_call 35; refine HPB.out.mono ?_; rintro e w1 ⟨rfl, u2⟩; have u3 : Upd [] V w1 := ((Upd.refl _ _).drew).trans u2; have KK := KEEP.out _ u3))
  have h1 := H.out.upd0 u3
  have U1 := Lib.hid (HU.out.trans u3)
  have H1 := Lib.hid h1
  clear b0 n0 n1 hbl hnl KEEP KK u2 u3 h1 D HPB
  cases bq with
  | none =>
    have e1 : s.fndB (r1, r2) = false := by unfold Rs.fndB; rw [HBQ.out]; rfl
    have e2 : s.fndE (r1, r2) = 0 := by unfold Rs.fndE; rw [HBQ.out]; simp
    have e3 : s.fndS (r1, r2) = s := by unfold Rs.fndS; rw [HBQ.out]
    have E1 := Lib.hid e1; have E2 := Lib.hid e2; have E3 := Lib.hid e3
    clear e1 e2 e3
    dsimp only [Option.getD_none, Option.isSome_none]
    go_wp2
    go_ret2
    exact ⟨by rw [E1.out, E2.out]; rfl, by rw [E3.out]; exact H1.out, U1.out.nil⟩
  | some i =>
    have hgi : s.g i = some (r1, r2) := byI_some (s := s.pt) HBQ.out
    have hgs : (s.g i).isSome = true := by rw [hgi]; rfl
    have his : i < s.size := (H1.out.t.ok.good i _ hgi).1
    have hs := H1.out.szs
    have b1 : w1.cell? ⟨B.b, 1, none⟩ = some (.pointer (some ⟨B.bq, 0, none⟩)) := H1.out.ptrs.2.1
    have b0 : w1.cell? ⟨B.b, 0, none⟩ = some (.pointer (some ⟨B.bo, 0, none⟩)) := H1.out.ptrs.1
    have HGS := Lib.hid hgs; have HGI := Lib.hid hgi
    clear hgs hgi
    dsimp only [Option.getD_some, Option.isSome_some]
    go_wp2_with fail
    refine (room_any H1.out.q).mono ?_; rintro e w2 ⟨rfl, u2⟩
    have H2 := Lib.hid (H1.out.upd0 u2)
    have U2 := Lib.hid (U1.out.trans u2)
    clear u2 b0 b1
    by_cases hf : s.l.length = s.places
    · have e0 : (s.qu.size - s.qu.l.length : Nat) = 0 := by show s.places - s.l.length = 0; omega
      have e1 : s.fndB (r1, r2) = false := by unfold Rs.fndB; rw [decide_eq_false (by simpa using hf)]; simp
      have e2 : s.fndE (r1, r2) = 4 := by unfold Rs.fndE; rw [HBQ.out]; simp [hf]
      have e3 : s.fndS (r1, r2) = s := by unfold Rs.fndS; rw [HBQ.out]; simp [hf]
      rw [e0]
      have E1 := Lib.hid e1; have E2 := Lib.hid e2; have E3 := Lib.hid e3
      clear e0 e1 e2 e3 hf
      go_wp2
      go_ret2
      exact ⟨by rw [E1.out, E2.out]; rfl, by rw [E3.out]; exact H2.out, U2.out.nil⟩
    · obtain ⟨d, hd⟩ : ∃ d, (s.qu.size - s.qu.l.length : Nat) = d := ⟨_, rfl⟩
      have hd0 : 0 < d := by rw [← hd]; show 0 < s.places - s.l.length; omega
      rw [hd]
      have hdb : ((d : Int) == 0) = false := by simp; omega
      have e1 : s.fndB (r1, r2) = true := by unfold Rs.fndB; rw [HBQ.out]; simp [hf]
      have e2 : s.fndE (r1, r2) = 0 := by unfold Rs.fndE; rw [if_neg (fun h => hf h.2)]
      have e3 : s.fndS (r1, r2) = ⟨s.size, s.places, Go.Proofs.Ytmbkjnjfipafmaa.setG s.g i none, s.l ++ [(i : Int)]⟩ := by unfold Rs.fndS; rw [HBQ.out]; simp [hf]
      have E1 := Lib.hid e1; have E2 := Lib.hid e2; have E3 := Lib.hid e3
      have b0 : w2.cell? ⟨B.b, 0, none⟩ = some (.pointer (some ⟨B.bo, 0, none⟩)) := H2.out.ptrs.1
      have hcl := pclr H2.out.t (i : Int)
      have c1 : s.pt.clrE i = 0 := by unfold Pt.clrE; rw [if_pos ⟨by omega, by show (i : Int) < (s.size : Int); omega⟩, ofI_nat H2.out.t.ok]; show (if (s.g i).isSome = true then (0 : Int) else 5) = 0; rw [HGS.out]; rfl
      rw [c1, pclrS_eq H2.out.t.ok] at hcl
      obtain ⟨⟨o1, o2⟩, hor⟩ : ∃ x : Rf, s.pt.clrR i = x := ⟨_, rfl⟩
      rw [hor] at hcl
      dsimp only at hcl
      have HCL := Lib.hid hcl
      have HF := Lib.hid hf
      clear e1 e2 e3 hcl c1 hor hd hf
      go_wp2_with fail
      refine HCL.out.mono ?_; rintro e w3 ⟨rfl, t3, u3⟩
      obtain ⟨k3, q3, cc3⟩ := H2.out.table u3
      have ul : Upd [] w3 (w3.alloc (.cells #[.int .i64 o1, .int .u32 o2] 36)) := (Upd.refl _ _).alloc _
      have q4 := q3.upd ul (by simp)
      have had := add_any (i : Int) q4
      have hni := H2.out.ok.apart i HGS.out
      have a1 : s.qu.addE i = 0 := by
        unfold Qu.addE
        rw [if_pos ⟨by omega, by omega⟩]
        show (if (i : Int) ∈ s.l then (6 : Int) else if s.l.length = s.places then 4 else 0) = 0
        rw [if_neg hni, if_neg HF.out]
      have a2 : s.qu.addS i = ⟨s.places, s.l ++ [(i : Int)]⟩ := by
        unfold Qu.addS
        rw [if_pos ⟨by omega, by omega, hni, by show s.l.length < s.places; have := HF.out; omega⟩]; rfl
      rw [a1, a2] at had
      have HAD := Lib.hid had
      have T4 := Lib.hid (t3.upd0 ul); have C4 := Lib.hid (cc3.upd ul (by simp) (by simp)); have K4 := Lib.hid (ul.keep k3 (by simp)); have Q4 := Lib.hid q4
      have b1 : w3.cell? ⟨B.b, 1, none⟩ = some (.pointer (some ⟨B.bq, 0, none⟩)) := cell_of k3 1
      have bl := lt_of_block k3
      have U4 := Lib.hid ((U2.out.nil.trans (u3.mono (T := B.S) (by simp [RfB.S]))).trans ul.nil)
      clear t3 u3 k3 q3 cc3 ul q4 had a1 a2 hni b0
      go_wp2_with fail
      refine HAD.out.mono ?_; rintro e w5 ⟨rfl, q5, u5⟩
      go_wp2_with fail
      go_ret2
      obtain ⟨_, hqb⟩ := Q4.out.blk
      obtain ⟨_, hcb⟩ := clAt_blk C4.out
      refine ⟨by rw [E1.out, E2.out]; rfl, ?_, U4.out.trans (u5.mono (by simp [RfB.S]))⟩
      rw [E3.out]
      refine ⟨fnd_ok H2.out.ok his HGS.out, u5.keep K4.out (by simpa using ne_types K4.out hqb (by decide)), T4.out.upd u5 (by simpa using ne_types T4.out.blk hqb (by decide)) (by simpa using fun e : B.m = B.bq => T4.out.nem hqb e.symm) (by simpa using fun e : B.n = B.bq => T4.out.nen hqb e.symm), q5, ?_, H2.out.ne⟩
      rw [fnd_cl HGS.out]
      exact C4.out.upd u5 (by simpa using ne_types hcb hqb (by decide)) (by simpa using fun e : B.mc = B.bq => clAt_map C4.out hqb e.symm)

end Go.Proofs.Ytmbkjnjfipafmaa
