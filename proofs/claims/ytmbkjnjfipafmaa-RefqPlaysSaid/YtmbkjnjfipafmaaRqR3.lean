/-
  Contracts of the document's reference queue (estrayref30): Register, Found, Poll, Cancel, Copy. Conditions: it is as New and its own calls leave it.
-/
import Derived.Test.YtmbkjnjfipafmaaRqR2
import Derived.Test.YtmbkjnjfipafmaaRfTurn
namespace Go.Proofs.Ytmbkjnjfipafmaa
open Go.RowKit Go.Maps

structure Okk (s : Rs) : Prop where
  p : s.pt.ok
  o : s.ok
  b : s.places ≤ 64
  l : s.l.length ≤ s.places
theorem RfAt.okk {w : World} {B : RfB} {s : Rs} (h : RfAt w B s) : Okk s := ⟨h.t.ok, h.ok, h.szs.2.2.2.1, h.szs.2.2.2.2⟩
theorem RqIn.at {w : World} {rb gl cl : Nat} {s : Rs} {vq : Value} (h : RqIn w rb s.size s.places (gv s.g) s.l gl cl vq) : RqAt w rb s := ⟨gl, cl, vq, h⟩
/-- Another list. -/
theorem RqIn.setQ {w : World} {rb N P gl cl : Nat} {F : Nat → Rf} {l l' : List Int} {vq v' : Value} (h : RqIn w rb N P F l gl cl vq) (hv : Ints w v' l') : RqIn (w.setCell ⟨rb, 3, none⟩ v') rb N P F l' gl cl v' := by
  have u : Upd [rb] w (w.setCell ⟨rb, 3, none⟩ v') := (Upd.refl [rb] w).setCell (p := ⟨rb, 3, none⟩) (by simp) _
  obtain ⟨c, hc⟩ := h.row.blk
  refine ⟨set_of h.blk 3 _, h.row.upd u (by simpa using ne_types hc h.blk (by decide)), hv.kb h.blk (by decide) u, h.c1, h.c2⟩
theorem qqpoll {w : World} {rb : Nat} {s : Rs} (h : RqAt w rb s) (_ : Okk s) :
    Calls Try.prog 27 #[.pointer (some ⟨rb, 0, none⟩)] w fun e w' => e = .returned (.tuple #[.int .i64 s.pollX, .bool s.pollB]) ∧ RqAt w' rb s.pollS ∧ Upd [rb] w w' := by
  obtain ⟨gl, cl, vq, h⟩ := h
  obtain ⟨va, vc, rfl, hvc1, hvc2⟩ := h.q.form
  have H := Lib.hid h
  have k3 : w.cell? ⟨rb, 3, none⟩ = some (.slice va s.l.length vc) := cell_of h.blk 3
  have fr : w.frozen? ⟨rb, 3, none⟩ = false := free_of h.blk 3
  clear h
  by_cases h0 : s.l.length = 0
  · have E1 := Lib.hid (show s.pollX = 0 by unfold Rs.pollX; rw [List.eq_nil_of_length_eq_zero h0]; rfl)
    have E2 := Lib.hid (show s.pollB = false by unfold Rs.pollB; rw [List.eq_nil_of_length_eq_zero h0]; rfl)
    have E3 := Lib.hid (pollS_nil h0)
    have hl0 : ((s.l.length : Int) == 0) = true := by simp [h0]
    clear h0
    go_enter Try.func27, Try.ntmps27
    go_wp2_with (go_at_call 56; refine (qqvalid H.out).mono ?_; rintro e w' ⟨rfl, rfl⟩)
    go_ret2
    exact ⟨by rw [E1.out, E2.out]; rfl, by rw [E3.out]; exact H.out.at, Upd.refl _ _⟩
  · have hlt : 0 < s.l.length := by omega
    have hl0 : ((s.l.length : Int) == 0) = false := by simp; intro hh; exact h0 (by simp [hh])
    have E1 := Lib.hid (show s.pollX = s.l[0] from headD_of hlt)
    have E2 := Lib.hid (show s.pollB = true from notEmpty_of hlt)
    obtain ⟨g, off, rfl, hg, _, hcell⟩ := H.out.q.at hlt
    rw [Nat.add_zero] at hcell
    have HPL := Lib.hid (show s.pollS.l = s.l.drop 1 by simp [Rs.pollS])
    clear h0
    obtain ⟨x0, hx0⟩ : ∃ x, s.l[0] = x := ⟨_, rfl⟩
    rw [hx0] at hcell
    have HX := Lib.hid hx0
    clear hx0
    by_cases hcap : vc = 1
    · subst hcap
      have hln : s.l.length = 1 := by omega
      have HLN := Lib.hid hln
      go_enter Try.func27, Try.ntmps27
      go_wp2_with (go_at_call 56; refine (qqvalid H.out).mono ?_; rintro e w' ⟨rfl, rfl⟩)
      go_ret2
      refine ⟨by rw [E1.out, HX.out, E2.out]; rfl, ?_, (Upd.refl [rb] w).setCell (p := ⟨rb, 3, none⟩) (by simp) _⟩
      refine RqIn.at (s := s.pollS) (H.out.setQ ?_)
      rw [HPL.out, List.drop_eq_nil_of_le (by have := HLN.out; omega)]
      exact sl_empty _ _ _
    · have hcl : 1 < vc := by omega
      have HD := Lib.hid (SlAt.drop1 (H.out.q) (i := 1) (by omega) hcl)
      go_enter Try.func27, Try.ntmps27
      go_wp2_with (go_at_call 56; refine (qqvalid H.out).mono ?_; rintro e w' ⟨rfl, rfl⟩)
      go_ret2
      refine ⟨by rw [E1.out, HX.out, E2.out]; rfl, ?_, (Upd.refl [rb] w).setCell (p := ⟨rb, 3, none⟩) (by simp) _⟩
      refine RqIn.at (s := s.pollS) (H.out.setQ ?_)
      rw [HPL.out]
      unfold Ints
      rw [List.length_drop, List.map_drop]
      exact HD.out
set_option maxRecDepth 100000 in
set_option maxHeartbeats 2000000 in
theorem qqfound {w : World} {rb : Nat} {s : Rs} (h : RqAt w rb s) (hk : Okk s) (r : Rf) :
    Calls Try.prog 26 #[.pointer (some ⟨rb, 0, none⟩), .agg #[.int .i64 r.1, .int .u32 r.2]] w fun e w' => e = .returned (.tuple #[.bool (s.fndB r), .int .i64 (s.fndE r)]) ∧ RqAt w' rb (s.fndS r) ∧ Upd [rb] w w' := by
  obtain ⟨r1, r2⟩ := r
  obtain ⟨gl, cl, vq, h⟩ := h
  have u1 : Upd [] w (w.alloc (.cells #[.int .i64 r1, .int .u32 r2] 36)) := (Upd.refl _ _).alloc _
  have hX := new_of w (.cells #[.int .i64 r1, .int .u32 r2] 36)
  have H := Lib.hid (h.upd0 u1); have HU := Lib.hid u1
  have HK := Lib.hid hk
  have hN : s.size ≤ 256 := hk.p.le
  have hP := hk.b
  have hL := hk.l
  clear h u1 hk
  have zR := zeroR
  dsimp only
  go_enter Try.func26, Try.ntmps26
  go_wp2_with fail
  generalize w.alloc (.cells #[.int .i64 r1, .int .u32 r2] 36) = V at *
  generalize w.heap.size = X at *
  have x0 : V.cell? ⟨X, 0, none⟩ = some (.int .i64 r1) := cell_of hX 0
  have x1 : V.cell? ⟨X, 1, none⟩ = some (.int .u32 r2) := cell_of hX 1
  clear hX
  refine (qqvalid H.out).mono ?_; rintro e w' ⟨rfl, rfl⟩
  go_wp2_with fail
  refine (qqwatches H.out HK.out.p (r1, r2)).mono ?_; rintro e w2 ⟨rfl, u2⟩
  have H2 := Lib.hid (H.out.upd0 u2); have U2 := Lib.hid (HU.out.trans u2)
  clear u2 x0 x1 H HU
  cases hb : s.byI (r1, r2) with
  | none =>
    have E1 := Lib.hid (show s.fndB (r1, r2) = false by unfold Rs.fndB; rw [hb]; rfl)
    have E2 := Lib.hid (show s.fndE (r1, r2) = 0 by unfold Rs.fndE; rw [hb]; simp)
    have E3 := Lib.hid (show s.fndS (r1, r2) = s by unfold Rs.fndS; rw [hb])
    dsimp only [Option.getD_none, Option.isSome_none]
    clear hb
    go_wp2_with fail
    go_ret2
    exact ⟨by rw [E1.out, E2.out]; rfl, by rw [E3.out]; exact H2.out.at, U2.out.nil⟩
  | some j =>
    have hgj : s.g j = some (r1, r2) := byI_some (s := s.pt) hb
    have hjs : j < s.size := (HK.out.p.good j _ hgj).1
    obtain ⟨va, vc, rfl, hvc1, hvc2⟩ := H2.out.q.form
    have k1 : w2.cell? ⟨rb, 1, none⟩ = some (.int .i64 s.places) := cell_of H2.out.blk 1
    have k3 : w2.cell? ⟨rb, 3, none⟩ = some (.slice va s.l.length vc) := cell_of H2.out.blk 3
    dsimp only [Option.getD_some, Option.isSome_some]
    by_cases hf : s.l.length = s.places
    · have E1 := Lib.hid (show s.fndB (r1, r2) = false by unfold Rs.fndB; rw [decide_eq_false (by simpa using hf)]; simp)
      have E2 := Lib.hid (show s.fndE (r1, r2) = 4 by unfold Rs.fndE; rw [hb]; simp [hf])
      have E3 := Lib.hid (show s.fndS (r1, r2) = s by unfold Rs.fndS; rw [hb]; exact if_pos hf)
      have hle : (s.places : Int) ≤ (s.l.length : Int) := by omega
      clear hb hgj hf
      go_wp2_with fail
      go_quiet (fail)
      go_wp2_with fail
      go_ret2
      exact ⟨by rw [E1.out, E2.out]; rfl, by rw [E3.out]; exact (H2.out.upd0 ((Upd.refl _ _).drewN _)).at, (U2.out.drewN _).nil⟩
    · have E1 := Lib.hid (show s.fndB (r1, r2) = true by unfold Rs.fndB; rw [hb]; simp [hf])
      have E2 := Lib.hid (show s.fndE (r1, r2) = 0 by unfold Rs.fndE; rw [if_neg (fun hh => hf hh.2)])
      have E3 := Lib.hid (show s.fndS (r1, r2) = ⟨s.size, s.places, Go.Proofs.Ytmbkjnjfipafmaa.setG s.g j none, s.l ++ [(j : Int)]⟩ by unfold Rs.fndS; rw [hb]; exact if_neg hf)
      have hle : ¬ (s.places : Int) ≤ (s.l.length : Int) := by omega
      clear hb hgj hf
      go_wp2_with fail
      go_quiet (fail)
      have H3 := Lib.hid (H2.out.upd0 ((Upd.refl _ _).drewN nq)); have U3 := Lib.hid (U2.out.drewN nq)
      clear H2 U2 k1 k3
      generalize w2.drewN nq = w3 at *
      go_wp2_with fail
      refine (qqset H3.out j hjs hN (0, 0)).mono ?_; rintro e w4 ⟨⟨v4, rfl⟩, ⟨gl4, cl4, h4⟩, u4⟩
      have H4 := Lib.hid h4; have U4 := Lib.hid (U3.out.nil.trans u4)
      have k3 : w4.cell? ⟨rb, 3, none⟩ = some (.slice va s.l.length vc) := cell_of h4.blk 3
      have kl := lt_of_block h4.blk
      obtain ⟨i0, hii, hz0, hz1, hz2⟩ := info_parts info3
      have HS := Lib.hid (show SlAt (w4.alloc (.cells #[] 3)) 3 1 (.slice va s.l.length vc) s.l.length (s.l.map (Value.int .i64)) from h4.q.upd0 ((Upd.refl _ _).alloc _))
      clear h4 u4 H3 U3
      go_wp2_with (at_builtin; refine wpList_append_any _ rfl (.tmp 34) (.tmp 38) 27 rfl w4.heap.size 3 i0 (.int .i64 0) 1 8 Try.underlying27 hii hz0 hz1 hz2 rfl (by decide) _ 0 [] rfl (owns_lit0 w4 3 1) _ s.l.length _ rfl HS.out ?c1 ?c2 ?c3 ?_)
      case c1 => unfold maxLen; omega
      case c2 => omega
      case c3 => simp
      intro g7 c7 w7 hown7 hgrow7
      have u7 : Upd [] w4 w7 := ((Upd.refl _ _).alloc _).grown hgrow7 (fun g hg => by simp [Value.ownBlock] at hg; omega)
      have U7 := Lib.hid u7
      have OWN7 := Lib.hid hown7
      clear hown7 hgrow7 k3 kl u7
      go_wp2_with (at_builtin; refine wpList_append_any _ rfl (.tmp 39) (.tmp 41) 27 rfl w4.heap.size 3 i0 (.int .i64 0) 1 8 Try.underlying27 hii hz0 hz1 hz2 rfl (by decide) _ s.l.length _ rfl (OWN7.out.alloc _) _ 1 [.int .i64 j] rfl (sl_lit1 _ _ _ _) ?c1 ?c2 ?c3 ?_)
      case c1 => unfold maxLen; omega
      case c2 => omega
      case c3 => simp; have := U7.out.size; omega
      intro g8 c8 w8 hown8 hgrow8
      have u8 : Upd [] w4 w8 := (U7.out.alloc _).grown hgrow8 (fun g hg => ((OWN7.out.alloc (.cells #[.int .i64 j] 3)).lt g hg).1)
      have H8 := Lib.hid (H4.out.upd0 u8)
      have U8 := Lib.hid (U4.out.trans u8.nil)
      have OWN8 := Lib.hid hown8
      have k3 : w8.cell? ⟨rb, 3, none⟩ = some (.slice va s.l.length vc) := cell_of H8.out.blk 3
      have fr : w8.frozen? ⟨rb, 3, none⟩ = false := free_of H8.out.blk 3
      clear hown8 hgrow8 u8
      go_wp2_with fail
      go_ret2
      have hI8 : Ints w8 (.slice g8 (s.l.length + 1) c8) (s.l ++ [(j : Int)]) := by
        have h1 := SlAt.ofOwn OWN8.out (by
          intro x hx
          simp only [List.mem_append, List.mem_map, List.mem_singleton] at hx
          rcases hx with ⟨y, -, rfl⟩ | rfl <;> rfl)
        have h2 : (s.l ++ [(j : Int)]).length = s.l.length + 1 := by simp
        unfold Ints
        rw [h2]
        simpa using h1
      refine ⟨by rw [E1.out, E2.out]; rfl, ?_, U8.out.trans ((Upd.refl [rb] w8).setCell (p := ⟨rb, 3, none⟩) (by simp) _)⟩
      rw [E3.out]
      have h9 := H8.out.setQ hI8
      rw [show setR (gv s.g) j (0, 0) = gv (Go.Proofs.Ytmbkjnjfipafmaa.setG s.g j none) from (gv_set s.g j none).symm] at h9
      exact ⟨_, _, _, h9⟩
set_option maxRecDepth 100000 in
set_option maxHeartbeats 2000000 in
theorem qqreg {w : World} {rb : Nat} {s : Rs} (h : RqAt w rb s) (hk : Okk s) (id : Int) (r : Rf) (hw : refWf r) :
    Calls Try.prog 25 #[.pointer (some ⟨rb, 0, none⟩), .int .i64 id, .agg #[.int .i64 r.1, .int .u32 r.2]] w fun e w' => e = .returned (.int .i64 (s.regE' id r)) ∧ RqAt w' rb (s.regS' id r) ∧ Upd [rb] w w' := by
  obtain ⟨r1, r2⟩ := r
  obtain ⟨gl, cl, vq, h⟩ := h
  have u1 : Upd [] w (w.alloc (.cells #[.int .i64 r1, .int .u32 r2] 36)) := (Upd.refl _ _).alloc _
  have hX := new_of w (.cells #[.int .i64 r1, .int .u32 r2] 36)
  have H := Lib.hid (h.upd0 u1); have HU := Lib.hid u1
  have HK := Lib.hid hk
  have hN : s.size ≤ 256 := hk.p.le
  have hcl : cl ≤ 9223372036854775807 := by have := h.c2; unfold maxLen at this; omega
  have hc1 := h.c1
  have hb2 := bounds_u32 hw.2
  dsimp only at hb2
  clear h u1 hk hw
  have zR := zeroR
  have nR := neR
  have gR := gdR
  dsimp only
  go_enter Try.func25, Try.ntmps25
  go_wp2_with fail
  generalize w.alloc (.cells #[.int .i64 r1, .int .u32 r2] 36) = V at *
  generalize w.heap.size = X at *
  have x0 : V.cell? ⟨X, 0, none⟩ = some (.int .i64 r1) := cell_of hX 0
  have x1 : V.cell? ⟨X, 1, none⟩ = some (.int .u32 r2) := cell_of hX 1
  have HX := Lib.hid hX
  clear hX
  have d2 : V.cell? ⟨rb, 2, none⟩ = some (.slice (some ⟨gl, 0, none⟩) s.size cl) := cell_of H.out.blk 2
  refine (qqvalid H.out).mono ?_; rintro e w' ⟨rfl, rfl⟩
  by_cases hin : 0 ≤ id ∧ id < s.size
  · obtain ⟨i, rfl⟩ := Int.eq_ofNat_of_zero_le hin.1
    have hi : i < s.size := by omega
    by_cases hg : goodR (r1, r2)
    · obtain ⟨g0, g1, g2, g3⟩ := hg
      dsimp only at g0 g1 g2 g3
      have HG := Lib.hid (show goodR (r1, r2) from ⟨g0, g1, g2, g3⟩)
      have g4 : (r2 == 0) = false := by simp; omega
      have HE := Lib.hid (show s.regE' (i : Int) (r1, r2) = if (s.byI (r1, r2)).isSome = true ∨ s.cl i ≠ 0 then 6 else 0 by
        unfold Rs.regE'; rw [if_pos hin, Int.toNat_natCast]; unfold Rs.regE; rw [if_pos HG.out])
      have HS := Lib.hid (show s.regS' (i : Int) (r1, r2) = if s.regE' (i : Int) (r1, r2) = 0 then s.setG i (some (r1, r2)) else s by
        unfold Rs.regS' Rs.regE'; rw [if_pos hin, if_pos hin, Int.toNat_natCast]; rfl)
      have H6 := Lib.hid (show (s.byI (r1, r2)).isSome = true ∨ s.cl i ≠ 0 → s.regE' (i : Int) (r1, r2) = 6 ∧ s.regS' (i : Int) (r1, r2) = s from fun hh => by
        have h1 := HE.out; rw [if_pos hh] at h1
        have h2 := HS.out; rw [h1, if_neg (by decide)] at h2
        exact ⟨h1, h2⟩)
      clear hin hb2
      go_wp2_with fail
      refine (qqwatches H.out HK.out.p (r1, r2)).mono ?_; rintro e w2 ⟨rfl, u2⟩
      have H2 := Lib.hid (H.out.upd0 u2); have U2 := Lib.hid (HU.out.trans u2); have HX2 := Lib.hid (u2.keep HX.out (by simp))
      clear u2 x0 x1 d2 H HU HX g0 g1 g2 g3 g4
      cases hb : s.byI (r1, r2) with
      | some j =>
        obtain ⟨e1, e2⟩ := H6.out (.inl (by rw [hb]; rfl))
        have E1 := Lib.hid e1; have E2 := Lib.hid e2
        clear e1 e2 hb
        dsimp only [Option.getD_some, Option.isSome_some]
        go_wp2_with fail
        go_ret
        exact ⟨by rw [E1.out]; rfl, by rw [E2.out]; exact H2.out.at, U2.out.nil⟩
      | none =>
        dsimp only [Option.getD_none, Option.isSome_none]
        have d2 : w2.cell? ⟨rb, 2, none⟩ = some (.slice (some ⟨gl, 0, none⟩) s.size cl) := cell_of H2.out.blk 2
        have k0 := H2.out.row.cell0 hi
        have k1 := H2.out.row.cell1 hi
        obtain ⟨⟨o1, o2⟩, hov⟩ : ∃ x : Rf, gv s.g i = x := ⟨_, rfl⟩
        rw [hov] at k0 k1
        dsimp only at k0 k1
        have hgl := H2.out.row.lt
        have hz := gv_zero HK.out.p i
        rw [show s.pt.g = s.g from rfl, hov] at hz
        cases hgi : s.g i with
        | some y =>
          have hne : (o1 == 0 && o2 == 0) = false := by
            cases h1 : (o1 == 0 && o2 == 0) with
            | false => rfl
            | true =>
              simp at h1
              have := hz.1 (by rw [h1.1, h1.2])
              rw [hgi] at this; cases this
          obtain ⟨e1, e2⟩ := H6.out (.inr (by unfold Rs.cl; rw [if_pos (.inl (by rw [hgi]; rfl))]; decide))
          have E1 := Lib.hid e1; have E2 := Lib.hid e2
          clear e1 e2 hb hz hgi hov
          go_wp2_with fail
          go_ret
          exact ⟨by rw [E1.out]; rfl, by rw [E2.out]; exact H2.out.at, U2.out.nil⟩
        | none =>
          obtain ⟨rfl, rfl⟩ : o1 = 0 ∧ o2 = 0 := by have := hz.2 hgi; simpa using this
          have HGI := Lib.hid hgi; have HB := Lib.hid hb
          clear hz hgi hov hb
          go_wp2_with fail
          refine (qqwaits H2.out (i : Int)).mono ?_; rintro e w3 ⟨rfl, rfl⟩
          by_cases hm : (i : Int) ∈ s.l
          · obtain ⟨j, hj, -, -⟩ := fndI_in hm
            obtain ⟨e1, e2⟩ := H6.out (.inr (by unfold Rs.cl; rw [if_pos (.inr hm)]; decide))
            have E1 := Lib.hid e1; have E2 := Lib.hid e2
            rw [hj]
            clear e1 e2 hj hm
            go_wp2_with fail
            go_ret
            exact ⟨by rw [E1.out]; rfl, by rw [E2.out]; exact H2.out.at, U2.out.nil⟩
          · rw [fndI_out hm]
            have hc0 : s.cl i = 0 := by unfold Rs.cl; rw [if_neg]; rw [HGI.out]; simp; exact hm
            have e1 : s.regE' (i : Int) (r1, r2) = 0 := by rw [HE.out, HB.out, hc0]; simp
            have e2 : s.regS' (i : Int) (r1, r2) = s.setG i (some (r1, r2)) := by rw [HS.out, if_pos e1]
            have E1 := Lib.hid e1; have E2 := Lib.hid e2
            clear e1 e2 hc0 hm k0 k1 d2
            have x0 : w2.cell? ⟨X, 0, none⟩ = some (.int .i64 r1) := cell_of HX2.out 0
            have x1 : w2.cell? ⟨X, 1, none⟩ = some (.int .u32 r2) := cell_of HX2.out 1
            go_wp2_with fail
            refine (qqset H2.out i hi hN (r1, r2)).mono ?_; rintro e w4 ⟨⟨v4, rfl⟩, ⟨gl4, cl4, h4⟩, u4⟩
            have H4 := Lib.hid h4; have U4 := Lib.hid (U2.out.nil.trans u4)
            clear h4 u4 x0 x1
            go_wp2_with fail
            go_ret
            refine ⟨by rw [E1.out]; rfl, ?_, U4.out⟩
            rw [E2.out]
            have h9 := H4.out
            rw [show setR (gv s.g) i (r1, r2) = gv (Go.Proofs.Ytmbkjnjfipafmaa.setG s.g i (some (r1, r2))) from (gv_set s.g i (some (r1, r2))).symm] at h9
            exact ⟨_, _, _, h9⟩
    · have E1 := Lib.hid (show s.regE' (i : Int) (r1, r2) = 2 by unfold Rs.regE'; rw [if_pos hin, Int.toNat_natCast]; unfold Rs.regE; rw [if_neg hg])
      have E2 := Lib.hid (show s.regS' (i : Int) (r1, r2) = s by
        unfold Rs.regS'; rw [if_pos hin, Int.toNat_natCast]; unfold Rs.regS Rs.regE; rw [if_neg hg]; rfl)
      unfold goodR at hg
      dsimp only at hg
      clear hin
      by_cases h1 : r1 < 0
      · clear hg hb2
        go_wp2_with fail
        go_ret
        exact ⟨by rw [E1.out]; rfl, by rw [E2.out]; exact H.out.at, HU.out.nil⟩
      · by_cases h2 : 256 ≤ r1
        · clear hg hb2
          go_wp2_with fail
          go_ret
          exact ⟨by rw [E1.out]; rfl, by rw [E2.out]; exact H.out.at, HU.out.nil⟩
        · obtain rfl : r2 = 0 := by omega
          clear hg hb2
          go_wp2_with fail
          go_ret
          exact ⟨by rw [E1.out]; rfl, by rw [E2.out]; exact H.out.at, HU.out.nil⟩
  · have E1 := Lib.hid (show s.regE' id (r1, r2) = 3 from if_neg hin)
    have E2 := Lib.hid (show s.regS' id (r1, r2) = s from if_neg hin)
    clear hb2
    by_cases h0 : id < 0
    · clear hin
      go_wp2_with fail
      go_ret
      exact ⟨by rw [E1.out]; rfl, by rw [E2.out]; exact H.out.at, HU.out.nil⟩
    · have h1 : (s.size : Int) ≤ id := by omega
      clear hin
      go_wp2_with fail
      go_ret
      exact ⟨by rw [E1.out]; rfl, by rw [E2.out]; exact H.out.at, HU.out.nil⟩

end Go.Proofs.Ytmbkjnjfipafmaa
