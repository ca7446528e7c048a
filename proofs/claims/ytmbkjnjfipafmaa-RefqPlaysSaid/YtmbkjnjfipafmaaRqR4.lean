/-
  Contracts of the document's reference queue (estrayref30): Cancel, Copy. Conditions: it is as New and its own calls leave it.
-/
import Derived.Test.YtmbkjnjfipafmaaRqR3
namespace Go.Proofs.Ytmbkjnjfipafmaa
open Go.RowKit Go.Maps

set_option maxRecDepth 100000 in
set_option maxHeartbeats 4000000 in
theorem qqcancel {w : World} {rb : Nat} {s : Rs} (h : RqAt w rb s) (hk : Okk s) (id : Int) :
    Calls Try.prog 28 #[.pointer (some ⟨rb, 0, none⟩), .int .i64 id] w fun e w' => e = .returned (.tuple #[.bool (s.canB id), .int .i64 (s.canE id)]) ∧ RqAt w' rb (s.canS id) ∧ Upd [rb] w w' := by
  obtain ⟨gl, cl, vq, h⟩ := h
  have H := Lib.hid h
  have HK := Lib.hid hk
  have hN : s.size ≤ 256 := hk.p.le
  have hP := hk.b
  have hL := hk.l
  have hcl : cl ≤ 9223372036854775807 := by have := h.c2; unfold maxLen at this; omega
  have hc1 := h.c1
  have d2 : w.cell? ⟨rb, 2, none⟩ = some (.slice (some ⟨gl, 0, none⟩) s.size cl) := cell_of h.blk 2
  clear h hk
  have zR := zeroR
  have eR := eqR
  have gR := gdR
  go_enter Try.func28, Try.ntmps28
  go_wp2_with fail
  refine (qqvalid H.out).mono ?_; rintro e w' ⟨rfl, rfl⟩
  by_cases hin : 0 ≤ id ∧ id < s.size
  · obtain ⟨i, rfl⟩ := Int.eq_ofNat_of_zero_le hin.1
    have hi : i < s.size := by omega
    have E2 := Lib.hid (show s.canE (i : Int) = 0 from if_pos hin)
    have HBE := Lib.hid (canB_eq hi)
    have E3 := Lib.hid (canS_rem hi)
    clear hin
    go_wp2_with fail
    refine (qqwaits H.out (i : Int)).mono ?_; rintro e w3 ⟨rfl, e3⟩
    obtain rfl := e3
    by_cases hm : (i : Int) ∈ s.l
    · obtain ⟨j, hj, hfj, hjl⟩ := fndI_in hm
      have hgi : s.g i = none := by cases hg : s.g i with
        | none => rfl
        | some y => exact absurd hm (HK.out.o.apart i (by rw [hg]; rfl))
      have E1 := Lib.hid (show s.canB (i : Int) = true by rw [HBE.out]; unfold Rs.cl; rw [if_pos (.inr hm)]; rfl)
      have HFJ := Lib.hid (show (s.remS i).l = s.l.eraseIdx j from erase_idx hfj)
      rw [hj]
      clear hj hfj hm hgi
      go_wp2_with fail
      refine (qqset H.out i hi hN (0, 0)).mono ?_; rintro e w5 ⟨⟨v5, rfl⟩, ⟨gl5, cl5, h5⟩, u5⟩
      have H5 := Lib.hid h5; have U5 := Lib.hid u5
      clear h5 u5 H
      obtain ⟨va, vc, rfl, hvc1, hvc2⟩ := H5.out.q.form
      obtain ⟨g, off, rfl, hg, -, -⟩ := H5.out.q.at (show 0 < s.l.length by omega)
      have k3 : w5.cell? ⟨rb, 3, none⟩ = some (.slice (some ⟨g, off, none⟩) s.l.length vc) := cell_of H5.out.blk 3
      have fr : w5.frozen? ⟨rb, 3, none⟩ = false := free_of H5.out.blk 3
      have kl := lt_of_block H5.out.blk
      have HT1 := Lib.hid ((show SlAt _ _ _ _ _ _ from H5.out.q).take1 (show j ≤ s.l.length by omega))
      obtain ⟨i0, hii, hz0, hz1, hz2⟩ := info_parts info3
      have HQ := Lib.hid H5.out.q
      have hj0 : (0 : Int) ≤ (j : Int) := by omega
      have hw2 : ((j : Int) + 1).toNat = j + 1 := by omega
      have hw3 : (0 : Int) ≤ (j : Int) + 1 := by omega
      have hw4 : (j : Int) + 1 ≤ (s.l.length : Int) := by omega
      have hw5 : (j : Int) ≤ (vc : Int) := by omega
      have hw6 : (j : Int) ≤ (j : Int) + 1 := by omega
      by_cases hcap : vc = j + 1
      · obtain rfl := hcap
        have hln : s.l.length = j + 1 := by omega
        have HLN := Lib.hid hln; clear hln
        have HT2 := Lib.hid (sl_empty w5 3 (some ⟨g, off, none⟩))
        have hw1 : IntKind.i64.wrap ((j : Int) + 1) = (j : Int) + 1 := IntWalk.i64_in _ (by omega)
        go_wp2_with fail
        go_region_law (first | ((refine step_append_any _ rfl (.tmp 44) (.tmp 50) 27 rfl w5.heap.size 3 i0 (.int .i64 0) 1 8 Try.underlying27 hii hz0 hz1 hz2 rfl (by decide) _ 0 [] (by first | (simp [Act.eval]; done) | simp [Act.eval, Act.put]) (owns_lit0 w5.drew 3 1) _ j _ (by first | (simp [Act.eval]; done) | simp [Act.eval, Act.put]) (HT1.out.upd (((Upd.refl [] w5).drew).alloc _) (by simp)) (by unfold maxLen; omega) (by omega) (by simp) ?_); (intro g3 c3 w6 hown3 hgrow3); (have u3 : Upd [] w5 w6 := (((Upd.refl [] w5).drew).alloc _).grown hgrow3 (fun g hg => by simp [Value.ownBlock] at hg; omega)); (have OWN3 := Lib.hid hown3); (have d3 : w6.cell? ⟨rb, 3, none⟩ = some (.slice (some ⟨g, off, none⟩) s.l.length (j + 1)) := cell_of (H5.out.upd0 u3).blk 3); (clear hgrow3 hown3)) | ((refine step_append_any _ rfl (.tmp 51) (.tmp 58) 27 rfl w5.heap.size 3 i0 (.int .i64 0) 1 8 Try.underlying27 hii hz0 hz1 hz2 rfl (by decide) _ (0 + j) _ (by first | (simp [Act.eval]; done) | simp [Act.eval, Act.put]) OWN3.out _ 0 _ (by first | (simp [Act.eval]; done) | simp [Act.eval, Act.put]) (HT2.out.upd u3 (by simp)) (by unfold maxLen; omega) (by omega) (by exact u3.size) ?_); (intro g4 c4 w7 hown4 hgrow4); (have u4 : Upd [] w5 w7 := u3.grown hgrow4 (fun g hg => (OWN3.out.lt g hg).1)); (have OWN4 := Lib.hid hown4); (have d4 : w7.cell? ⟨rb, 3, none⟩ = some (.slice (some ⟨g, off, none⟩) s.l.length (j + 1)) := cell_of (H5.out.upd0 u4).blk 3); (have f4 : w7.frozen? ⟨rb, 3, none⟩ = false := free_of (H5.out.upd0 u4).blk 3); (clear hgrow4 hown4)))
        all_goals
          have hlen : (s.l.eraseIdx j).length = j := by rw [List.length_eraseIdx_of_lt hjl]; have := HLN.out; omega
          have hmap : (s.l.eraseIdx j).map (Value.int .i64) = (s.l.map (Value.int .i64)).take j := by
            rw [List.eraseIdx_eq_take_drop_succ, List.drop_eq_nil_of_le (by have := HLN.out; omega)]; simp [List.map_take]
          have hi4 : Ints w7 (.slice g4 (j) c4) (s.l.eraseIdx j) := Ints.ofOwn (base := w5.heap.size) (by rw [hlen, hmap]; simpa using OWN4.out)
          have H7 := Lib.hid (H5.out.upd0 u4); have U7 := Lib.hid (U5.out.trans u4.nil); have I4 := Lib.hid hi4
          clear hlen hmap hi4 u3 u4
          go_wp2_with fail
          go_ret2
          refine ⟨by rw [E1.out, E2.out]; rfl, ?_, U7.out.trans ((Upd.refl [rb] w7).setCell (p := ⟨rb, 3, none⟩) (by simp) _)⟩
          rw [E3.out]
          have h9 := H7.out.setQ I4.out
          rw [← HFJ.out, show setR (gv s.g) i (0, 0) = gv (Go.Proofs.Ytmbkjnjfipafmaa.setG s.g i none) from (gv_set s.g i none).symm] at h9
          exact RqIn.at (s := s.remS i) h9
      · have hcl2 : j + 1 < vc := by omega
        have hcn : ¬ vc = j + 1 := by omega
        have ht2 := SlAt.rdrop1 HQ.out (i := j + 1) (by omega) hcl2
        have HT2 := Lib.hid ht2; clear ht2
        have hw1 : IntKind.i64.wrap ((j : Int) + 1) = (j : Int) + 1 := IntWalk.i64_in _ (by omega)
        go_wp2_with fail
        go_region_law (first | ((refine step_append_any _ rfl (.tmp 44) (.tmp 50) 27 rfl w5.heap.size 3 i0 (.int .i64 0) 1 8 Try.underlying27 hii hz0 hz1 hz2 rfl (by decide) _ 0 [] (by first | (simp [Act.eval]; done) | simp [Act.eval, Act.put]) (owns_lit0 w5.drew 3 1) _ j _ (by first | (simp [Act.eval]; done) | simp [Act.eval, Act.put]) (HT1.out.upd (((Upd.refl [] w5).drew).alloc _) (by simp)) (by unfold maxLen; omega) (by omega) (by simp) ?_); (intro g3 c3 w6 hown3 hgrow3); (have u3 : Upd [] w5 w6 := (((Upd.refl [] w5).drew).alloc _).grown hgrow3 (fun g hg => by simp [Value.ownBlock] at hg; omega)); (have OWN3 := Lib.hid hown3); (have d3 : w6.cell? ⟨rb, 3, none⟩ = some (.slice (some ⟨g, off, none⟩) s.l.length vc) := cell_of (H5.out.upd0 u3).blk 3); (clear hgrow3 hown3)) | ((refine step_append_any _ rfl (.tmp 51) (.tmp 58) 27 rfl w5.heap.size 3 i0 (.int .i64 0) 1 8 Try.underlying27 hii hz0 hz1 hz2 rfl (by decide) _ (0 + j) _ (by first | (simp [Act.eval]; done) | simp [Act.eval, Act.put]) OWN3.out _ (s.l.length - (j + 1)) _ (by first | (simp [Act.eval]; done) | simp [Act.eval, Act.put]) (HT2.out.upd u3 (by simp)) (by unfold maxLen; omega) (by omega) (by exact u3.size) ?_); (intro g4 c4 w7 hown4 hgrow4); (have u4 : Upd [] w5 w7 := u3.grown hgrow4 (fun g hg => (OWN3.out.lt g hg).1)); (have OWN4 := Lib.hid hown4); (have d4 : w7.cell? ⟨rb, 3, none⟩ = some (.slice (some ⟨g, off, none⟩) s.l.length vc) := cell_of (H5.out.upd0 u4).blk 3); (have f4 : w7.frozen? ⟨rb, 3, none⟩ = false := free_of (H5.out.upd0 u4).blk 3); (clear hgrow4 hown4)))
        all_goals
          have hlen : (s.l.eraseIdx j).length = j + (s.l.length - (j + 1)) := by rw [List.length_eraseIdx_of_lt hjl]; omega
          have hmap : (s.l.eraseIdx j).map (Value.int .i64) = (s.l.map (Value.int .i64)).take j ++ ((s.l.map (Value.int .i64)).drop (j + 1)) := by
            rw [List.eraseIdx_eq_take_drop_succ]; simp [List.map_take, List.map_drop]
          have hi4 : Ints w7 (.slice g4 (j + (s.l.length - (j + 1))) c4) (s.l.eraseIdx j) := Ints.ofOwn (base := w5.heap.size) (by rw [hlen, hmap]; simpa using OWN4.out)
          have H7 := Lib.hid (H5.out.upd0 u4); have U7 := Lib.hid (U5.out.trans u4.nil); have I4 := Lib.hid hi4
          clear hlen hmap hi4 u3 u4
          go_wp2_with fail
          go_ret2
          refine ⟨by rw [E1.out, E2.out]; rfl, ?_, U7.out.trans ((Upd.refl [rb] w7).setCell (p := ⟨rb, 3, none⟩) (by simp) _)⟩
          rw [E3.out]
          have h9 := H7.out.setQ I4.out
          rw [← HFJ.out, show setR (gv s.g) i (0, 0) = gv (Go.Proofs.Ytmbkjnjfipafmaa.setG s.g i none) from (gv_set s.g i none).symm] at h9
          exact RqIn.at (s := s.remS i) h9
    · rw [fndI_out hm]
      have k0 := H.out.row.cell0 hi
      have k1 := H.out.row.cell1 hi
      obtain ⟨⟨o1, o2⟩, hov⟩ : ∃ x : Rf, gv s.g i = x := ⟨_, rfl⟩
      rw [hov] at k0 k1
      dsimp only at k0 k1
      have hgl := H.out.row.lt
      have hz := gv_zero HK.out.p i
      rw [show s.pt.g = s.g from rfl, hov] at hz
      cases hgi : s.g i with
      | none =>
        obtain ⟨rfl, rfl⟩ : o1 = 0 ∧ o2 = 0 := by have := hz.2 hgi; simpa using this
        have hc0 : s.cl i = 0 := by unfold Rs.cl; rw [if_neg]; rw [hgi]; simp; exact hm
        have E1 := Lib.hid (show s.canB (i : Int) = false by rw [HBE.out, hc0]; rfl)
        have E4 := Lib.hid (show s.canS (i : Int) = s by unfold Rs.canS; rw [E1.out]; rfl)
        clear hz hgi hov hm hc0
        go_wp2_with fail
        go_ret2
        exact ⟨by rw [E1.out, E2.out]; rfl, by rw [E4.out]; exact H.out.at, Upd.refl _ _⟩
      | some y =>
        have hne : (o1 == 0 && o2 == 0) = false := by
          cases h1 : (o1 == 0 && o2 == 0) with
          | false => rfl
          | true =>
            simp at h1
            have := hz.1 (by rw [h1.1, h1.2])
            rw [hgi] at this; cases this
        have E1 := Lib.hid (show s.canB (i : Int) = true by rw [HBE.out]; unfold Rs.cl; rw [if_pos (.inl (by rw [hgi]; rfl))]; rfl)
        have HRL := Lib.hid (show (s.remS i).l = s.l from List.erase_of_not_mem hm)
        clear hz hgi hov hm
        go_wp2_with fail
        refine (qqset H.out i hi hN (0, 0)).mono ?_; rintro e w5 ⟨⟨v5, rfl⟩, ⟨gl5, cl5, h5⟩, u5⟩
        have H5 := Lib.hid h5; have U5 := Lib.hid u5
        clear h5 u5 H
        go_wp2_with fail
        go_ret2
        refine ⟨by rw [E1.out, E2.out]; rfl, ?_, U5.out⟩
        rw [E3.out]
        have h9 := H5.out
        rw [← HRL.out, show setR (gv s.g) i (0, 0) = gv (Go.Proofs.Ytmbkjnjfipafmaa.setG s.g i none) from (gv_set s.g i none).symm] at h9
        exact RqIn.at (s := s.remS i) h9
  · have E2 := Lib.hid (show s.canE id = 3 from if_neg hin)
    have hB : s.canB id = false := by unfold Rs.canB; rw [decide_eq_false hin]; rfl
    have E1 := Lib.hid hB
    have E4 := Lib.hid (show s.canS id = s by unfold Rs.canS; rw [hB]; rfl)
    clear hB
    by_cases h0 : id < 0
    · clear hin
      go_wp2_with fail
      go_ret2
      exact ⟨by rw [E1.out, E2.out]; rfl, by rw [E4.out]; exact H.out.at, Upd.refl _ _⟩
    · have h1 : (s.size : Int) ≤ id := by omega
      clear hin
      go_wp2_with fail
      go_ret2
      exact ⟨by rw [E1.out, E2.out]; rfl, by rw [E4.out]; exact H.out.at, Upd.refl _ _⟩

end Go.Proofs.Ytmbkjnjfipafmaa
