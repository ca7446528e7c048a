/-
  The law StackFits: a stack takes as many slots as its size says. Conditions: none.
-/
import Derived.Test.YtcijjffhnogdfaaStkMade
namespace Go.Proofs.Ytcijjffhnogdfaa
open Go.RowKit

theorem xor_fin : ∀ n : Fin 256, 0 ≤ bits BinOp.xor IntKind.i64 ((n : Nat) : Int) 1 ∧ bits BinOp.xor IntKind.i64 ((n : Nat) : Int) 1 < 256 := by decide +kernel
theorem xor_bd {x : Int} (h0 : 0 ≤ x) (h1 : x < 256) : 0 ≤ bits BinOp.xor IntKind.i64 x 1 ∧ bits BinOp.xor IntKind.i64 x 1 < 256 := by
  obtain ⟨n, rfl⟩ := Int.eq_ofNat_of_zero_le h0
  exact xor_fin ⟨n, by omega⟩

set_option maxHeartbeats 1000000 in
theorem fits_ok (sz : Int) (h0 : 0 ≤ sz) (h1 : sz < 256) (v : Value) (us : List Int) (slot : Int) (hs0 : 0 ≤ slot) (hs1 : slot < 256) (w : World) (hv : Bytes .u8 w v us) :
    Calls Try.prog 5 #[.int .u8 sz, v, .int .u8 slot] w fun e w' => e = .returned (.bool true) ∧ Upd [] w w' := by
  have HV := Lib.hid hv
  obtain ⟨a, cap, rfl, _, hcm, _⟩ := hv
  have hm : us.length ≤ 9223372036854775807 := by unfold maxLen at hcm; omega
  by_cases hlong : 150 < us.length
  · go_enter Try.func5, Try.ntmps5
    go_wp2_with (go_at_call 11; refine (works_ok _).mono ?_; rintro e w' ⟨rfl, u⟩)
    go_ret
    exact ⟨rfl, u⟩
  · obtain ⟨n, hn⟩ : ∃ n : Nat, n = (1 + sz % 64).toNat := ⟨_, rfl⟩
    have hn1 : 1 ≤ n := by omega
    have hn2 : n ≤ 64 := by omega
    have hnz : 1 + sz % 64 = (n : Int) := by omega
    have HN := Lib.hid hn; clear hn
    have HZ := Lib.hid hnz; clear hnz
    go_enter Try.func5, Try.ntmps5
    go_wp2_with fail
    refine (made_ok sz h0 h1 _ us _ HV.out).mono ?_
    rintro e w1 ⟨want, rfl, a1, own, u1⟩
    obtain ⟨wa, wc, rfl⟩ := ownsRow_slice own
    have hsz := runS_size (1 + sz % 64).toNat us
    rw [← HN.out] at a1 own hsz
    rw [← HN.out]
    generalize runS n us = s at *
    have HSZ := Lib.hid hsz; clear hsz
    generalize hB : w.heap.size = B at a1 own ⊢
    have HB := Lib.hid hB; clear hB
    have hl64 : s.l.length ≤ 64 := by have := a1.1; simp only [St.ok] at this; omega
    have hln : s.l.length ≤ n := by have h := a1.1; have h2 := HSZ.out; simp only [St.ok] at h; omega
    go_wp2_with fail
    rw [HZ.out]
    go_loopw [11, 12, 13] (fun i ok e wr => ∃ j : Nat, s.l.length ≤ j ∧ j ≤ n ∧ i = .int .i64 j ∧ (∃ t, t.l = s.l ++ List.replicate (j - s.l.length) slot ∧ t.size = n ∧ StAt wr B t) ∧ Upd [B] w1 wr) (fun i _ _ _ => n - (intOf i).toNat)
    case atStart =>
      exact ⟨s.l.length, Nat.le_refl _, hln, rfl, ⟨s, (by rw [Nat.sub_self]; exact (List.append_nil _).symm), HSZ.out, a1⟩, Upd.refl _ _⟩
    case round =>
      obtain ⟨j, hj0, hj1, rfl, ⟨t, htl, hts, hst⟩, hup⟩ := hrel
      have hlen : t.l.length = j := by rw [htl]; simp; omega
      by_cases hlt : j < n
      · have HTL := Lib.hid htl; clear htl
        have HTS := Lib.hid hts; clear hts
        have HLE := Lib.hid hlen; clear hlen
        go_wp2_with (go_at_call 17; refine (push_room B _ slot _ hst (by omega) (by omega) (by rw [HLE.out, HTS.out]; exact hlt)).mono ?_; rintro e w2 ⟨rfl, a2, u2⟩)
        go_roundw
        case rel =>
          refine ⟨j + 1, by omega, by omega, by go_num, ⟨{ t with l := t.l ++ [slot], most := max t.most (t.l.length + 1) }, ?_, HTS.out, a2⟩, hup.trans u2⟩
          show t.l ++ [slot] = _
          rw [HTL.out, show j + 1 - s.l.length = (j - s.l.length) + 1 from by omega, List.replicate_succ', List.append_assoc]
        case measure => simp [intOf]; omega
      · obtain rfl : j = n := by omega
        obtain ⟨hx0, hx1⟩ := xor_bd hs0 hs1
        have htm : t.most = t.l.length := by have := hst.1; simp only [St.ok] at this; omega
        have hne := hst.ne (owns_upd own hup (fun k hk hm => by simp at hm; subst hm; exact a1.ne own hk))
        obtain ⟨tl, x, htx⟩ : ∃ l x, t.l = l ++ [x] := by
          rcases List.eq_nil_or_concat t.l with h | ⟨l, x, h⟩
          · rw [h] at hlen; simp at hlen; omega
          · exact ⟨l, x, by rw [h, List.concat_eq_append]⟩
        have htl2 : tl.length + 1 = j := by rw [htx] at hlen; simpa using hlen
        have hown := owns_upd own hup (fun k hk hm => by simp at hm; subst hm; exact a1.ne own hk)
        have hx : (s.l.length = j → ∃ g, wa = some ⟨g, 0, none⟩ ∧ s.l.length ≤ wc ∧ g ≠ B ∧ g < wr.heap.size ∧ wr.cell? ⟨g, j - 1, none⟩ = some (.int .i64 x)) ∧ (s.l.length < j → x = slot) := by
          constructor
          · intro hj
            rcases hown.2 with ⟨_, h⟩ | ⟨g, c, _, h, hBg, hg, hc, _⟩
            · omega
            · simp at h
              obtain ⟨rfl, rfl⟩ := h
              refine ⟨g, rfl, hc, fun e => hne (by simp [Value.ownBlock, e]), lt_of_block hg, ?_⟩
              rw [hown.cellAt (j - 1) (by omega), List.getElem?_map]
              have : s.l = tl ++ [x] := by rw [hj, Nat.sub_self] at htl; simpa [htx] using htl.symm
              rw [this, show j - 1 = tl.length from by omega]; simp
          · intro hj
            obtain ⟨d, hd⟩ : ∃ d, j - s.l.length = d + 1 := ⟨j - s.l.length - 1, by omega⟩
            rw [hd, List.replicate_succ', htx, ← List.append_assoc] at htl
            have := List.append_inj_right' htl (by simp)
            simpa using this
        obtain ⟨hx2, hx3⟩ := hx
        have HX2 := Lib.hid hx2; clear hx2
        have HX3 := Lib.hid hx3; clear hx3
        have HTL := Lib.hid htl; clear htl
        have HTX := Lib.hid htx; clear htx
        have HTS := Lib.hid hts; clear hts
        have HLE := Lib.hid hlen; clear hlen
        have HT2 := Lib.hid htl2; clear htl2
        have hlj : (t.l.length : Int) = j := by have := HLE.out; omega
        have hmj : (t.most : Int) = j := by have := HLE.out; omega
        have hljB : ((t.l.length : Int) != j) = false := by simp [hlj]
        have hmjB : ((t.most : Int) != j) = false := by simp [hmj]
        clear hlj hmj htm
        go_wp2_with fail
        refine (push_full B _ _ _ hst hx0 hx1 (by rw [HLE.out, HTS.out])).mono ?_; rintro e w2 ⟨rfl, a2, u2⟩
        have hroom : tl.length < t.size := by have := HT2.out; have := HTS.out; omega
        go_wp2_with (first | (go_at_call 13; refine (over_at B _ _ a2).mono ?_; rintro e w3 ⟨rfl, rfl⟩) | (go_at_call 14; refine (len_at B _ _ a2).mono ?_; rintro e w3 ⟨rfl, rfl⟩) | (go_at_call 16; refine (most_at B _ _ a2).mono ?_; rintro e w3 ⟨rfl, rfl⟩))
        refine (pop_some B _ tl x _ a2 HTX.out).mono ?_; rintro e w3 ⟨rfl, a3, u3⟩
        by_cases hj : s.l.length = j
        · obtain ⟨g, rfl, hwc, hgB, hgs, hcell⟩ := HX2.out hj
          have hcell3 : w3.cell? ⟨g, j - 1, none⟩ = some (.int .i64 x) := by
            rw [(u2.trans u3).cell (by exact hgs) (by simpa using hgB)]; exact hcell
          have hjB : ((s.l.length : Int) == j) = true := by simp [hj]
          have hjn : ((j : Int) - 1).toNat = j - 1 := by omega
          have hj1 : (0 : Int) ≤ (j : Int) - 1 := by omega
          have hj2 : (j : Int) - 1 < s.l.length := by omega
          have HJ := Lib.hid hj; clear hj
          go_wp2_with fail
          refine (push_room B _ _ _ a3 hx0 hx1 hroom).mono ?_; rintro e w4 ⟨rfl, a4, u4⟩
          go_wp2_with fail
          refine (pop_some B _ tl _ _ a4 rfl).mono ?_; rintro e w5 ⟨rfl, a5, u5⟩
          go_wp2_with (go_at_call 11; refine (works_ok _).mono ?_; rintro e w' ⟨rfl, u⟩)
          go_ret
          exact ⟨rfl, ((u1.fresh1 hup (Nat.le_of_eq HB.out)).fresh1 (u2.trans (u3.trans (u4.trans u5))) (Nat.le_of_eq HB.out)).trans u⟩
        · have hjB : ((s.l.length : Int) == j) = false := by simp; omega
          have hxs := HX3.out (by omega)
          subst hxs
          clear hj
          go_wp2_with fail
          refine (push_room B _ _ _ a3 hx0 hx1 hroom).mono ?_; rintro e w4 ⟨rfl, a4, u4⟩
          go_wp2_with fail
          refine (pop_some B _ tl _ _ a4 rfl).mono ?_; rintro e w5 ⟨rfl, a5, u5⟩
          go_wp2_with (go_at_call 11; refine (works_ok _).mono ?_; rintro e w' ⟨rfl, u⟩)
          go_ret
          exact ⟨rfl, ((u1.fresh1 hup (Nat.le_of_eq HB.out)).fresh1 (u2.trans (u3.trans (u4.trans u5))) (Nat.le_of_eq HB.out)).trans u⟩

theorem fits_fr (w : World) (sz : Int) (h : (Lit.int .u8 sz).wf = true) (v : Value) (us : List Int) (hv : Bytes .u8 w v us) (slot : Int) (hs : (Lit.int .u8 slot).wf = true) :
    Calls Try.prog 5 #[.int .u8 sz, v, .int .u8 slot] w fun e w' => e = .returned (.bool true) ∧ Upd [] w w' :=
  fits_ok sz (wf_u8 h).1 (wf_u8 h).2 v us slot (wf_u8 hs).1 (wf_u8 hs).2 w hv

end Go.Proofs.Ytcijjffhnogdfaa
