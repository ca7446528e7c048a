/-
  QueueRoom: Len and Room are together the size; as many ids as Room says fit, and no more. Conditions: none.
-/
import Derived.Test.YtjmaibobhjcajaaQueMade
namespace Go.Proofs.Ytjmaibobhjcajaa
open Go.RowKit

/-- How many are below x. -/
def below (l : List Int) (x : Int) : Nat := (l.filter fun y => decide (y < x)).length
theorem below_len (l : List Int) (x : Int) : below l x ≤ l.length := List.length_filter_le _ _
theorem below_mono (l : List Int) (x : Int) : below l x ≤ below l (x + 1) := by
  induction l with
  | nil => simp [below]
  | cons y l ih =>
    unfold below at ih ⊢
    by_cases h : y < x
    · have h2 : y < x + 1 := by omega
      simp [h, h2]; exact ih
    · by_cases h2 : y < x + 1
      · simp [h, h2]; omega
      · simp [h, h2]; exact ih
theorem below_mem {l : List Int} {x : Int} (h : x ∈ l) : below l x + 1 ≤ below l (x + 1) := by
  induction l with
  | nil => cases h
  | cons y l ih =>
    unfold below at ih ⊢
    by_cases e : y = x
    · subst e
      have h1 : ¬ y < y := by omega
      have h2 : y < y + 1 := by omega
      have := below_mono l y
      unfold below at this
      simp [h2]; exact this
    · have hm : x ∈ l := by
        rcases List.mem_cons.1 h with h | h
        · exact absurd h.symm e
        · exact h
      have ih := ih hm
      by_cases h1 : y < x
      · have h2 : y < x + 1 := by omega
        simp [h1, h2]; exact ih
      · have h2 : ¬ y < x + 1 := by omega
        simp [h1, h2]; exact ih
theorem below_snoc (l : List Int) (x : Int) : below (l ++ [x]) (x + 1) = below l (x + 1) + 1 := by
  have h : x < x + 1 := by omega
  unfold below
  rw [List.filter_append, List.length_append]
  simp [h]
/-- Whether one of the first k is id. -/
def thr (l : List Int) (id : Int) (k : Nat) : Bool := (l.take k).any (· == id)
theorem thr_zero (l : List Int) (id : Int) : thr l id 0 = false := by simp [thr]
theorem thr_succ {l : List Int} {id : Int} {k : Nat} (h : k < l.length) : thr l id (k + 1) = (thr l id k || l[k] == id) := by
  unfold thr; rw [List.take_succ_eq_append_getElem h, List.any_append]; simp
theorem thr_all (l : List Int) (id : Int) : thr l id l.length = decide (id ∈ l) := by
  unfold thr; rw [List.take_length, Bool.eq_iff_iff]; simp

set_option maxRecDepth 100000 in
set_option maxHeartbeats 4000000 in
theorem room_ok (sz : Int) (h0 : 0 ≤ sz) (h1 : sz < 256) (v : Value) (css : List (List Value)) (w : World) (hv : Recs w v 2 css) (hF : ∀ cs ∈ css, IsTurn cs) :
    Calls Try.prog 5 #[.int .u8 sz, v] w fun e w' => e = .returned (.bool true) ∧ Upd [] w w' := by
  have HM := Lib.hid (fun w' (h : Recs w' v 2 css) => made_ok sz h0 h1 v css w' h hF)
  have HV := Lib.hid hv
  obtain ⟨a, cap, rfl, hcc, hcm, -⟩ := hv
  have hm : cap ≤ 9223372036854775807 := by unfold maxLen at hcm; omega
  by_cases hlong : 150 < css.length
  · go_enter Try.func5, Try.ntmps5
    go_wp2_with fail
    refine (works_ok _).mono ?_; rintro e w1 ⟨rfl, u1⟩
    go_wp2_with fail
    go_ret
    exact ⟨rfl, u1⟩
  · go_enter Try.func5, Try.ntmps5
    go_wp2_with fail
    refine (HM.out _ HV.out).mono ?_; rintro e w1 ⟨want, rfl, a1, hown, u1⟩
    have hint := Ints.ofOwn hown
    have hok := a1.ok
    have hsz := runQ_size (1 + sz % 64).toNat css
    generalize runQ (1 + sz % 64).toNat css = q at *
    generalize hb : w.heap.size = b at a1 ⊢
    have HW := Lib.hid (Nat.le_of_eq hb); clear hb hown
    have hl64 : q.l.length ≤ 64 := by have := hok.2.1; have := hok.2.2.1; omega
    have hls : q.l.length ≤ q.size := hok.2.2.1
    have hs64 : q.size ≤ 64 := hok.2.1
    have hs1 : 1 + sz % 64 = (q.size : Int) := by omega
    have HS1 := Lib.hid hs1; have HSZ := Lib.hid hsz; have HOK := Lib.hid hok
    clear hs1 hsz hok
    obtain ⟨wa, wc, rfl, hwc, hwm⟩ := hint.form
    go_wp2_with fail
    refine (len_any a1).mono ?_; rintro e w2 ⟨rfl, u2⟩
    have a2 := a1.upd u2 (by simp)
    have hint2 := hint.upd0 u2
    have up2 := u1.trans u2
    clear a1 hint u1 u2
    go_wp2_with fail
    refine (len_any a2).mono ?_; rintro e w3 ⟨rfl, u3⟩
    have a3 := a2.upd u3 (by simp)
    have hint3 := hint2.upd0 u3
    have up3 := up2.trans u3
    clear a2 hint2 u3 up2
    go_wp2_with fail
    refine (room_any a3).mono ?_; rw [show ((q.size - q.l.length : Nat) : Int) = (q.size : Int) - (q.l.length : Int) from by omega]; rintro e w4 ⟨rfl, u4⟩
    have a4 := a3.upd u4 (by simp)
    have hint4 := hint3.upd0 u4
    have up4 := up3.trans u4
    clear a3 hint3 up3 u4
    have hbe : ((q.l.length : Int) + ((q.size : Int) - (q.l.length : Int)) == 1 + sz % 64) = true := by simp; have := HS1.out; omega
    have hbn : ((q.l.length : Int) + ((q.size : Int) - (q.l.length : Int)) != 1 + sz % 64) = false := by simp; have := HS1.out; omega
    go_wp2_with fail
    refine (room_any a4).mono ?_; rintro e w5 ⟨rfl, u5⟩
    have a5 := a4.upd u5 (by simp)
    have hint5 := hint4.upd0 u5
    have up5 := up4.trans u5
    clear a4 hint4 up4 u5 hbe hbn
    go_wp2_with fail
    go_loopw [7, 8] (fun y x wr => ∃ (i : Nat) (L : List Int), i ≤ 256 ∧ x = .int .i64 i ∧ y = .int .i64 (q.size - L.length : Nat) ∧ L.length ≤ q.size ∧ (∃ ex, L = q.l ++ ex ∧ ∀ z ∈ ex, z < i) ∧ i ≤ below L i ∧
        QAt wr b ⟨q.size, L⟩ ∧ Ints wr (.slice wa q.l.length wc) q.l ∧ Upd [] w wr) (fun _ x _ => 256 - (intOf x).toNat)
    case atStart => exact ⟨0, q.l, by omega, rfl, rfl, hls, ⟨[], by simp, by simp⟩, Nat.zero_le _, a5, hint5, up5⟩
    case round =>
      clear a5 hint5 up5
      obtain ⟨i, L, hi, rfl, rfl, hLs, hex, hbel, hq, hint, hup⟩ := hrel
      have hi256 : i < 256 := by have := below_len L i; omega
      have HEX := Lib.hid hex; have HBEL := Lib.hid hbel; have HINT := Lib.hid hint; have HQ := Lib.hid hq
      clear hex hbel hint hq
      go_wp2_with fail
      go_loop [9, 10] (fun x y => ∃ k : Nat, k ≤ q.l.length ∧ x = .bool (thr q.l i k) ∧ y = .int .i64 k) (fun _ y => q.l.length - (intOf y).toNat)
      case atStart => exact ⟨0, by omega, by rw [thr_zero], rfl⟩
      case round =>
        obtain ⟨k, hk, rfl, rfl⟩ := hrel
        by_cases hlt : k < q.l.length
        · obtain ⟨g, off, rfl, hg, _, hc⟩ := HINT.out.at hlt
          have HS := Lib.hid (thr_succ (id := (i : Int)) hlt)
          generalize q.l[k] = x at *
          cases ht : thr q.l i k
          · have HT := Lib.hid ht; clear ht
            go_wp2_with fail
            go_round
            case rel => exact ⟨k + 1, by omega, by rw [HS.out, HT.out]; rfl, by go_num⟩
            case measure => simp [intOf]; omega
          · have HT := Lib.hid ht; clear ht
            go_wp2_with fail
            go_round
            case rel => exact ⟨k + 1, by omega, by rw [HS.out, HT.out]; rfl, by go_num⟩
            case measure => simp [intOf]; omega
        · obtain rfl : k = q.l.length := by omega
          rw [thr_all]
          by_cases hmem : (i : Int) ∈ q.l
          · have hd : decide ((i : Int) ∈ q.l) = true := by simpa using hmem
            rw [hd]
            clear hd
            have HMEM := Lib.hid hmem; clear hmem
            go_wp2_with fail
            go_roundw
            case rel =>
              refine ⟨i + 1, L, by omega, by go_num, rfl, hLs, ?_, ?_, HQ.out, HINT.out, hup⟩
              · obtain ⟨ex, e1, e2⟩ := HEX.out
                exact ⟨ex, e1, fun z hz => by have := e2 z hz; omega⟩
              · have hL : (i : Int) ∈ L := by obtain ⟨ex, e1, _⟩ := HEX.out; rw [e1]; exact List.mem_append_left _ HMEM.out
                have := below_mem hL; have := HBEL.out
                rw [show ((i + 1 : Nat) : Int) = (i : Int) + 1 from by omega]; omega
            case measure => simp [intOf]; omega
          · have hd : decide ((i : Int) ∈ q.l) = false := by simpa using hmem
            rw [hd]
            clear hd
            have hnL : (i : Int) ∉ L := by
              obtain ⟨ex, e1, e2⟩ := HEX.out
              rw [e1]
              intro h
              rcases List.mem_append.1 h with h | h
              · exact hmem h
              · have := e2 _ h; omega
            clear hmem
            by_cases hfull : L.length = q.size
            · have hE : (Qu.mk q.size L).addE i = 4 := by unfold Qu.addE; rw [if_pos (by omega), if_neg hnL, if_pos hfull]
              have hS : (Qu.mk q.size L).addS i = ⟨q.size, L⟩ := addS_same (.inr hfull)
              have HE := Lib.hid hE; have HS := Lib.hid hS; clear hE hS hnL
              have hz : ((q.size - L.length : Nat) : Int) = 0 := by omega
              rw [hz]
              have hlb : ((L.length : Int) != 1 + sz % 64) = false := by simp; have := HS1.out; omega
              have HFULL := Lib.hid hfull; clear hz hfull
              obtain ⟨wo, rfl⟩ : ∃ wo : World, wo = wr := ⟨_, rfl⟩
              go_wp2_with fail
              refine (add_any (i : Int) HQ.out).mono ?_; rw [HE.out, HS.out]; rintro e w6 ⟨rfl, a6, u6⟩
              have hint6 := HINT.out.q HQ.out u6
              have up6 := hup.fresh1 u6 HW.out
              clear HQ HINT u6
              go_wp2_with fail
              refine (len_any a6).mono ?_; rintro e w7 ⟨rfl, u7⟩
              have a7 := a6.upd u7 (by simp)
              have hint7 := hint6.upd0 u7
              have up7 := up6.trans u7
              clear a6 hint6 up6 u7
              go_wp2_with fail
              refine (room_any a7).mono ?_; rw [show (((Qu.mk q.size L).size - (Qu.mk q.size L).l.length : Nat) : Int) = 0 from by show ((q.size - L.length : Nat) : Int) = 0; have := HFULL.out; omega]; rintro e w8 ⟨rfl, u8⟩
              have a8 := a7.upd u8 (by simp)
              have hint8 := hint7.upd0 u8
              have up8 := up7.trans u8
              clear a7 hint7 up7 u8
              go_wp2_with fail
              refine (all_any a8).mono ?_; rintro e w9 ⟨va, rfl, hfr, u9⟩
              have hint9 := hint8.upd0 u9
              have up9 := up8.trans u9
              obtain ⟨xa, xc, rfl, hxc, hxm⟩ := Ints.form hfr.1
              have hqL : q.l.length ≤ L.length := by obtain ⟨ex, e1, _⟩ := HEX.out; rw [e1]; simp
              have htake := hfr.1.take1 hqL
              have hmap : (L.map (Value.int .i64)).take q.l.length = q.l.map (Value.int .i64) := by obtain ⟨ex, e1, _⟩ := HEX.out; rw [e1]; simp
              rw [hmap] at htake
              have HTK := Lib.hid htake
              clear a8 hint8 up8 u9 hfr htake hmap
              have hxc' : L.length ≤ xc := hxc
              clear hxc
              have hqx : q.l.length ≤ xc := by omega
              go_wp2_with fail
              refine (same_ok _ _ q.l _ HTK.out hint9).mono ?_; rintro e w10 ⟨rfl, u10⟩
              go_wp2_with fail
              refine (works_ok _).mono ?_; rintro e w11 ⟨rfl, u11⟩
              go_wp2_with fail
              go_ret
              exact ⟨rfl, (up9.trans u10).trans u11⟩
            · have hlt2 : L.length < q.size := by omega
              have hE : (Qu.mk q.size L).addE i = 0 := by unfold Qu.addE; rw [if_pos (by omega), if_neg hnL, if_neg hfull]
              have hS : (Qu.mk q.size L).addS i = ⟨q.size, L ++ [(i : Int)]⟩ := addS_new (by omega) (by omega) hnL hlt2
              have HE := Lib.hid hE; have HS := Lib.hid hS; clear hE hS hnL hfull
              have hz : ((q.size - L.length : Nat) : Int) = (q.size : Int) - (L.length : Int) := by omega
              rw [hz]
              have hb0 : ((q.size : Int) - (L.length : Int) == 0) = false := by simp; omega
              clear hz
              have hpos : (1 : Int) ≤ (q.size : Int) - (L.length : Int) := by omega
              have hpos2 : (q.size : Int) - (L.length : Int) ≤ 64 := by omega
              obtain ⟨wo, rfl⟩ : ∃ wo : World, wo = wr := ⟨_, rfl⟩
              go_wp2_with fail
              refine (add_any (i : Int) HQ.out).mono ?_; rw [HE.out, HS.out]; rintro e w6 ⟨rfl, a6, u6⟩
              have hint6 := HINT.out.q HQ.out u6
              have up6 := hup.fresh1 u6 HW.out
              clear HQ HINT u6
              go_wp2_with fail
              refine (room_any a6).mono ?_; rw [show (((Qu.mk q.size (L ++ [(i : Int)])).size - (Qu.mk q.size (L ++ [(i : Int)])).l.length : Nat) : Int) = (q.size : Int) - (L.length : Int) - 1 from by show ((q.size - (L ++ [(i : Int)]).length : Nat) : Int) = _; simp; omega]; rintro e w7 ⟨rfl, u7⟩
              have a7 := a6.upd u7 (by simp)
              have hint7 := hint6.upd0 u7
              have up7 := up6.trans u7
              clear a6 hint6 up6 u7
              go_wp2_with fail
              go_roundw
              case rel =>
                refine ⟨i + 1, L ++ [(i : Int)], by omega, by go_num, ?_, by simp; omega, ?_, ?_, a7, hint7, up7⟩
                · rw [show ((q.size - (L ++ [(i : Int)]).length : Nat) : Int) = (q.size : Int) - (L.length : Int) - 1 from by simp; omega]
                · obtain ⟨ex, e1, e2⟩ := HEX.out
                  refine ⟨ex ++ [(i : Int)], by rw [e1]; simp, fun z hz => ?_⟩
                  rcases List.mem_append.1 hz with hz | hz
                  · have := e2 z hz; omega
                  · simp at hz; omega
                · rw [show ((i + 1 : Nat) : Int) = (i : Int) + 1 from by omega, below_snoc]
                  have := below_mono L i; have := HBEL.out; omega
              case measure => simp [intOf]; omega

theorem room_fr (w : World) (sz : Int) (h : (Lit.int .u8 sz).wf = true) (v : Value) (css : List (List Value)) (hv : Recs w v 2 css ∧ ∀ cs ∈ css, IsTurn cs) :
    Calls Try.prog 5 #[.int .u8 sz, v] w fun e w' => e = .returned (.bool true) ∧ Upd [] w w' :=
  room_ok sz (wf_u8 h).1 (wf_u8 h).2 v css w hv.1 hv.2

end Go.Proofs.Ytjmaibobhjcajaa
