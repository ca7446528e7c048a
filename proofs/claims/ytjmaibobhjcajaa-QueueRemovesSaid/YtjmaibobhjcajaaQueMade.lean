/-
  What 'made' returns: a queue behind turns, and the ids that it has by the turns alone. Conditions: at most 1000 turns.
-/
import Derived.Test.YtjmaibobhjcajaaQueTurn
namespace Go.Proofs.Ytjmaibobhjcajaa
open Go.RowKit

theorem qturn_add {q : Qu} {k id : Int} (h : k % 4 = 0 ∨ k % 4 = 1) : qturn q k id = q.addS id := by rw [qturn, if_pos h]
theorem qturn_rem {q : Qu} {k id : Int} (h : k % 4 = 2) : qturn q k id = q.remS id := by rw [qturn, if_neg (by omega), if_pos h]
theorem qturn_poll {q : Qu} {k id : Int} (h : k % 4 = 3) : qturn q k id = q.pollS := by rw [qturn, if_neg (by omega), if_neg (by omega)]
theorem addS_same {q : Qu} {id : Int} (h : id ∈ q.l ∨ q.l.length = q.size) : q.addS id = q := by
  unfold Qu.addS
  rw [if_neg]
  rintro ⟨_, _, h1, h2⟩
  rcases h with h | h
  · exact h1 h
  · omega
theorem addS_new {q : Qu} {id : Int} (h0 : 0 ≤ id) (h1 : id < 256) (h2 : id ∉ q.l) (h3 : q.l.length < q.size) : q.addS id = ⟨q.size, q.l ++ [id]⟩ := by
  unfold Qu.addS
  rw [if_pos ⟨h0, h1, h2, h3⟩]
theorem owns_addr {w : World} {base e n c : Nat} {a : Option Addr} {xs : List Value} (h : w.ownsRow base e 1 (.slice a n c) n xs) (hn : 0 < n) : ∃ g, a = some ⟨g, 0, none⟩ := by
  rcases h.2 with ⟨h2, hx⟩ | ⟨g, cap, cur, h2, _⟩
  · have := h.1
    subst hx
    simp at this; omega
  · simp at h2
    exact ⟨g, h2.1⟩
theorem owns_base {w : World} {base B e n : Nat} {v : Value} {xs : List Value} (h : w.ownsRow base e 1 v n xs) (hb : B ≤ base) : w.ownsRow B e 1 v n xs := by
  refine ⟨h.1, ?_⟩
  rcases h.2 with h2 | ⟨g, cap, cur, h2, h3, h4⟩
  · exact .inl h2
  · exact .inr ⟨g, cap, cur, h2, Nat.le_trans hb h3, h4⟩
def MadePost (n : Nat) (css : List (List Value)) (w : World) (e : Ending) (w' : World) : Prop :=
  ∃ want, e = .returned (.tuple #[.pointer (some ⟨w.heap.size, 0, none⟩), want]) ∧ QAt w' w.heap.size (runQ n css) ∧
    w'.ownsRow w.heap.size 3 1 want (runQ n css).l.length ((runQ n css).l.map (Value.int .i64)) ∧ Upd [] w w'
/-- What holds at every round's head. -/
def MadeRel (B : Nat) (q : Qu) (w : World) (want : Value) (wr : World) : Prop :=
  QAt wr B q ∧ wr.ownsRow B 3 1 want q.l.length (q.l.map (Value.int .i64)) ∧ Upd [] w wr

set_option maxRecDepth 100000 in
set_option maxHeartbeats 8000000 in
theorem made_ok (sz : Int) (h0 : 0 ≤ sz) (h1 : sz < 256) (v : Value) (css : List (List Value)) (w : World) (hv : Recs w v 2 css) (hF : ∀ cs ∈ css, IsTurn cs) :
    Calls Try.prog 12 #[.int .u8 sz, v] w (MadePost (1 + sz % 64).toNat css w) := by
  have HV := Lib.hid hv
  obtain ⟨a, cap, rfl, hcc, hcm, -⟩ := hv
  have hm : cap ≤ 9223372036854775807 := by unfold maxLen at hcm; omega
  have HF := Lib.hid hF; clear hF
  obtain ⟨i0, hi, hz0, hz1, hz2⟩ := info_parts info3
  have hn1 : 1 ≤ 1 + sz % 64 := by omega
  have hn2 : 1 + sz % 64 ≤ 64 := by omega
  go_enter Try.func12, Try.ntmps12
  go_wp2_with fail
  generalize 1 + sz % 64 = m at *
  obtain ⟨n, rfl⟩ := Int.eq_ofNat_of_zero_le (show 0 ≤ m by omega)
  rw [Int.toNat_natCast]
  refine (new_at n _ (by omega) (by omega)).mono ?_; rintro e w1 ⟨rfl, a1, u1⟩
  unfold MadePost
  generalize hB : w.heap.size = B at a1 ⊢
  have HB := Lib.hid hB; clear hB
  go_wp2_with fail
  go_loopw [9, 10] (fun y x wr => ∃ i : Nat, i ≤ css.length ∧ x = .int .i64 i ∧ MadeRel B (runQ n (css.take i)) w y wr) (fun _ x _ => css.length - (intOf x).toNat)
  case atStart => exact ⟨0, by omega, rfl, a1, World.ownsRow_nil _ _ _ _, u1⟩
  case round =>
    clear a1 u1
    obtain ⟨i, hi', rfl, hq, hown, hup⟩ := hrel
    by_cases hlt : i < css.length
    · obtain ⟨ab, off, rfl, hab, hcl, hat⟩ := HV.out.at hlt
      obtain ⟨kd, id, hcs, hkd, hid⟩ := HF.out _ (List.getElem_mem hlt)
      have HC : ∀ w', Upd [] w w' → w'.cell? ⟨ab, off + i * 2, none⟩ = some (.int .u8 kd) ∧ w'.cell? ⟨ab, off + i * 2 + 1, none⟩ = some (.int .u8 id) ∧ ab < w'.heap.size := fun w' h =>
        ⟨(h.cell (p := ⟨ab, off + i * 2, none⟩) hab (by simp)).trans (hat 0 _ (by rw [hcs]; rfl)), (h.cell (p := ⟨ab, off + i * 2 + 1, none⟩) hab (by simp)).trans (hat 1 _ (by rw [hcs]; rfl)), Nat.lt_of_lt_of_le hab h.size⟩
      have HCH := Lib.hid HC; clear HC
      have hstep : runQ n (css.take (i + 1)) = qturn (runQ n (css.take i)) kd id := by
        rw [List.take_succ_eq_append_getElem hlt, hcs, runQ_snoc]
      have HST := Lib.hid hstep; clear hstep
      have hnd := runQ_nodup n (css.take i)
      have hsz := runQ_size n (css.take i)
      have hok := hq.ok
      generalize runQ n (css.take i) = q at *
      have HND := Lib.hid hnd; have HSZ := Lib.hid hsz
      have hl64 : q.l.length ≤ 64 := by have := hok.2.1; have := hok.2.2.1; omega
      have hls : q.l.length ≤ q.size := hok.2.2.1
      have hsn : (q.size : Int) ≤ n ∧ (n : Int) ≤ q.size := by omega
      clear hcl hat hcs hab hnd hsz hok
      obtain ⟨hc0, hc1, hab⟩ := HCH.out _ hup
      obtain ⟨wa, wc, rfl, hwc, hwm, -, -⟩ := owns_form hown
      have hwm' : wc ≤ 9223372036854775807 := by unfold maxLen at hwm; omega
      have hint := Ints.ofOwn hown
      have HI := Lib.hid hint; clear hint
      have HQ := Lib.hid hq; clear hq
      have HO := Lib.hid hown; clear hown
      go_wp2_with fail
      go_loop [12, 13] (fun x y => ∃ k : Nat, k ≤ q.l.length ∧ x = .int .i64 (atK q.l id k) ∧ y = .int .i64 k) (fun _ y => q.l.length - (intOf y).toNat)
      case atStart => exact ⟨0, by omega, by rw [atK_zero], rfl⟩
      case round =>
        obtain ⟨k, hk, rfl, rfl⟩ := hrel
        by_cases hltk : k < q.l.length
        · obtain ⟨g, goff, rfl, hg, _, hc⟩ := HI.out.at hltk
          by_cases he : q.l[k] = id
          · have hb : (q.l[k] == id) = true := by simp [he]
            have HH := Lib.hid (atK_hit HND.out hltk he); clear he
            go_wp2_with fail
            go_round
            case rel => exact ⟨k + 1, by omega, by rw [HH.out], by go_num⟩
            case measure => simp [intOf]; omega
          · have hb : (q.l[k] == id) = false := by simpa using he
            have HH := Lib.hid (atK_miss hltk he); clear he
            go_wp2_with fail
            go_round
            case rel => exact ⟨k + 1, by omega, by rw [HH.out], by go_num⟩
            case measure => simp [intOf]; omega
        · obtain rfl : k = q.l.length := by omega
          rw [atK_all]
          have hk4 : kd % 4 = 0 ∨ kd % 4 = 1 ∨ kd % 4 = 2 ∨ kd % 4 = 3 := by omega
          rcases hk4 with hk4 | hk4 | hk4 | hk4
          · as_aux_lemma =>
            have b0 : (kd % 4 == 0) = true := by simp [hk4]
            have b1 : (kd % 4 == 1) = false := by simp [hk4]
            have b2 : (kd % 4 == 2) = false := by simp [hk4]
            have hqt : qturn q kd id = q.addS id := qturn_add (.inl hk4)
            have HQT := Lib.hid hqt; clear hqt hk4
            by_cases hmem : id ∈ q.l
            · obtain ⟨j, hj⟩ : ∃ j : Nat, fndI q.l id = j := by
                cases hf : fnd q.l id with
                | none => exact absurd hmem (fnd_none.1 hf)
                | some j => exact ⟨j, by rw [fndI, hf]⟩
              rw [hj]
              have HS := Lib.hid (addS_same (.inl hmem)); clear hj hmem
              go_wp2_with fail
              refine (add_any id HQ.out).mono ?_; rintro e w2 ⟨rfl, a2, u2⟩
              have hne := HQ.out.ne_own HO.out
              have ho2 := owns_upd HO.out u2 (fun g hg => by simp; rintro rfl; exact hne hg)
              have up2 := hup.fresh1 u2 (Nat.le_of_eq HB.out)
              clear hne u2
              have HO2 := Lib.hid ho2; clear ho2
              go_wp2_with fail
              go_roundw
              case rel => exact ⟨i + 1, by omega, by go_num, by rw [HST.out, HQT.out]; exact a2, by rw [HST.out, HQT.out, HS.out]; exact HO2.out, up2⟩
              case measure => simp [intOf]; omega
            · have hj : fndI q.l id = -1 := by rw [fndI, fnd_none.2 hmem]
              rw [hj]
              clear hj
              by_cases hfull : q.l.length = q.size
              · have HS := Lib.hid (addS_same (id := id) (.inr hfull)); clear hmem
                have hnl : ¬ (q.l.length : Int) < n := by omega
                clear hfull
                go_wp2_with fail
                refine (add_any id HQ.out).mono ?_; rintro e w2 ⟨rfl, a2, u2⟩
                have hne := HQ.out.ne_own HO.out
                have ho2 := owns_upd HO.out u2 (fun g hg => by simp; rintro rfl; exact hne hg)
                have up2 := hup.fresh1 u2 (Nat.le_of_eq HB.out)
                clear hne u2
                have HO2 := Lib.hid ho2; clear ho2
                go_wp2_with fail
                go_roundw
                case rel => exact ⟨i + 1, by omega, by go_num, by rw [HST.out, HQT.out]; exact a2, by rw [HST.out, HQT.out, HS.out]; exact HO2.out, up2⟩
                case measure => simp [intOf]; omega
              · have hlt2 : q.l.length < q.size := by omega
                have HS := Lib.hid (addS_new hid.1 hid.2 hmem hlt2); clear hmem hfull
                have hnl : (q.l.length : Int) < n := by omega
                go_wp2_with fail
                refine (add_any id HQ.out).mono ?_; rintro e w2 ⟨rfl, a2, u2⟩
                have hne := HQ.out.ne_own HO.out
                have ho2 := owns_upd HO.out u2 (fun g hg => by simp; rintro rfl; exact hne hg)
                have up2 := hup.fresh1 u2 (Nat.le_of_eq HB.out)
                clear hne u2
                have hne2 := a2.ne_own ho2
                have hws := up2.size
                have A2 := Lib.hid a2; clear a2
                go_wp2_with (at_builtin; refine wpList_append_any _ rfl (.tmp 79) (.tmp 81) 25 rfl B 3 i0 (.int .i64 0) 1 8 Try.underlying25 hi hz0 hz1 hz2 rfl (by decide) _ q.l.length _ rfl (ho2.alloc _) _ 1 [.int .i64 id] rfl (sl_lit1 _ _ _ _) ?c1 ?c2 ?c3 ?_)
                case c1 => unfold maxLen; omega
                case c2 => omega
                case c3 => simp; have := HB.out; omega
                intro g c w3 hown3 hgrow
                have a3 := (A2.out.upd ((Upd.refl [] w2).alloc (.cells #[.int .i64 id] 3)) (by simp)).grown hgrow hne2
                have u3 : Upd [] w w3 := (up2.alloc _).grown hgrow (fun g hg => by have := (ho2.lt g hg).1; have := HB.out; omega)
                have HO3 := Lib.hid hown3; clear hown3 ho2 hgrow hne2
                go_wp2_with fail
                go_roundw
                case rel => exact ⟨i + 1, by omega, by go_num, by rw [HST.out, HQT.out]; exact a3, by rw [HST.out, HQT.out, HS.out]; simpa using HO3.out, u3⟩
                case measure => simp [intOf]; omega
          · as_aux_lemma =>
            have b0 : (kd % 4 == 0) = false := by simp [hk4]
            have b1 : (kd % 4 == 1) = true := by simp [hk4]
            have b2 : (kd % 4 == 2) = false := by simp [hk4]
            have hqt : qturn q kd id = q.addS id := qturn_add (.inr hk4)
            have HQT := Lib.hid hqt; clear hqt hk4
            by_cases hmem : id ∈ q.l
            · obtain ⟨j, hj⟩ : ∃ j : Nat, fndI q.l id = j := by
                cases hf : fnd q.l id with
                | none => exact absurd hmem (fnd_none.1 hf)
                | some j => exact ⟨j, by rw [fndI, hf]⟩
              rw [hj]
              have HS := Lib.hid (addS_same (.inl hmem)); clear hj hmem
              go_wp2_with fail
              refine (add_any id HQ.out).mono ?_; rintro e w2 ⟨rfl, a2, u2⟩
              have hne := HQ.out.ne_own HO.out
              have ho2 := owns_upd HO.out u2 (fun g hg => by simp; rintro rfl; exact hne hg)
              have up2 := hup.fresh1 u2 (Nat.le_of_eq HB.out)
              clear hne u2
              have HO2 := Lib.hid ho2; clear ho2
              go_wp2_with fail
              go_roundw
              case rel => exact ⟨i + 1, by omega, by go_num, by rw [HST.out, HQT.out]; exact a2, by rw [HST.out, HQT.out, HS.out]; exact HO2.out, up2⟩
              case measure => simp [intOf]; omega
            · have hj : fndI q.l id = -1 := by rw [fndI, fnd_none.2 hmem]
              rw [hj]
              clear hj
              by_cases hfull : q.l.length = q.size
              · have HS := Lib.hid (addS_same (id := id) (.inr hfull)); clear hmem
                have hnl : ¬ (q.l.length : Int) < n := by omega
                clear hfull
                go_wp2_with fail
                refine (add_any id HQ.out).mono ?_; rintro e w2 ⟨rfl, a2, u2⟩
                have hne := HQ.out.ne_own HO.out
                have ho2 := owns_upd HO.out u2 (fun g hg => by simp; rintro rfl; exact hne hg)
                have up2 := hup.fresh1 u2 (Nat.le_of_eq HB.out)
                clear hne u2
                have HO2 := Lib.hid ho2; clear ho2
                go_wp2_with fail
                go_roundw
                case rel => exact ⟨i + 1, by omega, by go_num, by rw [HST.out, HQT.out]; exact a2, by rw [HST.out, HQT.out, HS.out]; exact HO2.out, up2⟩
                case measure => simp [intOf]; omega
              · have hlt2 : q.l.length < q.size := by omega
                have HS := Lib.hid (addS_new hid.1 hid.2 hmem hlt2); clear hmem hfull
                have hnl : (q.l.length : Int) < n := by omega
                go_wp2_with fail
                refine (add_any id HQ.out).mono ?_; rintro e w2 ⟨rfl, a2, u2⟩
                have hne := HQ.out.ne_own HO.out
                have ho2 := owns_upd HO.out u2 (fun g hg => by simp; rintro rfl; exact hne hg)
                have up2 := hup.fresh1 u2 (Nat.le_of_eq HB.out)
                clear hne u2
                have hne2 := a2.ne_own ho2
                have hws := up2.size
                have A2 := Lib.hid a2; clear a2
                go_wp2_with (at_builtin; refine wpList_append_any _ rfl (.tmp 79) (.tmp 81) 25 rfl B 3 i0 (.int .i64 0) 1 8 Try.underlying25 hi hz0 hz1 hz2 rfl (by decide) _ q.l.length _ rfl (ho2.alloc _) _ 1 [.int .i64 id] rfl (sl_lit1 _ _ _ _) ?c1 ?c2 ?c3 ?_)
                case c1 => unfold maxLen; omega
                case c2 => omega
                case c3 => simp; have := HB.out; omega
                intro g c w3 hown3 hgrow
                have a3 := (A2.out.upd ((Upd.refl [] w2).alloc (.cells #[.int .i64 id] 3)) (by simp)).grown hgrow hne2
                have u3 : Upd [] w w3 := (up2.alloc _).grown hgrow (fun g hg => by have := (ho2.lt g hg).1; have := HB.out; omega)
                have HO3 := Lib.hid hown3; clear hown3 ho2 hgrow hne2
                go_wp2_with fail
                go_roundw
                case rel => exact ⟨i + 1, by omega, by go_num, by rw [HST.out, HQT.out]; exact a3, by rw [HST.out, HQT.out, HS.out]; simpa using HO3.out, u3⟩
                case measure => simp [intOf]; omega
          · as_aux_lemma =>
            have b0 : (kd % 4 == 0) = false := by simp [hk4]
            have b1 : (kd % 4 == 1) = false := by simp [hk4]
            have b2 : (kd % 4 == 2) = true := by simp [hk4]
            have hqt : qturn q kd id = q.remS id := qturn_rem hk4
            have HQT := Lib.hid hqt; clear hqt hk4
            cases hf : fnd q.l id with
            | none =>
              rw [show fndI q.l id = -1 from by rw [fndI, hf]]
              have HS := Lib.hid (show q.remS id = q from by unfold Qu.remS; rw [hf]); clear hf
              go_wp2_with fail
              refine (rem_any id HQ.out).mono ?_; rintro e w2 ⟨rfl, a2, u2⟩
              have hne := HQ.out.ne_own HO.out
              have ho2 := owns_upd HO.out u2 (fun g hg => by simp; rintro rfl; exact hne hg)
              have up2 := hup.fresh1 u2 (Nat.le_of_eq HB.out)
              have HO2 := Lib.hid ho2; clear ho2 hne u2
              go_wp2_with fail
              go_roundw
              case rel => exact ⟨i + 1, by omega, by go_num, by rw [HST.out, HQT.out]; exact a2, by rw [HST.out, HQT.out, HS.out]; exact HO2.out, up2⟩
              case measure => simp [intOf]; omega
            | some j =>
              rw [show fndI q.l id = (j : Int) from by rw [fndI, hf]]
              obtain ⟨hjl, -⟩ := fnd_spec hf
              have HS := Lib.hid (show q.remS id = ⟨q.size, q.l.eraseIdx j⟩ from by unfold Qu.remS; rw [hf]); clear hf
              obtain ⟨g, hwa⟩ := owns_addr HO.out (by omega)
              subst hwa
              go_wp2_with fail
              refine (rem_any id HQ.out).mono ?_; rintro e w2 ⟨rfl, a2, u2⟩
              have hne := HQ.out.ne_own HO.out
              have ho2 := owns_upd HO.out u2 (fun g hg => by simp; rintro rfl; exact hne hg)
              have up2 := hup.fresh1 u2 (Nat.le_of_eq HB.out)
              have hs2 := SlAt.ofOwn ho2 (one_ints _)
              have ht1 := hs2.take1 (show j ≤ q.l.length by omega)
              have HT1 := Lib.hid ht1; have HS2 := Lib.hid hs2
              have A2 := Lib.hid a2; clear a2 hne u2 ho2 ht1 hs2
              have hj0 : (0 : Int) ≤ (j : Int) := by omega
              have hw1 : IntKind.i64.wrap ((j : Int) + 1) = (j : Int) + 1 := IntWalk.i64_in _ (by omega)
              have hw2 : ((j : Int) + 1).toNat = j + 1 := by omega
              have hw3 : (0 : Int) ≤ (j : Int) + 1 := by omega
              have hw4 : (j : Int) + 1 ≤ (q.l.length : Int) := by omega
              have hw5 : (j : Int) ≤ (wc : Int) := by omega
              have hw6 : (j : Int) ≤ (j : Int) + 1 := by omega
              by_cases hcap : wc = j + 1
              · obtain rfl := hcap
                have hln : q.l.length = j + 1 := by omega
                have HLN := Lib.hid hln; clear hln
                have ht2 : SlAt w2 3 1 (.slice (some ⟨g, 0, none⟩) 0 0) 0 [] := sl_empty _ _ _
                have HT2 := Lib.hid ht2; clear ht2
                go_wp2_with fail
                go_region_law (first | ((refine step_append_any _ rfl (.tmp 90) (.tmp 93) 25 rfl w2.heap.size 3 i0 (.int .i64 0) 1 8 Try.underlying25 hi hz0 hz1 hz2 rfl (by decide) _ 0 [] (by first | (simp [Act.eval]; done) | simp [Act.eval, Act.put]) (owns_lit0 w2.drew 3 1) _ j _ (by first | (simp [Act.eval]; done) | simp [Act.eval, Act.put]) (HT1.out.upd (((Upd.refl [] w2).drew).alloc _) (by simp)) (by unfold maxLen; omega) (by omega) (by simp) ?_); (intro g3 c3 w3 hown3 hgrow3); (have u3 : Upd [] w2 w3 := (((Upd.refl [] w2).drew).alloc _).grown hgrow3 (fun g hg => by simp [Value.ownBlock] at hg; omega)); (have OWN3 := Lib.hid hown3); (clear hgrow3 hown3)) | ((refine step_append_any _ rfl (.tmp 94) (.tmp 98) 25 rfl w2.heap.size 3 i0 (.int .i64 0) 1 8 Try.underlying25 hi hz0 hz1 hz2 rfl (by decide) _ (0 + j) _ (by first | (simp [Act.eval]; done) | simp [Act.eval, Act.put]) OWN3.out _ 0 _ (by first | (simp [Act.eval]; done) | simp [Act.eval, Act.put]) (HT2.out.upd u3 (by simp)) (by unfold maxLen; omega) (by omega) (by exact u3.size) ?_); (intro g4 c4 w4 hown4 hgrow4); (have u4 : Upd [] w2 w4 := u3.grown hgrow4 (fun g hg => (OWN3.out.lt g hg).1)); (have OWN4 := Lib.hid hown4); (clear hgrow4 hown4)))
                all_goals
                  have a4 := A2.out.upd u4 (by simp)
                  have ho5 := owns_base OWN4.out (show B ≤ w2.heap.size by have := HB.out; have := up2.size; omega)
                  have hlen : (q.l.eraseIdx j).length = 0 + j + 0 := by rw [List.length_eraseIdx_of_lt hjl]; have := HLN.out; omega
                  have hmap : (q.l.eraseIdx j).map (Value.int .i64) = [] ++ (q.l.map (Value.int .i64)).take j ++ [] := by
                    rw [List.eraseIdx_eq_take_drop_succ, List.drop_eq_nil_of_le (by have := HLN.out; omega)]; simp [List.map_take]
                  have HO5 := Lib.hid ho5; have HLE := Lib.hid hlen; have HM := Lib.hid hmap; clear ho5 hlen hmap
                  go_wp2_with fail
                  go_roundw
                  case rel => exact ⟨i + 1, by omega, by go_num, by rw [HST.out, HQT.out]; exact a4, by rw [HST.out, HQT.out, HS.out]; show World.ownsRow _ _ _ _ _ (q.l.eraseIdx j).length ((q.l.eraseIdx j).map (Value.int .i64)); rw [HLE.out, HM.out]; simpa using HO5.out, up2.trans u4⟩
                  case measure => simp [intOf]; omega
              · have hcl : j + 1 < wc := by omega
                have ht2 := HS2.out.drop1 (i := j + 1) (by omega) hcl
                rw [Nat.zero_add] at ht2
                have HT2 := Lib.hid ht2; clear ht2
                go_wp2_with fail
                go_region_law (first | ((refine step_append_any _ rfl (.tmp 90) (.tmp 93) 25 rfl w2.heap.size 3 i0 (.int .i64 0) 1 8 Try.underlying25 hi hz0 hz1 hz2 rfl (by decide) _ 0 [] (by first | (simp [Act.eval]; done) | simp [Act.eval, Act.put]) (owns_lit0 w2.drew 3 1) _ j _ (by first | (simp [Act.eval]; done) | simp [Act.eval, Act.put]) (HT1.out.upd (((Upd.refl [] w2).drew).alloc _) (by simp)) (by unfold maxLen; omega) (by omega) (by simp) ?_); (intro g3 c3 w3 hown3 hgrow3); (have u3 : Upd [] w2 w3 := (((Upd.refl [] w2).drew).alloc _).grown hgrow3 (fun g hg => by simp [Value.ownBlock] at hg; omega)); (have OWN3 := Lib.hid hown3); (clear hgrow3 hown3)) | ((refine step_append_any _ rfl (.tmp 94) (.tmp 98) 25 rfl w2.heap.size 3 i0 (.int .i64 0) 1 8 Try.underlying25 hi hz0 hz1 hz2 rfl (by decide) _ (0 + j) _ (by first | (simp [Act.eval]; done) | simp [Act.eval, Act.put]) OWN3.out _ (q.l.length - (j + 1)) _ (by first | (simp [Act.eval]; done) | simp [Act.eval, Act.put]) (HT2.out.upd u3 (by simp)) (by unfold maxLen; omega) (by omega) (by exact u3.size) ?_); (intro g4 c4 w4 hown4 hgrow4); (have u4 : Upd [] w2 w4 := u3.grown hgrow4 (fun g hg => (OWN3.out.lt g hg).1)); (have OWN4 := Lib.hid hown4); (clear hgrow4 hown4)))
                all_goals
                  have a4 := A2.out.upd u4 (by simp)
                  have ho5 := owns_base OWN4.out (show B ≤ w2.heap.size by have := HB.out; have := up2.size; omega)
                  have hlen : (q.l.eraseIdx j).length = 0 + j + (q.l.length - (j + 1)) := by rw [List.length_eraseIdx_of_lt hjl]; omega
                  have hmap : (q.l.eraseIdx j).map (Value.int .i64) = [] ++ (q.l.map (Value.int .i64)).take j ++ ((q.l.map (Value.int .i64)).drop (j + 1)) := by
                    rw [List.eraseIdx_eq_take_drop_succ]; simp [List.map_take, List.map_drop]
                  have HO5 := Lib.hid ho5; have HLE := Lib.hid hlen; have HM := Lib.hid hmap; clear ho5 hlen hmap
                  go_wp2_with fail
                  go_roundw
                  case rel => exact ⟨i + 1, by omega, by go_num, by rw [HST.out, HQT.out]; exact a4, by rw [HST.out, HQT.out, HS.out]; show World.ownsRow _ _ _ _ _ (q.l.eraseIdx j).length ((q.l.eraseIdx j).map (Value.int .i64)); rw [HLE.out, HM.out]; simpa using HO5.out, up2.trans u4⟩
                  case measure => simp [intOf]; omega
          · as_aux_lemma =>
            have b0 : (kd % 4 == 0) = false := by simp [hk4]
            have b1 : (kd % 4 == 1) = false := by simp [hk4]
            have b2 : (kd % 4 == 2) = false := by simp [hk4]
            have hqt : qturn q kd id = q.pollS := qturn_poll hk4
            have HQT := Lib.hid hqt; clear hqt hk4
            by_cases hnil : q.l = []
            · have hl0 : ¬ (0 : Int) < (q.l.length : Int) := by rw [hnil]; simp
              have HS := Lib.hid (show q.pollS = q from by obtain ⟨s, l⟩ := q; simp at hnil; subst hnil; rfl); clear hnil
              go_wp2_with fail
              refine (poll_any HQ.out).mono ?_; rintro e w2 ⟨rfl, a2, u2⟩
              have hne := HQ.out.ne_own HO.out
              have ho2 := owns_upd HO.out u2 (fun g hg => by simp; rintro rfl; exact hne hg)
              have up2 := hup.fresh1 u2 (Nat.le_of_eq HB.out)
              have HO2 := Lib.hid ho2; clear ho2 hne u2
              go_wp2_with fail
              go_roundw
              case rel => exact ⟨i + 1, by omega, by go_num, by rw [HST.out, HQT.out]; exact a2, by rw [HST.out, HQT.out, HS.out]; exact HO2.out, up2⟩
              case measure => simp [intOf]; omega
            · have hlp : 0 < q.l.length := List.length_pos_iff.2 hnil
              have hl0 : (0 : Int) < (q.l.length : Int) := by omega
              have hl1 : (1 : Int) ≤ (q.l.length : Int) := by omega
              obtain ⟨g, hwa⟩ := owns_addr HO.out hlp
              subst hwa
              clear hnil
              go_wp2_with fail
              refine (poll_any HQ.out).mono ?_; rintro e w2 ⟨rfl, a2, u2⟩
              have hne := HQ.out.ne_own HO.out
              have ho2 := owns_upd HO.out u2 (fun g hg => by simp; rintro rfl; exact hne hg)
              have up2 := hup.fresh1 u2 (Nat.le_of_eq HB.out)
              have hws := up2.size
              have hs2 := SlAt.ofOwn ho2 (one_ints _)
              have HS2 := Lib.hid hs2
              have A2 := Lib.hid a2; clear a2 hne u2 ho2 hs2
              by_cases hcap : wc = 1
              · obtain rfl := hcap
                have hln : q.l.length = 1 := by omega
                have HLN := Lib.hid hln; clear hln
                have ht2 : SlAt w2 3 1 (.slice (some ⟨g, 0, none⟩) 0 0) 0 [] := sl_empty _ _ _
                have HT2 := Lib.hid ht2; clear ht2
                go_wp2_with (at_builtin; refine wpList_append_any _ rfl (.tmp 61) (.tmp 63) 25 rfl w2.heap.size 3 i0 (.int .i64 0) 1 8 Try.underlying25 hi hz0 hz1 hz2 rfl (by decide) _ 0 [] rfl (owns_lit0 _ 3 1) _ 0 _ rfl (HT2.out.upd ((Upd.refl [] w2).alloc _) (by simp)) ?c1 ?c2 ?c3 ?_)
                case c1 => unfold maxLen; omega
                case c2 => omega
                case c3 => simp
                intro g3 c3 w3 hown3 hgrow
                have u3 : Upd [] w2 w3 := ((Upd.refl _ _).alloc _).grown hgrow (fun g hg => by simp [Value.ownBlock] at hg; omega)
                have a3 := A2.out.upd u3 (by simp)
                have ho4 := owns_base hown3 (show B ≤ w2.heap.size by have := HB.out; omega)
                have hlen : q.pollS.l.length = 0 + 0 := by simp only [Qu.pollS, List.length_tail]; have := HLN.out; omega
                have hmap : q.pollS.l.map (Value.int .i64) = [] ++ [] := by
                  have : q.pollS.l = [] := List.eq_nil_of_length_eq_zero (by omega)
                  rw [this]; rfl
                have HO4 := Lib.hid ho4; have HLE := Lib.hid hlen; have HM := Lib.hid hmap; clear ho4 hlen hmap hown3 hgrow
                go_wp2_with fail
                go_roundw
                case rel => exact ⟨i + 1, by omega, by go_num, by rw [HST.out, HQT.out]; exact a3, by rw [HST.out, HQT.out, HLE.out, HM.out]; simpa using HO4.out, up2.trans u3⟩
                case measure => simp [intOf]; omega
              · have hcl : 1 < wc := by omega
                have ht2 := HS2.out.drop1 (i := 1) (by omega) hcl
                rw [Nat.zero_add] at ht2
                have HT2 := Lib.hid ht2; clear ht2
                go_wp2_with (at_builtin; refine wpList_append_any _ rfl (.tmp 61) (.tmp 63) 25 rfl w2.heap.size 3 i0 (.int .i64 0) 1 8 Try.underlying25 hi hz0 hz1 hz2 rfl (by decide) _ 0 [] rfl (owns_lit0 _ 3 1) _ (q.l.length - 1) _ rfl (HT2.out.upd ((Upd.refl [] w2).alloc _) (by simp)) ?c1 ?c2 ?c3 ?_)
                case c1 => unfold maxLen; omega
                case c2 => omega
                case c3 => simp
                intro g3 c3 w3 hown3 hgrow
                have u3 : Upd [] w2 w3 := ((Upd.refl _ _).alloc _).grown hgrow (fun g hg => by simp [Value.ownBlock] at hg; omega)
                have a3 := A2.out.upd u3 (by simp)
                have ho4 := owns_base hown3 (show B ≤ w2.heap.size by have := HB.out; omega)
                have hlen : q.pollS.l.length = 0 + (q.l.length - 1) := by simp only [Qu.pollS, List.length_tail]; omega
                have hmap : q.pollS.l.map (Value.int .i64) = [] ++ (q.l.map (Value.int .i64)).drop 1 := by
                  simp only [Qu.pollS, List.map_tail, List.nil_append, List.drop_one]
                have HO4 := Lib.hid ho4; have HLE := Lib.hid hlen; have HM := Lib.hid hmap; clear ho4 hlen hmap hown3 hgrow
                go_wp2_with fail
                go_roundw
                case rel => exact ⟨i + 1, by omega, by go_num, by rw [HST.out, HQT.out]; exact a3, by rw [HST.out, HQT.out, HLE.out, HM.out]; simpa using HO4.out, up2.trans u3⟩
                case measure => simp [intOf]; omega
    · obtain rfl : i = css.length := by omega
      rw [List.take_length] at hq hown
      have HQ := Lib.hid hq; have HO := Lib.hid hown; clear hq hown
      go_wp2_with fail
      go_ret2
      have hBe := HB.out
      subst hBe
      rw [Int.toNat_natCast]
      exact ⟨_, rfl, HQ.out, HO.out, hup⟩

end Go.Proofs.Ytjmaibobhjcajaa
