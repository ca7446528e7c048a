/-
  Contracts of the document's queue (estrayref28): Drain. Conditions: the queue is as New and its own calls leave it.
-/
import Derived.Test.YtjmaibobhjcajaaQueRef5
namespace Go.Proofs.Ytjmaibobhjcajaa
open Go.RowKit

theorem RqAt.ne_own {w : World} {b : Nat} {q : Qu} (h : RqAt w b q) {base n : Nat} {v : Value} {xs : List Value} (ho : w.ownsRow base 3 1 v n xs) : v.ownBlock ≠ some b := by
  obtain ⟨_, a, c, h2, _⟩ := h
  exact owns_ne ho h2 (by decide)
set_option maxRecDepth 100000 in
set_option maxHeartbeats 2000000 in
theorem rdrain_ok {b : Nat} {q : Qu} {w : World} (m : Int) (h : RqAt w b q) (hm : 0 ≤ m) :
    Calls Try.prog 27 #[.pointer (some ⟨b, 0, none⟩), .int .i64 m] w fun e w' => ∃ v, e = .returned (.tuple #[v, .int .i64 0]) ∧ Ints w' v (q.l.take (drK q.l m)) ∧ RqAt w' b ⟨q.size, q.l.drop (drK q.l m)⟩ ∧ Upd [b] w w' := by
  obtain ⟨hok, a0, cc0, hb, hl⟩ := h
  have hsz : (0 : Int) < q.size := by have := hok.1; omega
  have hl64 : q.l.length ≤ 64 := Nat.le_trans hok.2.2.1 hok.2.1
  have c0 := cell_of hb 0
  have hbs := lt_of_block hb
  obtain ⟨K, hK⟩ : ∃ K, drK q.l m = K := ⟨_, rfl⟩
  have hKl : K ≤ q.l.length := by rw [← hK]; exact Nat.min_le_left _ _
  have hKm : (K : Int) ≤ m := by rw [← hK]; unfold drK; omega
  have hend : K < q.l.length → (K : Int) = m := by rw [← hK]; unfold drK; omega
  have hmz : ¬ m < 0 := by omega
  have HE := Lib.hid hend; clear hend
  have H := Lib.hid (show RqAt w b q from ⟨hok, a0, cc0, hb, hl⟩); clear hb hl hok
  rw [hK]
  clear hK
  obtain ⟨i0, hi, hz0, hz1, hz2⟩ := info_parts info3
  go_enter Try.func27, Try.ntmps27
  go_wp2_with (go_at_call 40; refine (rvalid_at b _ _ c0 hsz).mono ?_; rintro e w' ⟨rfl, rfl⟩)
  go_loopw [6] (fun y wr => ∃ k : Nat, k ≤ K ∧ wr.ownsRow w.heap.size 3 1 y k ((q.l.take k).map (Value.int .i64)) ∧ RqAt wr b ⟨q.size, q.l.drop k⟩ ∧ Upd [b] w wr) (fun y _ => K - (match y with | .slice _ n _ => n | _ => 0))
  case atStart => exact ⟨0, by omega, World.ownsRow_nil _ _ _ _, H.out, Upd.refl _ _⟩
  case round =>
    clear c0
    obtain ⟨k, hk, hown, hq, hup⟩ := hrel
    obtain ⟨ya, yc, rfl⟩ := ownsRow_slice hown
    have HQ := Lib.hid hq
    obtain ⟨hok, a1, cc1, hb, hl⟩ := hq
    obtain ⟨L, hL⟩ : ∃ L, (q.l.drop k).length = L := ⟨_, rfl⟩
    have hL2 : L = q.l.length - k := by rw [← hL]; exact List.length_drop
    rw [hL] at hb
    have c1 : wr.cell? ⟨b, 1, none⟩ = some (.slice a1 L cc1) := cell_of hb 1
    clear hl hok hb hL
    by_cases hlt : k < K
    · have hkl : k < q.l.length := by omega
      have hkm : (k : Int) < m := by omega
      have hpos : (0 : Int) < (L : Int) := by omega
      have hpos2 : 0 < L := by omega
      clear hL2
      have hd : q.l.drop k = q.l[k] :: q.l.drop (k + 1) := List.drop_eq_getElem_cons hkl
      have ht : (q.l.take (k + 1)).map (Value.int .i64) = (q.l.take k).map (Value.int .i64) ++ [.int .i64 q.l[k]] := by
        rw [List.take_succ_eq_append_getElem hkl, List.map_append]; rfl
      have HT := Lib.hid ht; clear ht
      have hP := rpoll_some HQ.out hd
      have HD := Lib.hid hd; clear hd
      have hbl := HQ.out.lt
      generalize q.l[k] = x at *
      have HP := Lib.hid hP; clear hP
      go_wp2_with fail
      refine HP.out.mono ?_; rintro e w2 ⟨rfl, ⟨hok2, a2, cc2, hb2, hi2, hnew⟩, u2⟩
      have hne := HQ.out.ne_own hown
      have hlt2 := hown.lt
      have hown2 := owns_upd hown u2 (fun g hg => by simp; rintro rfl; exact hne hg)
      have a2' : RqAt w2 b ⟨q.size, q.l.drop (k + 1)⟩ := ⟨hok2, a2, cc2, hb2, hi2⟩
      have hne2 := a2'.ne_own hown2
      have hws : w.heap.size ≤ w2.heap.size := Nat.le_trans hup.size u2.size
      have A2 := Lib.hid hb2
      have I2 := Lib.hid hi2
      have N2 := Lib.hid hnew
      have K2 := Lib.hid hok2
      clear hown hne hb2 hi2 hnew hok2 a2'
      go_wp2_with (at_builtin; refine wpList_append_any _ rfl (.tmp 31) (.tmp 33) 25 rfl w.heap.size 3 i0 (.int .i64 0) 1 8 Try.underlying25 hi hz0 hz1 hz2 rfl (by decide) _ k _ rfl (hown2.alloc _) _ 1 [.int .i64 x] rfl (sl_lit1 _ _ _ _) ?c1 ?c2 ?c3 ?_)
      case c1 => unfold maxLen; omega
      case c2 => omega
      case c3 => simp; omega
      intro g c w3 hown3 hgrow
      have u3a : Upd [] w2 (w2.alloc (.cells #[.int .i64 x] 3)) := (Upd.refl [] w2).alloc _
      have hb3 := grown_keep hgrow (u3a.keep A2.out (by simp)) hne2
      have hi3 : Ints w3 (.slice a2 (q.l.drop (k + 1)).length cc2) (q.l.drop (k + 1)) := SlAt.grown (SlAt.upd I2.out u3a (by simp)) hgrow (fun g hg a c hv => .inr (fun he => by
        simp only [Value.slice.injEq] at hv
        have h1 := N2.out a.block (by rw [hv.1]; rfl)
        have h2 := (hlt2 g hg).2
        omega))
      have a3 : RqAt w3 b ⟨q.size, q.l.drop (k + 1)⟩ := ⟨K2.out, a2, cc2, hb3, hi3⟩
      have u3 : Upd [b] w w3 := ((hup.trans u2).alloc _).grown hgrow (fun g hg => (hown2.lt g hg).1)
      have hown4 : w3.ownsRow w.heap.size 3 1 (.slice g (k + 1) c) (k + 1) ((q.l.take (k + 1)).map (Value.int .i64)) := by rw [HT.out, List.map_take]; exact hown3
      have A3 := Lib.hid a3
      clear hown2 hgrow hne2 hown3 hb3 hi3 u3a a3
      go_wp2
      go_roundw
      case rel => exact ⟨k + 1, by omega, hown4, A3.out, u3⟩
      case measure => simp; omega
    · obtain rfl : k = K := by omega
      have hi4 : Ints wr (.slice ya k yc) (q.l.take k) := by
        refine Ints.ofOwn (base := w.heap.size) ?_
        rw [List.length_take, Nat.min_eq_left hKl]; exact hown
      by_cases hkl : k < q.l.length
      · clear hL2
        obtain rfl := HE.out hkl
        go_wp2
        go_ret2
        exact ⟨_, rfl, hi4, HQ.out, hup⟩
      · obtain rfl : L = 0 := by omega
        clear hL2
        by_cases hkm : (k : Int) < m
        · go_wp2
          go_ret2
          exact ⟨_, rfl, hi4, HQ.out, hup⟩
        · go_wp2
          go_ret2
          exact ⟨_, rfl, hi4, HQ.out, hup⟩

end Go.Proofs.Ytjmaibobhjcajaa
