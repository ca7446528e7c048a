/-
  Contracts of the package queue: Drain, New, Copy. Conditions: the queue is as New and its own calls leave it.
-/
import Derived.Test.YtjmaibobhjcajaaQue3
namespace Go.Proofs.Ytjmaibobhjcajaa
open Go.RowKit

theorem drain_arg (b first : Nat) (q : Qu) (ring : Nat → Int) (m : Int) (w : World) (h : QIn w b q first ring) (hm : m < 0) :
    Calls Try.prog 22 #[.pointer (some ⟨b, 0, none⟩), .int .i64 m] w fun e w' => e = .returned (.tuple #[.slice none 0 0, .int .i64 2]) ∧ Upd [] w w' := by
  have H := Lib.hid h; clear h
  go_enter Try.func22, Try.ntmps22
  go_wp2_with fail
  refine H.out.valid.mono ?_; rintro e w' ⟨rfl, rfl⟩
  go_wp2_with fail
  go_ret2
  exact ⟨rfl, Upd.refl _ _⟩
/-- How many are drained. -/
def drK (l : List Int) (m : Int) : Nat := min l.length m.toNat
def DrPost (b : Nat) (q : Qu) (m : Int) (w : World) (e : Ending) (w' : World) : Prop :=
  ∃ v, e = .returned (.tuple #[v, .int .i64 0]) ∧ w'.ownsRow w.heap.size 3 1 v (drK q.l m) ((q.l.take (drK q.l m)).map (Value.int .i64)) ∧ QAt w' b ⟨q.size, q.l.drop (drK q.l m)⟩ ∧ Upd [b] w w'
theorem poll_any' {b : Nat} {q : Qu} {w : World} (h : QAt w b q) {x : Int} {l : List Int} (hl : q.l = x :: l) :
    Calls Try.prog 17 #[.pointer (some ⟨b, 0, none⟩)] w fun e w' => e = .returned (.tuple #[.int .i64 x, .bool true]) ∧ QAt w' b ⟨q.size, l⟩ ∧ Upd [b] w w' := by
  obtain ⟨f, r, h⟩ := h
  exact poll_some b f q r x l w h hl
theorem QAt.ne_own {w : World} {b : Nat} {q : Qu} (h : QAt w b q) {base n : Nat} {v : Value} {xs : List Value} (ho : w.ownsRow base 3 1 v n xs) : v.ownBlock ≠ some b := by
  obtain ⟨f, r, h⟩ := h
  exact owns_ne ho h.row (by decide)
theorem QAt.grown {w w' : World} {b : Nat} {q : Qu} {row : Option Nat} (h : QAt w b q) (g : w.grownBy w' row) (hn : row ≠ some b) : QAt w' b q := by
  obtain ⟨f, r, h⟩ := h
  exact ⟨f, r, h.ok, h.hf, grown_keep g h.row hn, h.rd⟩
set_option maxRecDepth 100000 in
set_option maxHeartbeats 2000000 in
theorem drain_ok (b first : Nat) (q : Qu) (ring : Nat → Int) (m : Int) (w : World) (h : QIn w b q first ring) (hm : 0 ≤ m) :
    Calls Try.prog 22 #[.pointer (some ⟨b, 0, none⟩), .int .i64 m] w (DrPost b q m w) := by
  have c2 := h.c2
  have hl64 : q.l.length ≤ 64 := by have := h.ok.2.1; have := h.ok.2.2.1; omega
  have hbs := h.lt
  obtain ⟨K, hK⟩ : ∃ K, drK q.l m = K := ⟨_, rfl⟩
  have hKl : K ≤ q.l.length := by rw [← hK]; exact Nat.min_le_left _ _
  have hmin1 : (if m < (q.l.length : Int) then m else (q.l.length : Int)) = (K : Int) := by
    rw [← hK]; unfold drK; split <;> omega
  have hmin2 : (if (q.l.length : Int) < m then (q.l.length : Int) else m) = (K : Int) := by
    rw [← hK]; unfold drK; split <;> omega
  have H := Lib.hid h; clear h
  unfold DrPost
  rw [hK]
  have HK := Lib.hid hK; clear hK
  obtain ⟨i0, hi, hz0, hz1, hz2⟩ := info_parts info3
  go_enter Try.func22, Try.ntmps22
  go_wp2_with fail
  refine H.out.valid.mono ?_; rintro e w' ⟨rfl, rfl⟩
  go_wp2_with fail
  clear hmin1 hmin2
  go_loopw [6, 22] (fun y x wr => ∃ k : Nat, k ≤ K ∧ x = .int .i64 k ∧ wr.ownsRow w.heap.size 3 1 y k ((q.l.take k).map (Value.int .i64)) ∧ QAt wr b ⟨q.size, q.l.drop k⟩ ∧ Upd [b] w wr) (fun _ x _ => K - (intOf x).toNat)
  case atStart => exact ⟨0, by omega, rfl, World.ownsRow_nil _ _ _ _, ⟨first, ring, H.out⟩, Upd.refl _ _⟩
  case round =>
    clear c2
    obtain ⟨k, hk, rfl, hown, hq, hup⟩ := hrel
    by_cases hlt : k < K
    · have hkl : k < q.l.length := by omega
      have hd : q.l.drop k = q.l[k] :: q.l.drop (k + 1) := List.drop_eq_getElem_cons hkl
      have ht : (q.l.take (k + 1)).map (Value.int .i64) = (q.l.take k).map (Value.int .i64) ++ [.int .i64 q.l[k]] := by
        rw [List.take_succ_eq_append_getElem hkl, List.map_append]; rfl
      have HT := Lib.hid ht; clear ht
      have hP := poll_any' hq hd
      have HD := Lib.hid hd; clear hd
      have hbl := hq.lt
      generalize q.l[k] = x at *
      go_wp2_with fail
      refine hP.mono ?_; clear hP; rintro e w2 ⟨rfl, a2, u2⟩
      have hne := hq.ne_own hown
      have hown2 := owns_upd hown u2 (fun g hg => by simp; rintro rfl; exact hne hg)
      have hne2 := a2.ne_own hown2
      have hws : w.heap.size ≤ w2.heap.size := Nat.le_trans hup.size u2.size
      have A2 := Lib.hid a2
      clear hown hne hq a2
      go_wp2_with (at_builtin; refine wpList_append_any _ rfl (.tmp 29) (.tmp 31) 25 rfl w.heap.size 3 i0 (.int .i64 0) 1 8 Try.underlying25 hi hz0 hz1 hz2 rfl (by decide) _ k _ rfl (hown2.alloc _) _ 1 [.int .i64 x] rfl (sl_lit1 _ _ _ _) ?c1 ?c2 ?c3 ?_)
      case c1 => unfold maxLen; omega
      case c2 => omega
      case c3 => simp; omega
      intro g c w3 hown3 hgrow
      have a3 := (A2.out.upd ((Upd.refl [] w2).alloc (.cells #[.int .i64 x] 3)) (by simp)).grown hgrow hne2
      have u3 : Upd [b] w w3 := ((hup.trans u2).alloc _).grown hgrow (fun g hg => (hown2.lt g hg).1)
      have hown4 : w3.ownsRow w.heap.size 3 1 (.slice g (k + 1) c) (k + 1) ((q.l.take (k + 1)).map (Value.int .i64)) := by rw [HT.out, List.map_take]; exact hown3
      clear hown2 hgrow hne2 hown3
      go_wp2
      go_roundw
      case rel => exact ⟨k + 1, by omega, by go_num, hown4, a3, u3⟩
      case measure => simp [intOf]; omega
    · obtain rfl : k = K := by omega
      go_wp2
      go_ret2
      exact ⟨_, rfl, hown, hq, hup⟩

theorem new_err (n : Int) (w : World) (h : n < 1 ∨ 64 < n) : Calls Try.prog 21 #[.int .i64 n] w fun e w' => e = .returned (.tuple #[.pointer none, .int .i64 2]) ∧ w = w' := by
  rcases h with h | h
  · go_enter Try.func21, Try.ntmps21
    go_wp2
    go_ret2
    exact ⟨rfl, rfl⟩
  · have h0 : ¬ n < 1 := by omega
    go_enter Try.func21, Try.ntmps21
    go_wp2
    go_ret2
    exact ⟨rfl, rfl⟩
def zq : Array Value := vcells (qf 0 0 0 (fun _ => 0)) 67
theorem zero_q (w : World) : (zeroValue 55).run Try.prog w = .ok (.agg zq) w := by kernel_rfl
theorem zq_ne : (zq = #[]) = False := by
  have : zq.size = 67 := vcells_size _ _
  simp; intro h; rw [h] at this; simp at this
theorem qf_set0 (size size' first n : Nat) (ring : Nat → Int) (j : Nat) : (if j = 0 then Value.int .i64 (size' : Int) else qf size first n ring j) = qf size' first n ring j := by
  unfold qf
  by_cases e : j = 0
  · subst e; simp
  · rw [if_neg e, if_neg e, if_neg e]
set_option maxRecDepth 100000 in
theorem new_at (n : Nat) (w : World) (h1 : 1 ≤ n) (h4 : n ≤ 64) : Calls Try.prog 21 #[.int .i64 n] w fun e w' => e = .returned (.tuple #[.pointer (some ⟨w.heap.size, 0, none⟩), .int .i64 0]) ∧ QAt w' w.heap.size ⟨n, []⟩ ∧ Upd [] w w' := by
  have hz := zero_q
  have hne := zq_ne
  go_enter Try.func21, Try.ntmps21
  go_wp2
  go_ret2
  refine ⟨rfl, ⟨0, fun _ => 0, ⟨h1, h4, by simp, by simp⟩, h1, ?_, by simp⟩, (Upd.refl _ _).alloc _⟩
  have := new_of w (.cells (zq.setIfInBounds 0 (.int .i64 n)) 55)
  rw [show zq.setIfInBounds 0 (.int .i64 n) = vcells (qf n 0 0 (fun _ => 0)) 67 from by
    unfold zq; rw [vcells_set]; exact vcells_congr (fun i _ => qf_set0 0 n 0 0 _ i)] at this ⊢
  exact this
set_option maxRecDepth 100000 in
theorem copy_at (b first : Nat) (q : Qu) (ring : Nat → Int) (w : World) (h : QIn w b q first ring) :
    Calls Try.prog 29 #[.pointer (some ⟨b, 0, none⟩)] w fun e w' => e = .returned (.pointer (some ⟨w.heap.size, 0, none⟩)) ∧ QIn w' w.heap.size q first ring ∧ Upd [] w w' := by
  have hi : (Try.prog.info? 55).map (·.size) = some (vcells (qf q.size first q.l.length ring) 67).size := by rw [vcells_size]; kernel_rfl
  have H := Lib.hid h; clear h
  have HI := Lib.hid hi; clear hi
  have HR := Lib.hid H.out.row
  have hsz : zq.size = (vcells (qf q.size first q.l.length ring) 67).size := by rw [vcells_size]; exact vcells_size _ _
  have HS := Lib.hid hsz; clear hsz
  have hone : (vcells (qf q.size first q.l.length ring) 67).all (·.oneCell') = true := Array.all_eq_true_iff_forall_mem.2 fun x hx => by
    obtain ⟨i, _, rfl⟩ := Array.mem_map.1 hx
    unfold qf
    repeat' split
    all_goals rfl
  have HA := Lib.hid hone; clear hone
  have hz := zero_q
  go_enter Try.func29, Try.ntmps29
  go_wp2_with fail
  refine H.out.valid.mono ?_; rintro e w' ⟨rfl, rfl⟩
  go_wp2_with (first | (refine wpList_load_row rfl 55 _ rfl b rfl 55 _ (0, 0) _ HR.out Try.underlying55 rfl HI.out ?_) | (refine wpList_store_row rfl 55 _ _ rfl w.heap.size _ rfl rfl 55 _ (new_of _ _) HI.out HS.out HA.out ?_))
  go_ret
  refine ⟨rfl, ⟨H.out.ok, H.out.hf, setRow_heap _ _ _ _ _ _ (new_of _ _), H.out.rd⟩, ?_⟩
  exact ((Upd.refl _ _).alloc _).setRow (by simp) _

end Go.Proofs.Ytjmaibobhjcajaa
