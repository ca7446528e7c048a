/-
  Contracts of the package queue: Remove, Drain, New, Copy. Conditions: the queue is as New and its own calls leave it.
-/
import Derived.Test.YtmbkjnjfipafmaaQue2M
namespace Go.Proofs.Ytmbkjnjfipafmaa
open Go.RowKit

theorem remove_not (b first : Nat) (q : Qu) (ring : Nat → Int) (id : Int) (w : World) (h : QIn w b q first ring) (hm : fnd q.l id = none) :
    Calls Try.prog 47 #[.pointer (some ⟨b, 0, none⟩), .int .i64 id] w fun e w' => e = .returned (.bool false) ∧ Upd [] w w' := by
  have H := Lib.hid h; clear h
  have hj : fndI q.l id = -1 := by rw [fndI, hm]
  have HJ := Lib.hid hj; clear hj hm
  go_enter Try.func47, Try.ntmps47
  go_wp2_with fail
  refine (find_at b first q ring id _ H.out).mono ?_; rw [HJ.out]; rintro e w2 ⟨rfl, u2⟩
  go_wp2_with fail
  go_ret
  exact ⟨rfl, u2⟩
/-- What the ring holds when the ids behind i0 have been moved up to k. -/
def Moved (l : List Int) (size first i0 k : Nat) (r : Nat → Int) : Prop :=
  ∀ m, m < l.length → r ((first + m) % size) = if i0 ≤ m ∧ m < k then l.getD (m + 1) 0 else l.getD m 0
theorem moved_start {l : List Int} {size first i0 : Nat} {r : Nat → Int} (h : ∀ i x, l[i]? = some x → r ((first + i) % size) = x) : Moved l size first i0 i0 r := fun m hm => by
  rw [if_neg (by omega), List.getD_eq_getElem?_getD, List.getElem?_eq_getElem hm]
  exact h m _ (List.getElem?_eq_getElem hm)
theorem moved_step {l : List Int} {size first i0 k : Nat} {r : Nat → Int} (h : Moved l size first i0 k r) (hls : l.length ≤ size) (hi : i0 ≤ k) (hk : k + 1 < l.length) :
    Moved l size first i0 (k + 1) (fun a => if a = (first + k) % size then l.getD (k + 1) 0 else r a) := fun m hm => by
  show (if (first + m) % size = (first + k) % size then l.getD (k + 1) 0 else r ((first + m) % size)) = _
  by_cases e : m = k
  · subst e
    rw [if_pos rfl, if_pos (by omega)]
  · rw [if_neg (fun e2 => e (ring_inj (by omega) (by omega) e2)), h m hm]
    by_cases h1 : i0 ≤ m ∧ m < k
    · rw [if_pos h1, if_pos (by omega)]
    · rw [if_neg h1, if_neg (by omega)]
theorem moved_end {l : List Int} {size first i0 : Nat} {r : Nat → Int} (h : Moved l size first i0 (l.length - 1) r) (hi : i0 < l.length) (i : Nat) (x : Int) (hx : (l.eraseIdx i0)[i]? = some x) : r ((first + i) % size) = x := by
  rw [List.getElem?_eraseIdx] at hx
  by_cases h1 : i < i0
  · rw [if_pos h1] at hx
    rw [h i (by omega), if_neg (by omega), List.getD_eq_getElem?_getD, hx]; rfl
  · rw [if_neg h1] at hx
    have hl := (List.getElem?_eq_some_iff.1 hx).1
    rw [h i (by omega), if_pos (by omega), List.getD_eq_getElem?_getD, hx]; rfl
set_option maxRecDepth 100000 in
set_option maxHeartbeats 2000000 in
theorem remove_at (b first : Nat) (q : Qu) (ring : Nat → Int) (id : Int) (i0 : Nat) (w : World) (h : QIn w b q first ring) (hf : fnd q.l id = some i0) :
    Calls Try.prog 47 #[.pointer (some ⟨b, 0, none⟩), .int .i64 id] w fun e w' => e = .returned (.bool true) ∧ QAt w' b ⟨q.size, q.l.eraseIdx i0⟩ ∧ Upd [b] w w' := by
  have hs64 := h.ok.2.1
  have hls := h.ok.2.2.1
  have hs1 := h.ok.1
  have hfs := h.hf
  obtain ⟨hi0, _⟩ := fnd_spec hf
  have hj : fndI q.l id = i0 := by rw [fndI, hf]
  have H := Lib.hid h; have HJ := Lib.hid hj
  clear h hj hf
  have hj0 : (0 : Int) ≤ (i0 : Int) := by omega
  go_enter Try.func47, Try.ntmps47
  go_wp2_with fail
  refine (find_at b first q ring id _ H.out).mono ?_; rw [HJ.out]; rintro e w2 ⟨rfl, u2⟩
  have a2 := H.out.upd u2 (by simp)
  go_wp2_with fail
  go_loopw [5] (fun x wr => ∃ (k : Nat) (r : Nat → Int), i0 ≤ k ∧ k + 1 ≤ q.l.length ∧ x = .int .i64 k ∧ VRow wr b 108 67 (qf q.size first q.l.length r) ∧ Moved q.l q.size first i0 k r ∧ Upd [b] w wr) (fun x _ => q.l.length - (intOf x).toNat)
  case atStart => exact ⟨i0, ring, by omega, by omega, rfl, a2.row, moved_start a2.rd, u2.nil⟩
  case round =>
    clear a2 u2
    obtain ⟨k, r, hik, hkl, rfl, hrow, hmv, hup⟩ := hrel
    have c0 : wr.cell? ⟨b, 0, none⟩ = some (.int .i64 q.size) := hrow.cell (i := 0) (by omega)
    have c1 : wr.cell? ⟨b, 1, none⟩ = some (.int .i64 first) := hrow.cell (i := 1) (by omega)
    have c2 : wr.cell? ⟨b, 2, none⟩ = some (.int .i64 q.l.length) := hrow.cell (i := 2) (by omega)
    have hbl := hrow.lt
    by_cases hlt : k + 1 < q.l.length
    · have hA1 : ∀ n, Calls Try.prog 70 #[.pointer (some ⟨b, 0, none⟩), .int .i64 k] (wr.drewN n) fun e w' => e = .returned (.int .i64 ((first + k) % q.size : Nat)) ∧ ∃ m, w' = wr.drewN m := fun n =>
        (qat_at b first k q.size (wr.drewN n) c0 c1 hs1 hs64 (by omega) (by omega)).mono fun _ _ ⟨h1, m, h2⟩ => ⟨h1, n + m, by rw [h2, World.drewN_drewN]⟩
      have hA2 : ∀ n, Calls Try.prog 70 #[.pointer (some ⟨b, 0, none⟩), .int .i64 ((k : Int) + 1)] (wr.drewN n) fun e w' => e = .returned (.int .i64 ((first + (k + 1)) % q.size : Nat)) ∧ ∃ m, w' = wr.drewN m := fun n =>
        (qat_at b first (k + 1) q.size (wr.drewN n) c0 c1 hs1 hs64 (by omega) (by omega)).mono fun _ _ ⟨h1, m, h2⟩ => ⟨h1, n + m, by rw [h2, World.drewN_drewN]⟩
      have hj1 : (first + k) % q.size < 64 := by have := Nat.mod_lt (first + k) hs1; omega
      have hj2 : (first + (k + 1)) % q.size < 64 := by have := Nat.mod_lt (first + (k + 1)) hs1; omega
      have hcell : ∀ i, i < 64 → wr.cell? ⟨b, 3 + i, none⟩ = some (.int .i64 (r i)) := fun i hi => by
        rw [← qf_ring q.size first q.l.length r i]; exact hrow.cell (by omega)
      have d1 := hcell _ hj1
      have d2 := hcell _ hj2
      have hmk := hmv (k + 1) hlt
      rw [if_neg (by omega)] at hmk
      rw [hmk] at d2
      have f1 := hrow.free (3 + (first + k) % q.size)
      have MS := Lib.hid (moved_step hmv hls hik hlt)
      have ROW := Lib.hid hrow
      clear hcell hrow hmv hmk
      generalize (first + k) % q.size = j1 at *
      generalize (first + (k + 1)) % q.size = j2 at *
      generalize q.l.getD (k + 1) 0 = y at *
      have HA1 := Lib.hid hA1; have HA2 := Lib.hid hA2
      clear hA1 hA2 c0 c1
      go_wp2_with fail
      have hwr : IntKind.i64.wrap ((k : Int) + 1) = (k : Int) + 1 := IntWalk.i64_in _ (by omega)
      go_region_with (first | (go_at_call_of 70 (Value.int .i64 (k : Int)); refine (HA1.out _).mono ?_; rintro e w' ⟨rfl, m, rfl⟩) | (go_at_call 70; refine (HA2.out _).mono ?_; rintro e w' ⟨rfl, m, rfl⟩))
      all_goals
        have hr := ((ROW.out.upd ((Upd.refl [] wr).drewN m) (by simp)).set (3 + j1) (.int .i64 y)).congr (fun i _ => qf_setr q.size first q.l.length j1 y r i)
        have us : Upd [b] w ((wr.drewN m).setCell ⟨b, 3 + j1, none⟩ (.int .i64 y)) := (hup.drewN m).setCell (by simp) _
        generalize (wr.drewN m).setCell ⟨b, 3 + j1, none⟩ (.int .i64 y) = w4 at *
        have HR := Lib.hid hr; clear hr
        go_wp2
        go_roundw
        case rel => exact ⟨k + 1, _, by omega, by omega, by go_num, HR.out, MS.out, us⟩
        case measure => simp [intOf]; omega
    · have hkk : k = q.l.length - 1 := by omega
      have hmv' : Moved q.l q.size first i0 (q.l.length - 1) r := by rw [← hkk]; exact hmv
      have HM := Lib.hid hmv'; clear hmv hmv'
      have f2 := hrow.free 2
      have ROW := Lib.hid hrow; clear hrow
      have HK := Lib.hid hkk; clear hkk
      have hl64 : (q.l.length : Int) ≤ 64 := by omega
      clear c0 c1
      go_wp2
      go_ret
      have hok := H.out.ok
      have hr2 := (ROW.out.set 2 (.int .i64 (q.l.length - 1 : Nat))).congr (fun i _ => qf_set2 q.size first q.l.length (q.l.length - 1) r i)
      have hlen : (q.l.eraseIdx i0).length = q.l.length - 1 := List.length_eraseIdx_of_lt hi0
      have hv : ((q.l.length - 1 : Nat) : Int) = (q.l.length : Int) - 1 := by omega
      rw [hv] at hr2
      refine ⟨rfl, ⟨first, r, ⟨hs1, hs64, ?_, fun y hy => hok.2.2.2 y (List.mem_of_mem_eraseIdx hy)⟩, hfs, ?_, fun i x hx => moved_end HM.out hi0 i x hx⟩, hup.setCell (by simp) _⟩
      · show (q.l.eraseIdx i0).length ≤ q.size
        omega
      · show VRow _ _ _ _ (qf q.size first (q.l.eraseIdx i0).length r)
        rw [hlen]; exact hr2

end Go.Proofs.Ytmbkjnjfipafmaa
