/-
  Contracts of the document's reference queue (estrayref30). Conditions: it is as New and its own calls leave it.
-/
import Derived.Test.YtmbkjnjfipafmaaRfLaw
import Derived.Test.YtmbkjnjfipafmaaRefRow
import Derived.Test.YtmbkjnjfipafmaaRfStep
namespace Go.Proofs.Ytmbkjnjfipafmaa
open Go.RowKit Go.Maps

/-- What an id watches; the zero object: nothing. -/
def gv (g : Nat → Option Rf) (i : Nat) : Rf := (g i).getD (0, 0)
theorem gv_set (g : Nat → Option Rf) (i : Nat) (o : Option Rf) : gv (setG g i o) = setR (gv g) i (o.getD (0, 0)) := by
  funext j
  unfold gv setG setR
  split <;> rfl
theorem gv_zero {s : Pt} (ho : s.ok) (i : Nat) : gv s.g i = (0, 0) ↔ s.g i = none := by
  unfold gv
  cases h : s.g i with
  | none => simp
  | some r =>
    have := (ho.good i r h).2.2.2.1
    simp only [Option.getD_some]
    constructor
    · rintro rfl; simp at this
    · intro h; cases h
/-- A reference queue of the document's at a block. -/
structure RqIn (w : World) (rb N P : Nat) (F : Nat → Rf) (l : List Int) (gl cl : Nat) (vq : Value) : Prop where
  blk : w.heap[rb]? = some (.cells #[.bool true, .int .i64 P, .slice (some ⟨gl, 0, none⟩) N cl, vq] 92 (0, 0))
  row : RefRow w gl N F
  q : Ints w vq l
  c1 : N ≤ cl
  c2 : cl ≤ maxLen
def RqAt (w : World) (rb : Nat) (s : Rs) : Prop := ∃ gl cl vq, RqIn w rb s.size s.places (gv s.g) s.l gl cl vq
theorem RqIn.upd {w w' : World} {rb N P gl cl : Nat} {F : Nat → Rf} {l : List Int} {vq : Value} (h : RqIn w rb N P F l gl cl vq) {S : List Nat} (u : Upd S w w') (hS : ∀ x, x ∈ S → x ≠ rb ∧ (∀ c, w.heap[x]? ≠ some (.cells c 36 (0, 0))) ∧ ∀ c, w.heap[x]? ≠ some (.cells c 3 (0, 0))) : RqIn w' rb N P F l gl cl vq := by
  refine ⟨u.keep h.blk (fun hm => (hS _ hm).1 rfl), h.row.upd u (fun hm => ?_), SlAt.upd h.q u (fun x hx => (hS x hx).2.2), h.c1, h.c2⟩
  obtain ⟨c, hc⟩ := h.row.blk
  exact (hS _ hm).2.1 c hc
theorem RqIn.upd0 {w w' : World} {rb N P gl cl : Nat} {F : Nat → Rf} {l : List Int} {vq : Value} (h : RqIn w rb N P F l gl cl vq) (u : Upd [] w w') : RqIn w' rb N P F l gl cl vq := h.upd u (by simp)
theorem RqAt.upd {w w' : World} {rb : Nat} {s : Rs} (h : RqAt w rb s) {S : List Nat} (u : Upd S w w') (hS : ∀ x, x ∈ S → x ≠ rb ∧ (∀ c, w.heap[x]? ≠ some (.cells c 36 (0, 0))) ∧ ∀ c, w.heap[x]? ≠ some (.cells c 3 (0, 0))) : RqAt w' rb s := by
  obtain ⟨gl, cl, vq, h⟩ := h; exact ⟨gl, cl, vq, h.upd u hS⟩
theorem RqAt.upd0 {w w' : World} {rb : Nat} {s : Rs} (h : RqAt w rb s) (u : Upd [] w w') : RqAt w' rb s := h.upd u (by simp)
theorem RqAt.blk {w : World} {rb : Nat} {s : Rs} (h : RqAt w rb s) : ∃ c, w.heap[rb]? = some (.cells c 92 (0, 0)) := by
  obtain ⟨gl, cl, vq, h⟩ := h; exact ⟨_, h.blk⟩
/-- One other block of the same kind was written. -/
theorem RqAt.other {w w' : World} {rb rb2 : Nat} {s s2 : Rs} (h : RqAt w rb s) (h2 : RqAt w rb2 s2) (hne : rb2 ≠ rb) (u : Upd [rb2] w w') : RqAt w' rb s := by
  obtain ⟨c, hc⟩ := h2.blk
  refine h.upd u (fun x hx => ?_)
  simp at hx
  subst hx
  refine ⟨hne, fun c' => ?_, fun c' => ?_⟩ <;> rw [hc] <;> simp <;> intros <;> decide
/-- A reference queue of the program's was written. -/
theorem RqAt.go {w w' : World} {rb : Nat} {s s2 : Rs} {B : RfB} (h : RqAt w rb s) (r : RfAt w B s2) (u : Upd B.S w w') : RqAt w' rb s := by
  obtain ⟨c, hc⟩ := h.blk
  exact h.upd u (fun x hx => ⟨fun e => r.notIn hc (by decide) (e ▸ hx), fun c' hc' => r.notIn hc' (by decide) hx, fun c' hc' => r.notIn hc' (by decide) hx⟩)
theorem RfAt.ref {w w' : World} {rb : Nat} {s s2 : Rs} {B : RfB} (r : RfAt w B s) (h : RqAt w rb s2) (u : Upd [rb] w w') : RfAt w' B s := by
  obtain ⟨c, hc⟩ := h.blk
  exact r.updA u (fun x hx => by simp; rintro rfl; exact r.parts.offAll hc (by decide) (by decide) (by decide) (by decide) hx)

theorem qqvalid {w : World} {rb N P gl cl : Nat} {F : Nat → Rf} {l : List Int} {vq : Value} (h : RqIn w rb N P F l gl cl vq) : Calls Try.prog 56 #[.pointer (some ⟨rb, 0, none⟩)] w fun e w' => e = .returned (.bool true) ∧ w = w' := by
  have c0 : w.cell? ⟨rb, 0, none⟩ = some (.bool true) := cell_of h.blk 0
  clear h
  go_enter Try.func56, Try.ntmps56
  go_wp2
  go_ret
  exact ⟨rfl, rfl⟩
theorem qqnew_err (a b : Int) (w : World) (h : (a < 1 ∨ 256 < a) ∨ (b < 1 ∨ 64 < b)) : Calls Try.prog 24 #[.int .i64 a, .int .i64 b] w fun e w' => e = .returned (.tuple #[.pointer none, .int .i64 2]) ∧ w = w' := by
  by_cases h1 : a < 1
  · go_enter Try.func24, Try.ntmps24
    go_wp2
    go_ret2
    exact ⟨rfl, rfl⟩
  · by_cases h2 : 256 < a
    · go_enter Try.func24, Try.ntmps24
      go_wp2
      go_ret2
      exact ⟨rfl, rfl⟩
    · by_cases h3 : b < 1
      · clear h
        go_enter Try.func24, Try.ntmps24
        go_wp2
        go_ret2
        exact ⟨rfl, rfl⟩
      · have h4 : 64 < b := by omega
        clear h
        go_enter Try.func24, Try.ntmps24
        go_wp2
        go_ret2
        exact ⟨rfl, rfl⟩
set_option maxRecDepth 100000 in
theorem qqnew_ok (a b : Nat) (w : World) (h1 : 1 ≤ a) (h2 : a ≤ 256) (h3 : 1 ≤ b) (h4 : b ≤ 64) :
    Calls Try.prog 24 #[.int .i64 a, .int .i64 b] w fun e w' => ∃ rb, e = .returned (.tuple #[.pointer (some ⟨rb, 0, none⟩), .int .i64 0]) ∧ RqAt w' rb (rs0 a b) ∧ w.heap.size ≤ rb ∧ Upd [] w w' := by
  have hmk := makeR a h2 w
  go_enter Try.func24, Try.ntmps24
  go_wp2_with fail
  go_ret2
  have hw := RefRow.new w a (fun _ => (0, 0))
  refine ⟨w.heap.size + 1, rfl, ⟨w.heap.size, a, .slice none 0 0, ?_, hw.upd ((Upd.refl [] _).alloc _) (by simp), sl_empty _ _ _, Nat.le_refl _, by unfold maxLen; show a ≤ _; omega⟩, by omega, ((Upd.refl _ _).alloc _).alloc _⟩
  have := new_of (w.alloc (.cells (vcells (rcell (fun _ => (0, 0))) (a * 2)) 36)) (.cells #[.bool true, .int .i64 b, .slice (some ⟨w.heap.size, 0, none⟩) a a, .slice none 0 0] 92)
  rw [World.size_alloc] at this
  exact this
/-- Where an id waits: -1 where it does not. -/
theorem qqwaits {w : World} {rb N P gl cl : Nat} {F : Nat → Rf} {l : List Int} {vq : Value} (h : RqIn w rb N P F l gl cl vq) (i : Int) :
    Calls Try.prog 58 #[.pointer (some ⟨rb, 0, none⟩), .int .i64 i] w fun e w' => e = .returned (.int .i64 (fndI l i)) ∧ w = w' := by
  obtain ⟨a, c, rfl, hc1, hc2⟩ := h.q.form
  have c3 : w.cell? ⟨rb, 3, none⟩ = some (.slice a l.length c) := cell_of h.blk 3
  have HW := Lib.hid h.q
  clear h
  go_enter Try.func58, Try.ntmps58
  go_wp2_with fail
  go_loop [5] (fun x => ∃ k : Nat, k ≤ l.length ∧ x = .int .i64 k ∧ ∀ (j : Nat) (y : Int), j < k → l[j]? = some y → y ≠ i) (fun x => l.length - (intOf x).toNat)
  case atStart => exact ⟨0, by omega, rfl, fun j y hj => by omega⟩
  case round =>
    obtain ⟨k, hk, rfl, hno⟩ := hrel
    have HNO := Lib.hid hno; clear hno
    by_cases hlt : k < l.length
    · obtain ⟨g, off, rfl, hg, _, hcell⟩ := HW.out.at hlt
      by_cases he : l[k] = i
      · have hb : (l[k] == i) = true := by simp [he]
        have hf : fndI l i = k := by rw [fndI, fnd_some hlt he HNO.out]
        have HF := Lib.hid hf
        clear hf he
        go_wp2_with fail
        go_ret
        exact ⟨by rw [HF.out]; rfl, rfl⟩
      · have hb : (l[k] == i) = false := by simpa using he
        have HE := Lib.hid he; clear he
        have hg2 : l[k]? = some l[k] := List.getElem?_eq_getElem hlt
        have HG := Lib.hid hg2; clear hg2
        go_wp2_with fail
        go_round
        case rel =>
          refine ⟨k + 1, by omega, by go_num, fun j y hj hy => ?_⟩
          by_cases e : j = k
          · subst e; rw [HG.out] at hy; cases hy; exact HE.out
          · exact HNO.out j y (by omega) hy
        case measure => simp [intOf]; omega
    · have hf : fndI l i = -1 := by
        rw [fndI, fnd_none.2 (fun hm => by
          obtain ⟨j, hj, e⟩ := List.getElem_of_mem hm
          exact HNO.out j _ (by omega) (List.getElem?_eq_getElem hj) e)]
      have HF := Lib.hid hf; clear hf
      go_wp2_with fail
      go_ret
      exact ⟨by rw [HF.out]; rfl, rfl⟩
theorem qqroom {w : World} {rb N P gl cl : Nat} {F : Nat → Rf} {l : List Int} {vq : Value} (h : RqIn w rb N P F l gl cl vq) (hl : l.length ≤ P) (hp : P ≤ 64) :
    Calls Try.prog 61 #[.pointer (some ⟨rb, 0, none⟩)] w fun e w' => e = .returned (.int .i64 (P - l.length : Nat)) ∧ Upd [] w w' := by
  obtain ⟨a, c, rfl, hc1, hc2⟩ := h.q.form
  have H := Lib.hid h
  have c1 : w.cell? ⟨rb, 1, none⟩ = some (.int .i64 P) := cell_of h.blk 1
  have c3 : w.cell? ⟨rb, 3, none⟩ = some (.slice a l.length c) := cell_of h.blk 3
  have HE := Lib.hid (show ((P - l.length : Nat) : Int) = (P : Int) - (l.length : Int) by omega)
  have hsub : IntKind.i64.wrap ((P : Int) - (l.length : Int)) = (P : Int) - (l.length : Int) := IntWalk.i64_in _ (by omega)
  clear h
  go_enter Try.func61, Try.ntmps61
  go_wp2_with (go_at_call 56; refine (qqvalid H.out).mono ?_; rintro e w' ⟨rfl, rfl⟩)
  go_quiet (fail)
  go_wp2_with fail
  go_ret
  exact ⟨by rw [HE.out]; rfl, (Upd.refl _ _).drewN _⟩
theorem qqwaiting {w : World} {rb N P gl cl : Nat} {F : Nat → Rf} {l : List Int} {vq : Value} (h : RqIn w rb N P F l gl cl vq) (hl : l.length ≤ 64) :
    Calls Try.prog 62 #[.pointer (some ⟨rb, 0, none⟩)] w fun e w' => ∃ v, e = .returned v ∧ Ints w' v l ∧ Upd [] w w' := by
  obtain ⟨a, c, rfl, hc1, hc2⟩ := h.q.form
  have H := Lib.hid h
  have c3 : w.cell? ⟨rb, 3, none⟩ = some (.slice a l.length c) := cell_of h.blk 3
  have kl := lt_of_block h.blk
  obtain ⟨i0, hii, hz0, hz1, hz2⟩ := info_parts info3
  have HS := Lib.hid (show SlAt (w.alloc (.cells #[] 3)) 3 1 (.slice a l.length c) l.length (l.map (Value.int .i64)) from h.q.upd0 ((Upd.refl _ _).alloc _))
  clear h
  go_enter Try.func62, Try.ntmps62
  go_wp2_with (first | (go_at_call 56; refine (qqvalid H.out).mono ?_; rintro e w' ⟨rfl, rfl⟩) | (at_builtin; refine wpList_append_any _ rfl _ _ 27 rfl w.heap.size 3 i0 (.int .i64 0) 1 8 Try.underlying27 hii hz0 hz1 hz2 rfl (by decide) _ 0 [] rfl (owns_lit0 w 3 1) _ l.length _ rfl HS.out ?c1 ?c2 ?c3 ?_))
  case c1 => unfold maxLen; omega
  case c2 => omega
  case c3 => simp
  intro g7 c7 w7 hown7 hgrow7
  have u7 : Upd [] w w7 := ((Upd.refl _ _).alloc _).grown hgrow7 (fun g hg => by simp [Value.ownBlock] at hg; omega)
  have OWN := Lib.hid hown7; have U7 := Lib.hid u7
  clear hown7 hgrow7 u7
  go_wp2_with fail
  go_ret
  exact ⟨_, rfl, Ints.ofOwn (by simpa using OWN.out), U7.out⟩

end Go.Proofs.Ytmbkjnjfipafmaa
