/-
  The queue's calls in one word each; comparing two lists. Conditions: the queue is as New and its own calls leave it.
-/
import Derived.Test.YtmbkjnjfipafmaaQue4M
namespace Go.Proofs.Ytmbkjnjfipafmaa
open Go.RowKit

def Qu.addE (q : Qu) (id : Int) : Int := if 0 ≤ id ∧ id < 256 then (if id ∈ q.l then 6 else if q.l.length = q.size then 4 else 0) else 3
def Qu.addS (q : Qu) (id : Int) : Qu := if 0 ≤ id ∧ id < 256 ∧ id ∉ q.l ∧ q.l.length < q.size then ⟨q.size, q.l ++ [id]⟩ else q
def Qu.pollX (q : Qu) : Int := q.l.headD 0
def Qu.pollB (q : Qu) : Bool := !q.l.isEmpty
def Qu.pollS (q : Qu) : Qu := ⟨q.size, q.l.tail⟩
def Qu.remB (q : Qu) (id : Int) : Bool := decide (id ∈ q.l)
def Qu.remS (q : Qu) (id : Int) : Qu := match fnd q.l id with
  | some i => ⟨q.size, q.l.eraseIdx i⟩
  | none => q
def Qu.peekX (q : Qu) (i : Int) : Int := if 0 ≤ i ∧ i < q.l.length then q.l.getD i.toNat 0 else 0
def Qu.peekE (q : Qu) (i : Int) : Int := if 0 ≤ i ∧ i < q.l.length then 0 else 3
def QPost (b : Nat) (v : Value) (q : Qu) (w : World) (e : Ending) (w' : World) : Prop := e = .returned v ∧ QAt w' b q ∧ Upd [b] w w'

theorem add_any {b : Nat} {q : Qu} {w : World} (id : Int) (h : QAt w b q) : Calls Try.prog 42 #[.pointer (some ⟨b, 0, none⟩), .int .i64 id] w (QPost b (.int .i64 (q.addE id)) (q.addS id) w) := by
  obtain ⟨f, r, h⟩ := h
  have hq : QAt w b q := ⟨f, r, h⟩
  unfold Qu.addE Qu.addS
  by_cases h1 : 0 ≤ id ∧ id < 256
  · rw [if_pos h1]
    by_cases h2 : id ∈ q.l
    · rw [if_pos h2, if_neg (fun h => h.2.2.1 h2)]
      exact (add_have b f q r id w h h1.1 h1.2 h2).mono fun _ _ ⟨a, u⟩ => ⟨a, hq.upd u (by simp), u.nil⟩
    · rw [if_neg h2]
      by_cases h3 : q.l.length = q.size
      · rw [if_pos h3, if_neg (fun h => by omega)]
        exact (add_full b f q r id w h h1.1 h1.2 h2 h3).mono fun _ _ ⟨a, u⟩ => ⟨a, hq.upd u (by simp), u.nil⟩
      · have h4 : q.l.length < q.size := by have := h.ok.2.2.1; omega
        rw [if_neg h3, if_pos ⟨h1.1, h1.2, h2, h4⟩]
        exact (add_room b f q r id w h h1.1 h1.2 h2 h4).mono fun _ _ h => h
  · rw [if_neg h1, if_neg (fun h => h1 ⟨h.1, h.2.1⟩)]
    exact (add_beyond b f q r id w h (by omega)).mono fun _ _ ⟨a, u⟩ => ⟨a, hq.upd u (by simp), u.nil⟩
theorem poll_any {b : Nat} {q : Qu} {w : World} (h : QAt w b q) : Calls Try.prog 43 #[.pointer (some ⟨b, 0, none⟩)] w (QPost b (.tuple #[.int .i64 q.pollX, .bool q.pollB]) q.pollS w) := by
  obtain ⟨f, r, h⟩ := h
  have hq : QAt w b q := ⟨f, r, h⟩
  obtain ⟨size, l⟩ := q
  cases l with
  | nil => exact (poll_empty b f _ r w h rfl).mono fun _ _ ⟨a, u⟩ => ⟨a, hq.upd u (by simp), u.nil⟩
  | cons x l => exact (poll_some b f _ r x l w h rfl).mono fun _ _ h => h
theorem rem_any {b : Nat} {q : Qu} {w : World} (id : Int) (h : QAt w b q) : Calls Try.prog 47 #[.pointer (some ⟨b, 0, none⟩), .int .i64 id] w (QPost b (.bool (q.remB id)) (q.remS id) w) := by
  obtain ⟨f, r, h⟩ := h
  have hq : QAt w b q := ⟨f, r, h⟩
  unfold Qu.remB Qu.remS
  cases hf : fnd q.l id with
  | none =>
    rw [decide_eq_false (fnd_none.1 hf)]
    exact (remove_not b f q r id w h hf).mono fun _ _ ⟨a, u⟩ => ⟨a, hq.upd u (by simp), u.nil⟩
  | some i =>
    obtain ⟨hi, hx⟩ := fnd_spec hf
    rw [decide_eq_true (by rw [← hx]; exact List.getElem_mem hi)]
    exact (remove_at b f q r id i w h hf).mono fun _ _ h => h
theorem room_any {b : Nat} {q : Qu} {w : World} (h : QAt w b q) : Calls Try.prog 40 #[.pointer (some ⟨b, 0, none⟩)] w fun e w' => e = .returned (.int .i64 (q.size - q.l.length : Nat)) ∧ Upd [] w w' := by
  obtain ⟨f, r, h⟩ := h
  exact room_at b f q r w h
theorem all_any {b : Nat} {q : Qu} {w : World} (h : QAt w b q) : Calls Try.prog 49 #[.pointer (some ⟨b, 0, none⟩)] w (AllPost q.l w) := by
  obtain ⟨f, r, h⟩ := h
  exact all_at b f q r w h
theorem copy_any {b : Nat} {q : Qu} {w : World} (h : QAt w b q) : Calls Try.prog 75 #[.pointer (some ⟨b, 0, none⟩)] w fun e w' => e = .returned (.pointer (some ⟨w.heap.size, 0, none⟩)) ∧ QAt w' w.heap.size q ∧ Upd [] w w' := by
  obtain ⟨f, r, h⟩ := h
  exact (copy_at b f q r w h).mono fun _ _ ⟨h1, h2, h3⟩ => ⟨h1, ⟨f, r, h2⟩, h3⟩
/-- A slice that holds the integers l. -/
def Ints (w : World) (v : Value) (l : List Int) : Prop := SlAt w 3 1 v l.length (l.map (Value.int .i64))
theorem Ints.ofOwn {w : World} {base : Nat} {v : Value} {l : List Int} (h : w.ownsRow base 3 1 v l.length (l.map (Value.int .i64))) : Ints w v l := SlAt.ofOwn h (one_ints _)
theorem Ints.upd0 {w w' : World} {v : Value} {l : List Int} (h : Ints w v l) (u : Upd [] w w') : Ints w' v l := SlAt.upd h u (by simp)
theorem Ints.q {w w' : World} {v : Value} {l : List Int} {b : Nat} {q : Qu} (h : Ints w v l) (hq : QAt w b q) (u : Upd [b] w w') : Ints w' v l := by
  obtain ⟨f, r, hq⟩ := hq
  exact SlAt.upd1 h u hq.row (by decide)
theorem Ints.at {w : World} {a : Option Addr} {n c : Nat} {l : List Int} (h : Ints w (.slice a n c) l) {i : Nat} (hi : i < l.length) :
    ∃ g off, a = some ⟨g, off, none⟩ ∧ g < w.heap.size ∧ n ≤ c ∧ w.cell? ⟨g, off + i, none⟩ = some (.int .i64 l[i]) := by
  have hn : n = l.length := by obtain ⟨_, _, _, _, h3, _⟩ := h; simp at h3; exact h3.2.1
  subst hn
  obtain ⟨g, off, ha, hg, hc, h2, _⟩ := SlAt.at1 h hi
  exact ⟨g, off, ha, hg, hc, by rw [h2]; simp [hi]⟩
theorem Ints.form {w : World} {v : Value} {l : List Int} (h : Ints w v l) : ∃ a c, v = .slice a l.length c ∧ l.length ≤ c ∧ c ≤ 9223372036854775807 := by
  obtain ⟨_, _, a, c, h3, h4, h5, _⟩ := h
  exact ⟨a, c, h3, h4, by unfold maxLen at h5; omega⟩

end Go.Proofs.Ytmbkjnjfipafmaa
