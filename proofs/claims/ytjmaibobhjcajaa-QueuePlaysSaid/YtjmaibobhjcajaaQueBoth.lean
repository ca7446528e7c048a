/-
  The queue's calls and the document's, in one word each for a queue and for nil. Conditions: the queue is nil, or as New and its own calls leave it.
-/
import Derived.Test.YtjmaibobhjcajaaQueRefN
import Derived.Test.YtjmaibobhjcajaaQueNilC
namespace Go.Proofs.Ytjmaibobhjcajaa
open Go.RowKit

/-- The block that a pointer names. -/
def own (p : Option Addr) : List Nat := match p with | some a => [a.block] | none => []
/-- The pointer is to a queue in this state, or nil where there is none. -/
def QV (w : World) (p : Option Addr) : Option Qu → Prop
  | none => p = none
  | some q => ∃ b, p = some ⟨b, 0, none⟩ ∧ QAt w b q
def RV (w : World) (p : Option Addr) : Option Qu → Prop
  | none => p = none
  | some q => ∃ b, p = some ⟨b, 0, none⟩ ∧ RqAt w b q
theorem QV.upd0 {w w' : World} {p : Option Addr} {s : Option Qu} (h : QV w p s) (u : Upd [] w w') : QV w' p s := by
  cases s with
  | none => exact h
  | some q => obtain ⟨b, rfl, h⟩ := h; exact ⟨b, rfl, h.upd u (by simp)⟩
theorem RV.upd0 {w w' : World} {p : Option Addr} {s : Option Qu} (h : RV w p s) (u : Upd [] w w') : RV w' p s := by
  cases s with
  | none => exact h
  | some q => obtain ⟨b, rfl, h⟩ := h; exact ⟨b, rfl, h.upd0 u⟩
/-- The one goes on, the other stays. -/
theorem RV.left {w w' : World} {p r : Option Addr} {s t : Option Qu} (h : RV w r s) (hq : QV w p t) (u : Upd (own p) w w') : RV w' r s := by
  cases t with
  | none => obtain rfl := hq; exact h.upd0 u
  | some q =>
    obtain ⟨b, rfl, hq⟩ := hq
    cases s with
    | none => exact h
    | some q' =>
      obtain ⟨d, rfl, hr⟩ := h
      obtain ⟨f, g, hq⟩ := hq
      refine ⟨d, rfl, hr.upd u ?_ fun x hx => by simp [own] at hx; subst hx; exact ne_elem hq.row (by decide)⟩
      obtain ⟨_, _, _, hd, _⟩ := hr
      simp [own]
      rintro rfl
      have hc := hq.row
      unfold VRow at hc
      rw [hc] at hd; simp at hd
theorem QV.right {w w' : World} {p r : Option Addr} {s t : Option Qu} (hq : QV w p t) (h : RV w r s) (u : Upd (own r) w w') : QV w' p t := by
  cases s with
  | none => obtain rfl := h; exact hq.upd0 u
  | some q =>
    obtain ⟨d, rfl, hr⟩ := h
    cases t with
    | none => exact hq
    | some q' =>
      obtain ⟨b, rfl, hq⟩ := hq
      refine ⟨b, rfl, hq.upd u ?_⟩
      obtain ⟨_, _, _, hd, _⟩ := hr
      obtain ⟨f, g, hq⟩ := hq
      simp [own]
      rintro rfl
      have hc := hq.row
      unfold VRow at hc
      rw [hc] at hd; simp at hd
theorem Ints.rv {w w' : World} {v : Value} {l : List Int} {p : Option Addr} {s : Option Qu} (h : Ints w v l) (hr : RV w p s) (u : Upd (own p) w w') : Ints w' v l := by
  cases s with
  | none => obtain rfl := hr; exact h.upd0 u
  | some q =>
    obtain ⟨b, rfl, _, _, _, hd, _⟩ := hr
    exact SlAt.upd1 h u hd (by decide)
/-- A block that was made after the count began. -/
def Since (n : Nat) (p : Option Addr) : Prop := ∀ x, x ∈ own p → n ≤ x
theorem Upd.since {a b c : World} {p : Option Addr} (h : Upd [] a b) (g : Upd (own p) b c) (hk : Since a.heap.size p) : Upd [] a c :=
  h.after g (fun x hx => .inl (hk x hx))

def vAddE (s : Option Qu) (id : Int) : Int := match s with | none => 1 | some q => q.addE id
def vAddS (s : Option Qu) (id : Int) : Option Qu := s.map (·.addS id)
def vPollX (s : Option Qu) : Int := match s with | none => 0 | some q => q.pollX
def vPollB (s : Option Qu) : Bool := match s with | none => false | some q => q.pollB
def vPollS (s : Option Qu) : Option Qu := s.map (·.pollS)
def vRemB (s : Option Qu) (id : Int) : Bool := match s with | none => false | some q => q.remB id
def vRemS (s : Option Qu) (id : Int) : Option Qu := s.map (·.remS id)
def vDrE (s : Option Qu) (m : Int) : Int := match s with | none => 1 | some _ => if m < 0 then 2 else 0
def vDrL (s : Option Qu) (m : Int) : List Int := match s with | none => [] | some q => if m < 0 then [] else q.l.take (drK q.l m)
def vDrS (s : Option Qu) (m : Int) : Option Qu := s.map fun q => if m < 0 then q else ⟨q.size, q.l.drop (drK q.l m)⟩
def vPeekX (s : Option Qu) (i : Int) : Int := match s with | none => 0 | some q => q.peekX i
def vPeekE (s : Option Qu) (i : Int) : Int := match s with | none => 1 | some q => q.peekE i
def vLen (s : Option Qu) : Int := match s with | none => 0 | some q => q.l.length
def vRoom (s : Option Qu) : Int := match s with | none => 0 | some q => (q.size - q.l.length : Nat)
def vAll (s : Option Qu) : List Int := match s with | none => [] | some q => q.l

theorem no_q (w : World) : NoQ w none := .inl rfl
theorem ints_nil (w : World) : Ints w (.slice none 0 0) [] := SlAt.ofOwn (World.ownsRow_nil w 0 3 1) (by simp)
theorem vadd {w : World} {p : Option Addr} {s : Option Qu} (id : Int) (h : QV w p s) :
    Calls Try.prog 16 #[.pointer p, .int .i64 id] w fun e w' => e = .returned (.int .i64 (vAddE s id)) ∧ QV w' p (vAddS s id) ∧ Upd (own p) w w' := by
  cases s with
  | none => obtain rfl := h; exact (nadd none id w (no_q w)).mono fun _ _ ⟨h1, h2⟩ => ⟨h1, rfl, h2 ▸ Upd.refl _ _⟩
  | some q => obtain ⟨b, rfl, h⟩ := h; exact (add_any id h).mono fun _ _ ⟨h1, h2, h3⟩ => ⟨h1, ⟨b, rfl, h2⟩, h3⟩
theorem wadd {w : World} {p : Option Addr} {s : Option Qu} (id : Int) (h : RV w p s) :
    Calls Try.prog 24 #[.pointer p, .int .i64 id] w fun e w' => e = .returned (.int .i64 (vAddE s id)) ∧ RV w' p (vAddS s id) ∧ Upd (own p) w w' := by
  cases s with
  | none => obtain rfl := h; exact (zadd id w).mono fun _ _ ⟨h1, h2⟩ => ⟨h1, rfl, h2 ▸ Upd.refl _ _⟩
  | some q => obtain ⟨b, rfl, h⟩ := h; exact (radd_any id h).mono fun _ _ ⟨h1, h2, h3⟩ => ⟨h1, ⟨b, rfl, h2⟩, h3⟩
theorem vpoll {w : World} {p : Option Addr} {s : Option Qu} (h : QV w p s) :
    Calls Try.prog 17 #[.pointer p] w fun e w' => e = .returned (.tuple #[.int .i64 (vPollX s), .bool (vPollB s)]) ∧ QV w' p (vPollS s) ∧ Upd (own p) w w' := by
  cases s with
  | none => obtain rfl := h; exact (npoll none w (no_q w)).mono fun _ _ ⟨h1, h2⟩ => ⟨h1, rfl, h2 ▸ Upd.refl _ _⟩
  | some q => obtain ⟨b, rfl, h⟩ := h; exact (poll_any h).mono fun _ _ ⟨h1, h2, h3⟩ => ⟨h1, ⟨b, rfl, h2⟩, h3⟩
theorem wpoll {w : World} {p : Option Addr} {s : Option Qu} (h : RV w p s) :
    Calls Try.prog 25 #[.pointer p] w fun e w' => e = .returned (.tuple #[.int .i64 (vPollX s), .bool (vPollB s)]) ∧ RV w' p (vPollS s) ∧ Upd (own p) w w' := by
  cases s with
  | none => obtain rfl := h; exact (zpoll w).mono fun _ _ ⟨h1, h2⟩ => ⟨h1, rfl, h2 ▸ Upd.refl _ _⟩
  | some q => obtain ⟨b, rfl, h⟩ := h; exact (rpoll_any h).mono fun _ _ ⟨h1, h2, h3⟩ => ⟨h1, ⟨b, rfl, h2⟩, h3⟩
theorem vrem {w : World} {p : Option Addr} {s : Option Qu} (id : Int) (h : QV w p s) :
    Calls Try.prog 19 #[.pointer p, .int .i64 id] w fun e w' => e = .returned (.bool (vRemB s id)) ∧ QV w' p (vRemS s id) ∧ Upd (own p) w w' := by
  cases s with
  | none => obtain rfl := h; exact (nrem none id w (no_q w)).mono fun _ _ ⟨h1, h2⟩ => ⟨h1, rfl, h2.nil⟩
  | some q => obtain ⟨b, rfl, h⟩ := h; exact (rem_any id h).mono fun _ _ ⟨h1, h2, h3⟩ => ⟨h1, ⟨b, rfl, h2⟩, h3⟩
theorem wrem {w : World} {p : Option Addr} {s : Option Qu} (id : Int) (h : RV w p s) :
    Calls Try.prog 26 #[.pointer p, .int .i64 id] w fun e w' => e = .returned (.bool (vRemB s id)) ∧ RV w' p (vRemS s id) ∧ Upd (own p) w w' := by
  cases s with
  | none => obtain rfl := h; exact (zrem id w).mono fun _ _ ⟨h1, h2⟩ => ⟨h1, rfl, h2 ▸ Upd.refl _ _⟩
  | some q => obtain ⟨b, rfl, h⟩ := h; exact (rrem_any id h).mono fun _ _ ⟨h1, h2, h3⟩ => ⟨h1, ⟨b, rfl, h2⟩, h3⟩
theorem vdrain {w : World} {p : Option Addr} {s : Option Qu} (m : Int) (h : QV w p s) :
    Calls Try.prog 22 #[.pointer p, .int .i64 m] w fun e w' => ∃ v, e = .returned (.tuple #[v, .int .i64 (vDrE s m)]) ∧ Ints w' v (vDrL s m) ∧ QV w' p (vDrS s m) ∧ Upd (own p) w w' := by
  cases s with
  | none => obtain rfl := h; exact (ndrain none m w (no_q w)).mono fun _ _ ⟨h1, h2⟩ => ⟨_, h1, ints_nil _, rfl, h2 ▸ Upd.refl _ _⟩
  | some q =>
    obtain ⟨b, rfl, h⟩ := h
    unfold vDrE vDrL vDrS
    by_cases hm : m < 0
    · simp only [if_pos hm, Option.map_some]
      exact (drain_neg m h hm).mono fun _ _ ⟨h1, h2⟩ => ⟨_, h1, ints_nil _, ⟨b, rfl, h.upd h2 (by simp)⟩, h2.nil⟩
    · simp only [if_neg hm, Option.map_some]
      exact (drain_any m h (by omega)).mono fun _ _ ⟨v, h1, h2, h3, h4⟩ => ⟨v, h1, by
        have e : (q.l.take (drK q.l m)).length = drK q.l m := by rw [List.length_take]; exact Nat.min_eq_left (Nat.min_le_left _ _)
        exact Ints.ofOwn (base := w.heap.size) (by rw [e]; exact h2), ⟨b, rfl, h3⟩, h4⟩
theorem wdrain {w : World} {p : Option Addr} {s : Option Qu} (m : Int) (h : RV w p s) :
    Calls Try.prog 27 #[.pointer p, .int .i64 m] w fun e w' => ∃ v, e = .returned (.tuple #[v, .int .i64 (vDrE s m)]) ∧ Ints w' v (vDrL s m) ∧ RV w' p (vDrS s m) ∧ Upd (own p) w w' := by
  cases s with
  | none => obtain rfl := h; exact (zdrain m w).mono fun _ _ ⟨h1, h2⟩ => ⟨_, h1, ints_nil _, rfl, h2 ▸ Upd.refl _ _⟩
  | some q =>
    obtain ⟨b, rfl, h⟩ := h
    unfold vDrE vDrL vDrS
    by_cases hm : m < 0
    · simp only [if_pos hm, Option.map_some]
      exact (rdrain_neg m h hm).mono fun _ _ ⟨h1, h2⟩ => ⟨_, h1, ints_nil _, ⟨b, rfl, h2 ▸ h⟩, h2 ▸ Upd.refl _ _⟩
    · simp only [if_neg hm, Option.map_some]
      exact (rdrain_ok m h (by omega)).mono fun _ _ ⟨v, h1, h2, h3, h4⟩ => ⟨v, h1, h2, ⟨b, rfl, h3⟩, h4⟩
theorem vcopy {w : World} {p : Option Addr} {s : Option Qu} (h : QV w p s) :
    Calls Try.prog 29 #[.pointer p] w fun e w' => ∃ n, e = .returned (.pointer n) ∧ QV w' n s ∧ Since w.heap.size n ∧ Upd [] w w' := by
  cases s with
  | none => obtain rfl := h; exact (ncopy none w (no_q w)).mono fun _ _ ⟨h1, h2⟩ => ⟨none, h1, rfl, by simp [Since, own], h2 ▸ Upd.refl _ _⟩
  | some q => obtain ⟨b, rfl, h⟩ := h; exact (copy_any h).mono fun _ _ ⟨h1, h2, h3⟩ => ⟨_, h1, ⟨_, rfl, h2⟩, by simp [Since, own], h3⟩
theorem wcopy {w : World} {p : Option Addr} {s : Option Qu} (h : RV w p s) :
    Calls Try.prog 30 #[.pointer p] w fun e w' => ∃ n, e = .returned (.pointer n) ∧ RV w' n s ∧ Since w.heap.size n ∧ Upd [] w w' := by
  cases s with
  | none => obtain rfl := h; exact (zcopy w).mono fun _ _ ⟨h1, h2⟩ => ⟨none, h1, rfl, by simp [Since, own], h2 ▸ Upd.refl _ _⟩
  | some q => obtain ⟨b, rfl, h⟩ := h; exact (rcopy_any h).mono fun _ _ ⟨nb, h1, h2, h3, h4⟩ => ⟨_, h1, ⟨_, rfl, h3⟩, by simpa [Since, own] using h2, h4⟩
theorem vpeek {w : World} {p : Option Addr} {s : Option Qu} (i : Int) (h : QV w p s) :
    Calls Try.prog 15 #[.pointer p, .int .i64 i] w fun e w' => e = .returned (.tuple #[.int .i64 (vPeekX s i), .int .i64 (vPeekE s i)]) ∧ Upd [] w w' := by
  cases s with
  | none => obtain rfl := h; exact (npeek none i w (no_q w)).mono fun _ _ ⟨h1, h2⟩ => ⟨h1, h2 ▸ Upd.refl _ _⟩
  | some q => obtain ⟨b, rfl, h⟩ := h; exact peek_any i h
theorem wpeek {w : World} {p : Option Addr} {s : Option Qu} (i : Int) (h : RV w p s) :
    Calls Try.prog 31 #[.pointer p, .int .i64 i] w fun e w' => e = .returned (.tuple #[.int .i64 (vPeekX s i), .int .i64 (vPeekE s i)]) ∧ Upd [] w w' := by
  cases s with
  | none => obtain rfl := h; exact (zpeek i w).mono fun _ _ ⟨h1, h2⟩ => ⟨h1, h2 ▸ Upd.refl _ _⟩
  | some q => obtain ⟨b, rfl, h⟩ := h; exact (rpeek_any i h).mono fun _ _ ⟨h1, h2⟩ => ⟨h1, h2 ▸ Upd.refl _ _⟩
theorem vlen {w : World} {p : Option Addr} {s : Option Qu} (h : QV w p s) : Calls Try.prog 18 #[.pointer p] w fun e w' => e = .returned (.int .i64 (vLen s)) ∧ Upd [] w w' := by
  cases s with
  | none => obtain rfl := h; exact nlen none w (no_q w)
  | some q => obtain ⟨b, rfl, h⟩ := h; exact len_any h
theorem wlen {w : World} {p : Option Addr} {s : Option Qu} (h : RV w p s) : Calls Try.prog 32 #[.pointer p] w fun e w' => e = .returned (.int .i64 (vLen s)) ∧ Upd [] w w' := by
  cases s with
  | none => obtain rfl := h; exact (zlen w).mono fun _ _ ⟨h1, h2⟩ => ⟨h1, h2 ▸ Upd.refl _ _⟩
  | some q => obtain ⟨b, rfl, h⟩ := h; exact (rlen_any h).mono fun _ _ ⟨h1, h2⟩ => ⟨h1, h2 ▸ Upd.refl _ _⟩
theorem vroom {w : World} {p : Option Addr} {s : Option Qu} (h : QV w p s) : Calls Try.prog 20 #[.pointer p] w fun e w' => e = .returned (.int .i64 (vRoom s)) ∧ Upd [] w w' := by
  cases s with
  | none => obtain rfl := h; exact (nroom none w (no_q w)).mono fun _ _ ⟨h1, h2⟩ => ⟨h1, h2 ▸ Upd.refl _ _⟩
  | some q => obtain ⟨b, rfl, h⟩ := h; exact room_any h
theorem wroom {w : World} {p : Option Addr} {s : Option Qu} (h : RV w p s) : Calls Try.prog 33 #[.pointer p] w fun e w' => e = .returned (.int .i64 (vRoom s)) ∧ Upd [] w w' := by
  cases s with
  | none => obtain rfl := h; exact (zroom w).mono fun _ _ ⟨h1, h2⟩ => ⟨h1, h2 ▸ Upd.refl _ _⟩
  | some q => obtain ⟨b, rfl, h⟩ := h; exact rroom_any h
theorem vall {w : World} {p : Option Addr} {s : Option Qu} (h : QV w p s) : Calls Try.prog 14 #[.pointer p] w fun e w' => ∃ v, e = .returned v ∧ Ints w' v (vAll s) ∧ Upd [] w w' := by
  cases s with
  | none => obtain rfl := h; exact (nall none w (no_q w)).mono fun _ _ ⟨v, h1, h2, h3⟩ => ⟨v, h1, h2.1, h3⟩
  | some q => obtain ⟨b, rfl, h⟩ := h; exact (all_any h).mono fun _ _ ⟨v, h1, h2, h3⟩ => ⟨v, h1, h2.1, h3⟩
theorem wall {w : World} {p : Option Addr} {s : Option Qu} (h : RV w p s) : Calls Try.prog 34 #[.pointer p] w fun e w' => ∃ v, e = .returned v ∧ Ints w' v (vAll s) ∧ Upd [] w w' := by
  cases s with
  | none => obtain rfl := h; exact (zall w).mono fun _ _ ⟨h1, h2⟩ => ⟨_, h1, ints_nil _, h2 ▸ Upd.refl _ _⟩
  | some q => obtain ⟨b, rfl, h⟩ := h; exact rall_any h
/-- What New answers. -/
def newE (n : Int) : Int := if 1 ≤ n ∧ n ≤ 64 then 0 else 2
def newN (n : Int) : Bool := !decide (1 ≤ n ∧ n ≤ 64)
def newS (n : Int) : Option Qu := if 1 ≤ n ∧ n ≤ 64 then some ⟨n.toNat, []⟩ else none
def NewP (V : World → Option Addr → Option Qu → Prop) (n : Int) (w : World) (e : Ending) (w' : World) : Prop :=
  ∃ p, e = .returned (.tuple #[.pointer p, .int .i64 (newE n)]) ∧ p.isNone = newN n ∧ V w' p (newS n) ∧ Since w.heap.size p ∧ Upd [] w w'
theorem vnew (n : Int) (w : World) : Calls Try.prog 21 #[.int .i64 n] w (NewP QV n w) := by
  unfold NewP newE newN newS
  by_cases h : 1 ≤ n ∧ n ≤ 64
  · obtain ⟨m, rfl⟩ := Int.eq_ofNat_of_zero_le (show 0 ≤ n by omega)
    simp only [if_pos h, decide_eq_true h]
    exact (new_at m w (by omega) (by omega)).mono fun _ _ ⟨h1, h2, h3⟩ => ⟨_, h1, rfl, ⟨_, rfl, h2⟩, by simp [Since, own], h3⟩
  · simp only [if_neg h, decide_eq_false h]
    exact (new_err n w (by omega)).mono fun _ _ ⟨h1, h2⟩ => ⟨none, h1, rfl, rfl, by simp [Since, own], h2 ▸ Upd.refl _ _⟩
theorem wnew (n : Int) (w : World) : Calls Try.prog 23 #[.int .i64 n] w (NewP RV n w) := by
  unfold NewP newE newN newS
  by_cases h : 1 ≤ n ∧ n ≤ 64
  · obtain ⟨m, rfl⟩ := Int.eq_ofNat_of_zero_le (show 0 ≤ n by omega)
    simp only [if_pos h, decide_eq_true h]
    exact (rnew_ok m w (by omega) (by omega)).mono fun _ _ ⟨h1, h2, h3⟩ => ⟨_, h1, rfl, ⟨_, rfl, h2⟩, by simp [Since, own], h3⟩
  · simp only [if_neg h, decide_eq_false h]
    exact (rnew_err n w (by omega)).mono fun _ _ ⟨h1, h2⟩ => ⟨none, h1, rfl, rfl, by simp [Since, own], h2 ▸ Upd.refl _ _⟩

end Go.Proofs.Ytjmaibobhjcajaa
