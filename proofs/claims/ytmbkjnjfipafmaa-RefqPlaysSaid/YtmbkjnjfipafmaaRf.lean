/-
  Contracts of the package refq: a reference queue in memory, what reads it, New. Conditions: the queue is as New and its own calls leave it.
-/
import Derived.Test.YtmbkjnjfipafmaaRfPh
import Derived.Test.YtmbkjnjfipafmaaClnM
import Derived.Test.YtmbkjnjfipafmaaQueAnyM
namespace Go.Proofs.Ytmbkjnjfipafmaa
open Go.RowKit Go.Maps

/-- A reference queue: how many ids, how many places, what the ids watch, the ids that wait. -/
structure Rs where
  size : Nat
  places : Nat
  g : Nat → Option Rf
  l : List Int
def Rs.pt (s : Rs) : Pt := ⟨s.size, s.g⟩
def Rs.qu (s : Rs) : Qu := ⟨s.places, s.l⟩
/-- The ids' cleaners: armed, or none. -/
def Rs.cl (s : Rs) (i : Nat) : Nat := if (s.g i).isSome = true ∨ (i : Int) ∈ s.l then 1 else 0
structure Rs.ok (s : Rs) : Prop where
  nodup : s.l.Nodup
  apart : ∀ i : Nat, (s.g i).isSome = true → (i : Int) ∉ s.l
  lt : ∀ x, x ∈ s.l → 0 ≤ x ∧ x < s.size
/-- Where it lies. -/
structure RfB where
  b : Nat
  bo : Nat
  bq : Nat
  bc : Nat
  m : Nat
  n : Nat
  mc : Nat
/-- The blocks that its calls write. -/
def RfB.S (B : RfB) : List Nat := [B.m, B.n, B.bq, B.mc]
structure RfAt (w : World) (B : RfB) (s : Rs) : Prop where
  ok : s.ok
  blk : w.heap[B.b]? = some (.cells #[.pointer (some ⟨B.bo, 0, none⟩), .pointer (some ⟨B.bq, 0, none⟩), .pointer (some ⟨B.bc, 0, none⟩), .int .i64 s.size] 71 (0, 0))
  t : PtAt w B.bo B.m B.n s.pt
  q : QAt w B.bq s.qu
  c : Cl.ClAt w B.bc B.mc s.cl
  ne : B.mc ≠ B.m ∧ B.mc ≠ B.n
theorem QAt.blk {w : World} {b : Nat} {q : Qu} (h : QAt w b q) : ∃ c, w.heap[b]? = some (.cells c 108 (0, 0)) := by
  obtain ⟨f, r, h⟩ := h; exact ⟨_, h.row⟩
theorem clAt_blk {w : World} {b m : Nat} {f : Nat → Nat} (h : Cl.ClAt w b m f) : ∃ c, w.heap[b]? = some (.cells c 105 (0, 0)) := by
  obtain ⟨_, h, _⟩ := h; exact ⟨_, h⟩
theorem clAt_map {w : World} {b m : Nat} {f : Nat → Nat} (h : Cl.ClAt w b m f) {b' : Nat} {c : Array Value} {t : TypeId} {k : Nat × Nat} (hb : w.heap[b']? = some (.cells c t k)) : b' ≠ m := by
  obtain ⟨_, _, h1, _⟩ := h; exact ne_map hb h1
theorem RfAt.upd {w w' : World} {B : RfB} {s : Rs} (h : RfAt w B s) {S : List Nat} (u : Upd S w w') (h1 : B.b ∉ S) (h2 : B.bo ∉ S) (h3 : B.bq ∉ S) (h4 : B.bc ∉ S) (h5 : B.m ∉ S) (h6 : B.n ∉ S) (h7 : B.mc ∉ S) : RfAt w' B s :=
  ⟨h.ok, u.keep h.blk h1, h.t.upd u h2 h5 h6, h.q.upd u h3, h.c.upd u h4 h7, h.ne⟩
theorem RfAt.upd0 {w w' : World} {B : RfB} {s : Rs} (h : RfAt w B s) (u : Upd [] w w') : RfAt w' B s := h.upd u (by simp) (by simp) (by simp) (by simp) (by simp) (by simp) (by simp)
theorem RfAt.lt {w : World} {B : RfB} {s : Rs} (h : RfAt w B s) : B.b < w.heap.size := lt_of_block h.blk
theorem ne_types {w : World} {b b' : Nat} {c c' : Array Value} {t t' : TypeId} {f f' : Nat × Nat} (h : w.heap[b]? = some (.cells c t f)) (h' : w.heap[b']? = some (.cells c' t' f')) (ht : t ≠ t') : b ≠ b' := by
  rintro rfl
  rw [h] at h'
  simp at h'
  exact ht h'.2.1
/-- A block of another type than a queue's is not written. -/
theorem RfAt.notIn {w : World} {B : RfB} {s : Rs} (h : RfAt w B s) {x : Nat} {c : Array Value} {t : TypeId} {f : Nat × Nat} (hx : w.heap[x]? = some (.cells c t f)) (ht : t ≠ 108) : x ∉ B.S := by
  obtain ⟨_, hq⟩ := h.q.blk
  simp only [RfB.S, List.mem_cons, List.not_mem_nil, or_false, not_or]
  exact ⟨h.t.nem hx, h.t.nen hx, ne_types hx hq ht, clAt_map h.c hx⟩
theorem RfAt.szs {w : World} {B : RfB} {s : Rs} (h : RfAt w B s) : 1 ≤ s.size ∧ s.size ≤ 256 ∧ 1 ≤ s.places ∧ s.places ≤ 64 ∧ s.l.length ≤ s.places := by
  have h1 := h.t.ok.pos
  have h2 := h.t.ok.le
  have h3 := h.q.ok
  exact ⟨h1, h2, h3.1, h3.2.1, h3.2.2.1⟩
/-- The table has gone on. -/
theorem RfAt.table {w w' : World} {B : RfB} {s : Rs} (h : RfAt w B s) (u : Upd [B.m, B.n] w w') :
    w'.heap[B.b]? = some (.cells #[.pointer (some ⟨B.bo, 0, none⟩), .pointer (some ⟨B.bq, 0, none⟩), .pointer (some ⟨B.bc, 0, none⟩), .int .i64 s.size] 71 (0, 0)) ∧ QAt w' B.bq s.qu ∧ Cl.ClAt w' B.bc B.mc s.cl := by
  obtain ⟨_, hq⟩ := h.q.blk
  obtain ⟨_, hc⟩ := clAt_blk h.c
  exact ⟨u.keep h.blk (by simp; exact ⟨h.t.nem h.blk, h.t.nen h.blk⟩), h.q.upd u (by simp; exact ⟨h.t.nem hq, h.t.nen hq⟩), h.c.upd u (by simp; exact ⟨h.t.nem hc, h.t.nen hc⟩) (by simp; exact h.ne)⟩

/-- All its blocks. -/
def RfB.all (B : RfB) : List Nat := [B.b, B.bo, B.bq, B.bc, B.m, B.n, B.mc]
theorem RfAt.updA {w w' : World} {B : RfB} {s : Rs} (h : RfAt w B s) {S : List Nat} (u : Upd S w w') (hn : ∀ x, x ∈ B.all → x ∉ S) : RfAt w' B s :=
  h.upd u (hn _ (by simp [RfB.all])) (hn _ (by simp [RfB.all])) (hn _ (by simp [RfB.all])) (hn _ (by simp [RfB.all])) (hn _ (by simp [RfB.all])) (hn _ (by simp [RfB.all])) (hn _ (by simp [RfB.all]))
theorem RfAt.lts {w : World} {B : RfB} {s : Rs} (h : RfAt w B s) : ∀ x, x ∈ B.all → x < w.heap.size := by
  intro x hx
  simp only [RfB.all, List.mem_cons, List.not_mem_nil, or_false] at hx
  rcases hx with rfl | rfl | rfl | rfl | rfl | rfl | rfl
  · exact h.lt
  · exact h.t.lt
  · exact h.q.lt
  · exact h.c.lt
  · exact h.t.ltm
  · exact h.t.ltn
  · exact h.c.mlt
theorem RfB.S_all {B : RfB} {x : Nat} (h : x ∈ B.S) : x ∈ B.all := by
  simp only [RfB.S, RfB.all, List.mem_cons, List.not_mem_nil, or_false] at h ⊢
  omega
/-- All its blocks were made since. -/
def RfB.since (B : RfB) (N : Nat) : Prop := ∀ x, x ∈ B.all → N ≤ x
theorem Upd.sinceS {a b c : World} {B : RfB} (h : Upd [] a b) (g : Upd B.S b c) (hs : B.since a.heap.size) : Upd [] a c :=
  h.after g (fun x hx => .inl (hs x (RfB.S_all hx)))
theorem rfvalid_at (b : Nat) (n : Int) (w : World) (h : w.cell? ⟨b, 3, none⟩ = some (.int .i64 n)) (hn : 0 < n) : Calls Try.prog 39 #[.pointer (some ⟨b, 0, none⟩)] w fun e w' => e = .returned (.bool true) ∧ w = w' := by
  go_enter Try.func39, Try.ntmps39
  go_wp2
  go_ret
  exact ⟨rfl, rfl⟩
theorem rfvalid {w : World} {B : RfB} {s : Rs} (h : RfAt w B s) : Calls Try.prog 39 #[.pointer (some ⟨B.b, 0, none⟩)] w fun e w' => e = .returned (.bool true) ∧ w = w' :=
  rfvalid_at B.b s.size w (cell_of h.blk 3) (by have := h.szs; omega)
theorem rfroom {w : World} {B : RfB} {s : Rs} (h : RfAt w B s) : Calls Try.prog 22 #[.pointer (some ⟨B.b, 0, none⟩)] w fun e w' => e = .returned (.int .i64 (s.places - s.l.length : Nat)) ∧ Upd [] w w' := by
  have H := Lib.hid h
  have c1 := cell_of h.blk 1
  clear h
  go_enter Try.func22, Try.ntmps22
  go_wp2_with (first | (go_at_call 39; refine (rfvalid H.out).mono ?_; rintro e w' ⟨rfl, rfl⟩) | (go_at_call 40; refine (room_any H.out.q).mono ?_; rintro e w1 ⟨rfl, u1⟩))
  go_ret
  exact ⟨rfl, u1⟩
theorem rflen {w : World} {B : RfB} {s : Rs} (h : RfAt w B s) : Calls Try.prog 23 #[.pointer (some ⟨B.b, 0, none⟩)] w fun e w' => e = .returned (.int .i64 (cardG s.g)) ∧ w = w' := by
  have H := Lib.hid h
  have c0 := cell_of h.blk 0
  clear h
  go_enter Try.func23, Try.ntmps23
  go_wp2_with (first | (go_at_call 39; refine (rfvalid H.out).mono ?_; rintro e w' ⟨rfl, rfl⟩) | (go_at_call 55; refine (plen H.out.t).mono ?_; rintro e w1 ⟨rfl, rfl⟩))
  go_ret
  exact ⟨rfl, rfl⟩
theorem rfwaiting {w : World} {B : RfB} {s : Rs} (h : RfAt w B s) : Calls Try.prog 18 #[.pointer (some ⟨B.b, 0, none⟩)] w fun e w' => ∃ v, e = .returned v ∧ Fresh w w' v s.l.length (s.l.map (Value.int .i64)) ∧ Upd [] w w' := by
  have H := Lib.hid h
  have c1 := cell_of h.blk 1
  clear h
  go_enter Try.func18, Try.ntmps18
  go_wp2_with (first | (go_at_call 39; refine (rfvalid H.out).mono ?_; rintro e w' ⟨rfl, rfl⟩) | (go_at_call 49; refine (all_any H.out.q).mono ?_; rintro e w1 ⟨v1, rfl, f1, u1⟩))
  go_ret
  exact ⟨_, rfl, f1, u1⟩
/-- The id that watches an object. -/
def Rs.byI (s : Rs) (r : Rf) : Option Nat := s.pt.byI r
theorem rfwatches {w : World} {B : RfB} {s : Rs} (h : RfAt w B s) (r : Rf) (hw : refWf r) :
    Calls Try.prog 14 #[.pointer (some ⟨B.b, 0, none⟩), .agg #[.int .i64 r.1, .int .u32 r.2]] w fun e w' => e = .returned (.tuple #[.int .i64 ((s.byI r).getD 0 : Nat), .bool (s.byI r).isSome]) ∧ Upd [] w w' := by
  have u1 : Upd [] w (w.alloc (.cells #[.int .i64 r.1, .int .u32 r.2] 36)) := (Upd.refl _ _).alloc _
  have H := Lib.hid (h.upd0 u1)
  have hN := new_of w (.cells #[.int .i64 r.1, .int .u32 r.2] 36)
  have b0 := cell_of H.out.blk 0
  have n0 := cell_of hN 0
  have n1 := cell_of hN 1
  have D := Lib.hid (H.out.upd0 ((Upd.refl _ _).drew))
  have HU := Lib.hid u1
  obtain ⟨r1, r2⟩ := r
  clear h hN u1
  dsimp only at b0 n0 n1 H D HU ⊢
  go_enter Try.func14, Try.ntmps14
  go_wp2_with (go_at_call 39; refine (rfvalid H.out).mono ?_; rintro e w' ⟨rfl, rfl⟩)
  generalize w.alloc (.cells #[.int .i64 r1, .int .u32 r2] 36) = V at *
  generalize w.heap.size = N at *
  have hbl := lt_of_block H.out.blk
  have hnl := World.block_lt_of_cell? V _ n0
  have KEEP := Lib.hid (show ∀ w', Upd [] V w' → w'.cell? ⟨B.b, 0, none⟩ = some (.pointer (some ⟨B.bo, 0, none⟩)) ∧ w'.cell? ⟨N, 0, none⟩ = some (.int .i64 r1) ∧ w'.cell? ⟨N, 1, none⟩ = some (.int .u32 r2) from fun w' u => ⟨(u.cell (p := ⟨B.b, 0, none⟩) hbl (by simp)).trans b0, (u.cell (p := ⟨N, 0, none⟩) hnl (by simp)).trans n0, (u.cell (p := ⟨N, 1, none⟩) hnl (by simp)).trans n1⟩)
  go_region_held3 (fun w' => w'.cell? ⟨B.b, 0, none⟩ = some (.pointer (some ⟨B.bo, 0, none⟩)) ∧ w'.cell? ⟨N, 0, none⟩ = some (.int .i64 r1) ∧ w'.cell? ⟨N, 1, none⟩ = some (.int .u32 r2)) (first | go_keep | exact ⟨b0, n0, n1⟩ | exact KK) (first | (go_at_call 35; refine (pby D.out.t (r1, r2) hw).mono ?_; rintro e w1 ⟨rfl, u2⟩; have u3 : Upd [] V w1 := ((Upd.refl _ _).drew).trans u2; have KK := KEEP.out _ u3))
  all_goals
    go_wp2
    go_ret2
    exact ⟨rfl, HU.out.trans u3⟩

end Go.Proofs.Ytmbkjnjfipafmaa
