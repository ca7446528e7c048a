/-
  Contracts of the package refq: Poll, Cancel. Conditions: the queue is as New and its own calls leave it.
-/
import Derived.Test.YtmbkjnjfipafmaaRf3
namespace Go.Proofs.Ytmbkjnjfipafmaa
open Go.RowKit Go.Maps

/-- What a reference queue consists of, each part by itself. -/
structure Parts (w : World) (B : RfB) (p : Pt) (q : Qu) (f : Nat → Nat) : Prop where
  blk : w.heap[B.b]? = some (.cells #[.pointer (some ⟨B.bo, 0, none⟩), .pointer (some ⟨B.bq, 0, none⟩), .pointer (some ⟨B.bc, 0, none⟩), .int .i64 p.size] 71 (0, 0))
  t : PtAt w B.bo B.m B.n p
  q : QAt w B.bq q
  c : Cl.ClAt w B.bc B.mc f
  ne : B.mc ≠ B.m ∧ B.mc ≠ B.n
theorem RfAt.parts {w : World} {B : RfB} {s : Rs} (h : RfAt w B s) : Parts w B s.pt s.qu s.cl := ⟨h.blk, h.t, h.q, h.c, h.ne⟩
theorem Parts.rf {w : World} {B : RfB} {s : Rs} (h : Parts w B s.pt s.qu s.cl) (ho : s.ok) : RfAt w B s := ⟨ho, h.blk, h.t, h.q, h.c, h.ne⟩
theorem Parts.upd0 {w w' : World} {B : RfB} {p : Pt} {q : Qu} {f : Nat → Nat} (h : Parts w B p q f) (u : Upd [] w w') : Parts w' B p q f := ⟨u.keep h.blk (by simp), h.t.upd0 u, h.q.upd u (by simp), h.c.upd u (by simp) (by simp), h.ne⟩
theorem Parts.goT {w w' : World} {B : RfB} {p p' : Pt} {q : Qu} {f : Nat → Nat} (h : Parts w B p q f) (u : Upd [B.m, B.n] w w') (t : PtAt w' B.bo B.m B.n p') (hs : p'.size = p.size) : Parts w' B p' q f := by
  obtain ⟨_, hq⟩ := h.q.blk
  obtain ⟨_, hc⟩ := clAt_blk h.c
  exact ⟨by rw [hs]; exact u.keep h.blk (by simp; exact ⟨h.t.nem h.blk, h.t.nen h.blk⟩), t, h.q.upd u (by simp; exact ⟨h.t.nem hq, h.t.nen hq⟩), h.c.upd u (by simp; exact ⟨h.t.nem hc, h.t.nen hc⟩) (by simp; exact h.ne), h.ne⟩
theorem Parts.goQ {w w' : World} {B : RfB} {p : Pt} {q q' : Qu} {f : Nat → Nat} (h : Parts w B p q f) (u : Upd [B.bq] w w') (hq : QAt w' B.bq q') : Parts w' B p q' f := by
  obtain ⟨_, hqb⟩ := h.q.blk
  obtain ⟨_, hcb⟩ := clAt_blk h.c
  exact ⟨u.keep h.blk (by simpa using ne_types h.blk hqb (by decide)), h.t.upd u (by simpa using ne_types h.t.blk hqb (by decide)) (by simpa using fun e : B.m = B.bq => h.t.nem hqb e.symm) (by simpa using fun e : B.n = B.bq => h.t.nen hqb e.symm), hq, h.c.upd u (by simpa using ne_types hcb hqb (by decide)) (by simpa using fun e : B.mc = B.bq => clAt_map h.c hqb e.symm), h.ne⟩
theorem Parts.goC {w w' : World} {B : RfB} {p : Pt} {q : Qu} {f f' : Nat → Nat} (h : Parts w B p q f) (u : Upd [B.mc] w w') (hc : Cl.ClAt w' B.bc B.mc f') : Parts w' B p q f' := by
  obtain ⟨_, hqb⟩ := h.q.blk
  exact ⟨u.keep h.blk (by simpa using clAt_map h.c h.blk), h.t.upd u (by simpa using clAt_map h.c h.t.blk) (by simpa using fun e : B.m = B.mc => h.ne.1 e.symm) (by simpa using fun e : B.n = B.mc => h.ne.2 e.symm), h.q.upd u (by simpa using clAt_map h.c hqb), hc, h.ne⟩
theorem Parts.ptrs {w : World} {B : RfB} {p : Pt} {q : Qu} {f : Nat → Nat} (h : Parts w B p q f) :
    w.cell? ⟨B.b, 0, none⟩ = some (.pointer (some ⟨B.bo, 0, none⟩)) ∧ w.cell? ⟨B.b, 1, none⟩ = some (.pointer (some ⟨B.bq, 0, none⟩)) ∧ w.cell? ⟨B.b, 2, none⟩ = some (.pointer (some ⟨B.bc, 0, none⟩)) :=
  ⟨cell_of h.blk 0, cell_of h.blk 1, cell_of h.blk 2⟩
theorem Parts.notIn {w : World} {B : RfB} {p : Pt} {q : Qu} {g : Nat → Nat} (h : Parts w B p q g) {x : Nat} {c : Array Value} {t : TypeId} {f : Nat × Nat} (hx : w.heap[x]? = some (.cells c t f)) (ht : t ≠ 108) : x ∉ B.S := by
  obtain ⟨_, hq⟩ := h.q.blk
  simp only [RfB.S, List.mem_cons, List.not_mem_nil, or_false, not_or]
  exact ⟨h.t.nem hx, h.t.nen hx, ne_types hx hq ht, clAt_map h.c hx⟩

/-- What 'Poll' answers. -/
def Rs.pollX (s : Rs) : Int := s.l.headD 0
def Rs.pollB (s : Rs) : Bool := !s.l.isEmpty
def Rs.pollS (s : Rs) : Rs := ⟨s.size, s.places, s.g, s.l.tail⟩
theorem cl_poll {s : Rs} (ho : s.ok) {i : Nat} {l' : List Int} (hl : s.l = (i : Int) :: l') (v : Nat) : (Rs.mk s.size s.places s.g l').cl = upd (upd s.cl i v) i 0 := by
  have hnd := ho.nodup
  rw [hl] at hnd
  have hni : (i : Int) ∉ l' := (List.nodup_cons.1 hnd).1
  have hgi : ¬ (s.g i).isSome = true := fun h => ho.apart i h (by rw [hl]; simp)
  funext j
  unfold upd
  by_cases e : j = i
  · subst e
    rw [if_pos rfl]
    unfold Rs.cl
    rw [if_neg (by simp only [not_or]; exact ⟨hgi, hni⟩)]
  · rw [if_neg e, if_neg e]
    unfold Rs.cl
    have h2 : ((j : Int) ∈ s.l) ↔ (j : Int) ∈ l' := by rw [hl, List.mem_cons]; exact ⟨fun h => h.resolve_left (by omega), .inr⟩
    simp only [h2]
theorem poll_ok {s : Rs} (ho : s.ok) : s.pollS.ok :=
  ⟨ho.nodup.sublist (List.tail_sublist _), fun i h hm => ho.apart i h (List.mem_of_mem_tail hm), fun x hx => ho.lt x (List.mem_of_mem_tail hx)⟩
theorem rfpoll {w : World} {B : RfB} {s : Rs} (h : RfAt w B s) :
    Calls Try.prog 16 #[.pointer (some ⟨B.b, 0, none⟩)] w fun e w' => e = .returned (.tuple #[.int .i64 s.pollX, .bool s.pollB]) ∧ RfAt w' B s.pollS ∧ Upd B.S w w' := by
  have H := Lib.hid h
  have P0 := Lib.hid h.parts
  obtain ⟨-, d1, -⟩ := h.ptrs
  have hpo := poll_any h.q
  have hok := h.ok
  have hs := h.szs
  clear h
  cases hl : s.l with
  | nil =>
    have e1 : s.qu.pollX = 0 := by show s.l.headD 0 = 0; rw [hl]; rfl
    have e2 : s.qu.pollB = false := by show (!s.l.isEmpty) = false; rw [hl]; rfl
    have e3 : s.qu.pollS = s.pollS.qu := rfl
    have e4 : s.pollX = 0 := e1
    have e5 : s.pollB = false := e2
    have e6 : s.pollS.cl = s.cl := by
      show (Rs.mk s.size s.places s.g s.l.tail).cl = _
      funext j; unfold Rs.cl; simp only [hl, List.tail_nil]
    rw [e1, e2, e3] at hpo
    have HPO := Lib.hid hpo
    have E4 := Lib.hid e4; have E5 := Lib.hid e5; have E6 := Lib.hid e6; have HOK := Lib.hid hok
    clear hpo e1 e2 e3 e4 e5 e6 hok hl hs
    go_enter Try.func16, Try.ntmps16
    go_wp2_with (go_at_call 39; refine (rfvalid H.out).mono ?_; rintro e w' ⟨rfl, rfl⟩)
    go_wp2_with fail
    refine HPO.out.mono ?_; rintro e w1 ⟨rfl, q1, u1⟩
    go_wp2_with fail
    go_ret2
    have P1 := P0.out.goQ u1 q1
    rw [← E6.out] at P1
    exact ⟨by rw [E4.out, E5.out]; rfl, P1.rf (poll_ok HOK.out), u1.mono (by simp [RfB.S])⟩
  | cons x l' =>
    have hx := hok.lt x (by rw [hl]; simp)
    obtain ⟨i, rfl⟩ := Int.eq_ofNat_of_zero_le hx.1
    have hi : i < 256 := by omega
    have e1 : s.qu.pollX = i := by show s.l.headD 0 = i; rw [hl]; rfl
    have e2 : s.qu.pollB = true := by show (!s.l.isEmpty) = true; rw [hl]; rfl
    have e3 : s.qu.pollS = s.pollS.qu := rfl
    have e4 : s.pollX = i := e1
    have e5 : s.pollB = true := e2
    have e6 : s.pollS.cl = upd (upd s.cl i 2) i 0 := by
      have := cl_poll hok hl 2
      rw [← this]; show (Rs.mk s.size s.places s.g s.l.tail).cl = _; rw [hl]; rfl
    have e7 : s.cl i = 1 := by unfold Rs.cl; rw [if_pos (.inr (by rw [hl]; simp))]
    rw [e1, e2, e3] at hpo
    have HPO := Lib.hid hpo
    have E4 := Lib.hid e4; have E5 := Lib.hid e5; have E6 := Lib.hid e6; have E7 := Lib.hid e7; have HOK := Lib.hid hok
    clear hpo e1 e2 e3 e4 e5 e6 e7 hok hl hs hx
    go_enter Try.func16, Try.ntmps16
    go_wp2_with (go_at_call 39; refine (rfvalid H.out).mono ?_; rintro e w' ⟨rfl, rfl⟩)
    go_wp2_with fail
    refine HPO.out.mono ?_; rintro e w1 ⟨rfl, q1, u1⟩
    have p1 := P0.out.goQ u1 q1
    obtain ⟨-, -, d2⟩ := p1.ptrs
    have P1 := Lib.hid p1
    have U1 := Lib.hid (u1.mono (T := B.S) (by simp [RfB.S]))
    clear p1 q1 u1 d1
    go_wp2_with fail
    refine (Cl.fire_armed _ _ _ i _ P1.out.c hi E7.out).mono ?_; rintro e w2 ⟨rfl, c2, u2⟩
    have p2 := P1.out.goC u2 c2
    obtain ⟨-, -, d3⟩ := p2.ptrs
    have P2 := Lib.hid p2
    have U2 := Lib.hid (U1.out.trans (u2.mono (T := B.S) (by simp [RfB.S])))
    clear p2 c2 u2 d2
    go_wp2_with fail
    refine (Cl.forget_done _ _ _ i _ P2.out.c hi (by rw [upd_same]; decide) (by rw [upd_same]; decide)).mono ?_; rintro e w3 ⟨rfl, c3, u3⟩
    have p3 := P2.out.goC u3 c3
    rw [← E6.out] at p3
    have P3 := Lib.hid p3
    have U3 := Lib.hid (U2.out.trans (u3.mono (T := B.S) (by simp [RfB.S])))
    clear p3 c3 u3 d3
    go_wp2_with fail
    go_ret2
    exact ⟨by rw [E4.out, E5.out]; rfl, Parts.rf (s := s.pollS) P3.out (poll_ok HOK.out), U3.out⟩

/-- What 'Cancel' answers. -/
def Rs.canB (s : Rs) (id : Int) : Bool := decide (0 ≤ id ∧ id < s.size) && decide (s.cl id.toNat ≠ 0)
def Rs.canE (s : Rs) (id : Int) : Int := if 0 ≤ id ∧ id < s.size then 0 else 3
def Rs.remS (s : Rs) (i : Nat) : Rs := ⟨s.size, s.places, Go.Proofs.Ytmbkjnjfipafmaa.setG s.g i none, s.l.erase (i : Int)⟩
def Rs.canS (s : Rs) (id : Int) : Rs := if s.canB id = true then s.remS id.toNat else s
theorem remS_erase (q : Qu) (id : Int) : q.remS id = ⟨q.size, q.l.erase id⟩ := by
  unfold Qu.remS fnd
  rw [List.erase_eq_eraseIdx]
  unfold List.idxOf?
  cases q.l.findIdx? (· == id) <;> rfl
theorem cl_rem {s : Rs} (ho : s.ok) (i v : Nat) : (s.remS i).cl = upd (upd s.cl i v) i 0 := by
  funext j
  unfold upd
  by_cases e : j = i
  · subst e
    rw [if_pos rfl]
    unfold Rs.cl Rs.remS
    rw [if_neg (by simp only [not_or]; exact ⟨by rw [setG_same]; decide, ho.nodup.not_mem_erase⟩)]
  · rw [if_neg e, if_neg e]
    unfold Rs.cl Rs.remS
    have h2 : ((j : Int) ∈ s.l.erase (i : Int)) ↔ (j : Int) ∈ s.l := List.mem_erase_of_ne (by omega)
    simp only [setG_other _ _ e, h2]
theorem rem_ok {s : Rs} (ho : s.ok) (i : Nat) : (s.remS i).ok := by
  refine ⟨ho.nodup.erase _, fun j hj hm => ?_, fun x hx => ho.lt x (List.mem_of_mem_erase hx)⟩
  by_cases e : j = i
  · subst e; simp [Rs.remS, setG_same] at hj
  · exact ho.apart j (by simpa [Rs.remS, setG_other _ _ e] using hj) (List.mem_of_mem_erase hm)

end Go.Proofs.Ytmbkjnjfipafmaa
