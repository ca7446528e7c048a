/-
  Contracts of the package cleaner: a table in memory whose ids have states. Conditions: the table is as New and its own calls leave it.
-/
import Derived.Test.YtmbkjnjfipafmaaRows
import Derived.Test.YtmbkjnjfipafmaaClnPlain
import Derived.Handy
import Derived.Shelf.SlMaps.Clone
namespace Go.Proofs.Ytmbkjnjfipafmaa.Cl
open Go.RowKit Go.Maps

theorem law3 : Keyed Try.prog 3 := int_keyed Try.underlying3
theorem zero3 (w : World) : (zeroValue 3).run Try.prog w = .ok (.int .i64 0) w := by kernel_rfl

/-- Block b is a table of cleaners with the states f. -/
def ClAt (w : World) (b m : Nat) (f : Nat → Nat) : Prop :=
  ∃ D, w.heap[b]? = some (.cells #[.map (some m)] 105 (0, 0)) ∧ w.ownsMap (H := Unit) Try.prog 3 (plainElem Try.prog 3) m 256 D ∧ Reads D f

theorem ClAt.lt {w : World} {b m : Nat} {f : Nat → Nat} (h : ClAt w b m f) : b < w.heap.size := by
  obtain ⟨_, h1, _⟩ := h
  exact lt_of_block h1
theorem ClAt.small {w : World} {b m : Nat} {f : Nat → Nat} (h : ClAt w b m f) : ∀ i, i < 256 → f i ≤ 3 := by
  obtain ⟨_, _, _, h3⟩ := h
  exact h3.small

theorem ClAt.ne {w : World} {b m : Nat} {f : Nat → Nat} (h : ClAt w b m f) : b ≠ m := by
  rintro rfl
  obtain ⟨D, hb, ⟨es, c, hm, _⟩, _⟩ := h
  rw [hb] at hm; simp at hm
theorem ClAt.mlt {w : World} {b m : Nat} {f : Nat → Nat} (h : ClAt w b m f) : m < w.heap.size := by
  obtain ⟨_, _, h1, _⟩ := h
  exact h1.lt
theorem ClAt.upd {w w' : World} {b m : Nat} {f : Nat → Nat} (h : ClAt w b m f) {S : List Nat} (u : Upd S w w') (hb : b ∉ S) (hm : m ∉ S) : ClAt w' b m f := by
  obtain ⟨D, h1, h2, h3⟩ := h
  exact ⟨D, u.keep h1 hb, owns_upd_map h2 u hm, h3⟩
/-- Another table's map was written. -/
theorem ClAt.keep {w w' : World} {b m b2 m2 : Nat} {f g : Nat → Nat} (h : ClAt w b m f) (h2 : ClAt w b2 m2 g) (hne : m ≠ m2) (u : Upd [m2] w w') : ClAt w' b m f := by
  have hb : b ≠ m2 := by
    rintro rfl
    obtain ⟨_, hb, _⟩ := h
    obtain ⟨_, _, ⟨es, c, hm, _⟩, _⟩ := h2
    rw [hb] at hm; simp at hm
  exact h.upd u (by simpa using hb) (by simpa using hne)

theorem find_beyond (b m : Nat) (f : Nat → Nat) (id : Int) (w : World) (h : ClAt w b m f) (hi : id < 0 ∨ 256 ≤ id) :
    Calls Try.prog 67 #[.pointer (some ⟨b, 0, none⟩), .int .i64 id] w fun e w' => e = .returned (.tuple #[.int .i64 0, .int .i64 3]) ∧ w = w' := by
  obtain ⟨D, hb, _, _⟩ := h
  have c0 := cell_of hb 0
  clear hb
  have q := fun (w : World) => run_eql_map_nil (P := Try.prog) w 26 3 3 (some m) Try.underlying26
  rcases hi with hi | hi
  · go_enter Try.func67, Try.ntmps67
    go_wp2
    go_ret2
    exact ⟨rfl, rfl⟩
  · have h' : ¬ id < 0 := by omega
    go_enter Try.func67, Try.ntmps67
    go_wp2
    go_ret2
    exact ⟨rfl, rfl⟩

/-- What 'find' says of an id that there is. -/
def findE (f : Nat → Nat) (i : Nat) : Int := if f i = 0 then 5 else 0

set_option maxRecDepth 100000 in
theorem find_in (b m : Nat) (f : Nat → Nat) (i : Nat) (w : World) (h : ClAt w b m f) (hi : i < 256) :
    Calls Try.prog 67 #[.pointer (some ⟨b, 0, none⟩), .int .i64 i] w fun e w' => e = .returned (.tuple #[.int .i64 (f i), .int .i64 (findE f i)]) ∧ w = w' := by
  obtain ⟨D, hb, hown, hr⟩ := h
  have c0 := cell_of hb 0
  clear hb
  have q := fun (w : World) => run_eql_map_nil (P := Try.prog) w 26 3 3 (some m) Try.underlying26
  have hhas := hr.has i hi
  have hat0 := hr.at_ i hi (.lit (.int .i64 0))
  have h0 : (0 : Int) ≤ i := by omega
  have h1 : (i : Int) < 256 := by omega
  have hkey : keyOf Try.prog 3 (.int .i64 (i : Int)) = some (.int .i64 (i : Int)) := keyOf_int_mk Try.underlying3 (WalkArith.wf_i64 (by omega))
  have HH := Lib.hid hhas; clear hhas
  have HAT := Lib.hid hat0; clear hat0
  have HK := Lib.hid hkey; clear hkey
  have HOWN := Lib.hid hown; clear hown
  by_cases hz : f i = 0
  · have HZ := Lib.hid hz; clear hz
    go_enter Try.func67, Try.ntmps67
    go_wp2_with (at_lookup; refine wpList_lookup_own_ok_int _ rfl _ _ 26 rfl 3 3 .i64 law3 Try.underlying26 Try.underlying3 (zero3 _) m 256 D rfl HOWN.out _ _ rfl HK.out ?_; intro c hat _; rw [HH.out, HZ.out]; have HC := Lib.hid hat; clear hat)
    go_ret2
    exact ⟨by rw [findE, HZ.out]; rfl, rfl⟩
  · have HZ := Lib.hid hz; clear hz
    have hd : decide (f i ≠ 0) = true := by simpa using HZ.out
    have HD := Lib.hid hd; clear hd
    go_enter Try.func67, Try.ntmps67
    go_wp2_with (at_lookup; refine wpList_lookup_own_ok_int _ rfl _ _ 26 rfl 3 3 .i64 law3 Try.underlying26 Try.underlying3 (zero3 _) m 256 D rfl HOWN.out _ _ rfl HK.out ?_; intro c hat _; rw [HH.out, HD.out]; have HC := Lib.hid hat; clear hat)
    go_ret2
    refine ⟨?_, rfl⟩
    have h2 := HC.out
    rw [HAT.out, if_neg HZ.out] at h2
    simp at h2
    rw [findE, if_neg HZ.out, ← h2]; rfl

theorem find_none (w : World) (id : Int) : Calls Try.prog 67 #[.pointer none, .int .i64 id] w fun e w' => e = .returned (.tuple #[.int .i64 0, .int .i64 1]) ∧ w = w' := by
  go_enter Try.func67, Try.ntmps67
  go_wp2
  go_ret2
  exact ⟨rfl, rfl⟩
theorem find_zero (w : World) (b : Nat) (id : Int) (hc : w.cell? ⟨b, 0, none⟩ = some (.map none)) : Calls Try.prog 67 #[.pointer (some ⟨b, 0, none⟩), .int .i64 id] w fun e w' => e = .returned (.tuple #[.int .i64 0, .int .i64 1]) ∧ w = w' := by
  have q := fun (w : World) => run_eql_map_nil (P := Try.prog) w 26 3 3 none Try.underlying26
  go_enter Try.func67, Try.ntmps67
  go_wp2
  go_ret2
  exact ⟨rfl, rfl⟩

theorem new_at (w : World) : Calls Try.prog 54 #[] w fun e w' => e = .returned (.pointer (some ⟨w.heap.size + 1, 0, none⟩)) ∧ ClAt w' (w.heap.size + 1) w.heap.size (fun _ => 0) ∧ Upd [] w w' := by
  have hmm := @run_makeMap Try.prog
  go_enter Try.func54, Try.ntmps54
  go_wp2
  go_ret
  refine ⟨rfl, ⟨.map [], ?_, ?_, reads_empty⟩, ((Upd.refl _ _).alloc _).alloc _⟩
  · have := new_of (w.alloc (.map #[] 0)) (.cells #[.map (some w.heap.size)] 105)
    simpa using this
  · exact ((World.ownsMap_made w _ _ _).mono (by omega)).alloc _

theorem arm_have (b m : Nat) (f : Nat → Nat) (i : Nat) (w : World) (h : ClAt w b m f) (hi : i < 256) (hf : f i ≠ 0) :
    Calls Try.prog 38 #[.pointer (some ⟨b, 0, none⟩), .int .i64 i] w fun e w' => e = .returned (.int .i64 6) ∧ w = w' := by
  have H := Lib.hid h; clear h
  have hE : findE f i = 0 := by rw [findE, if_neg hf]
  have HE := Lib.hid hE; clear hE hf
  go_enter Try.func38, Try.ntmps38
  go_wp2_with (go_at_call 67; refine (find_in b m f i _ H.out hi).mono ?_; rw [HE.out]; rintro e w' ⟨rfl, rfl⟩)
  go_ret
  exact ⟨rfl, rfl⟩
theorem arm_beyond (b m : Nat) (f : Nat → Nat) (id : Int) (w : World) (h : ClAt w b m f) (hi : id < 0 ∨ 256 ≤ id) :
    Calls Try.prog 38 #[.pointer (some ⟨b, 0, none⟩), .int .i64 id] w fun e w' => e = .returned (.int .i64 3) ∧ w = w' := by
  have H := Lib.hid h; clear h
  have HI := Lib.hid hi; clear hi
  go_enter Try.func38, Try.ntmps38
  go_wp2_with (go_at_call 67; refine (find_beyond b m f id _ H.out HI.out).mono ?_; rintro e w' ⟨rfl, rfl⟩)
  go_ret
  exact ⟨rfl, rfl⟩
theorem arm_new (b m : Nat) (f : Nat → Nat) (i : Nat) (w : World) (h : ClAt w b m f) (hi : i < 256) (hf : f i = 0) :
    Calls Try.prog 38 #[.pointer (some ⟨b, 0, none⟩), .int .i64 i] w fun e w' => e = .returned (.int .i64 0) ∧ ClAt w' b m (upd f i 1) ∧ Upd [m] w w' := by
  have H := Lib.hid h
  obtain ⟨D, hb, hown, hr⟩ := h
  have c0 := cell_of hb 0
  have hE : findE f i = 5 := by rw [findE, if_pos hf]
  have HE := Lib.hid hE; clear hE hf
  have hkey : keyOf Try.prog 3 (.int .i64 (i : Int)) = some (.int .i64 (i : Int)) := keyOf_int_mk Try.underlying3 (WalkArith.wf_i64 (by omega))
  have HK := Lib.hid hkey; clear hkey
  have HOWN := Lib.hid hown; clear hown
  have HB := Lib.hid hb; clear hb
  go_enter Try.func38, Try.ntmps38
  go_wp2_with (first | (go_at_call 67; refine (find_in b m f i _ H.out hi).mono ?_; rw [HE.out]; rintro e w' ⟨rfl, rfl⟩) | (at_mapUpdate; refine wpList_mapUpdate_in _ rfl _ _ _ 26 rfl 3 3 law3 Try.underlying26 _ m 256 D rfl HOWN.out (by unfold maxLen; omega) _ _ _ rfl rfl HK.out _ [] (plainElem_int Try.underlying3 (by decide)) ?_; intro w1 hown1 hturn1))
  go_ret
  have ht := HOWN.out.tidy law3
  have hr1 := hr.put ht (v := 1) hi (by omega) (by omega)
  have u : Upd [m] w w1 := (Upd.refl [m] w).turned hturn1 (by simp)
  exact ⟨rfl, ⟨_, u.keep HB.out (by simpa using H.out.ne), owns_tight hown1 (Nat.le_trans (Nat.le_of_eq hr1.size) (cntP_le _ _)), hr1⟩, u⟩

theorem end_not (b m : Nat) (f : Nat → Nat) (i : Nat) (s : Int) (w : World) (h : ClAt w b m f) (hi : i < 256) (hf : f i ≠ 1) :
    Calls Try.prog 71 #[.pointer (some ⟨b, 0, none⟩), .int .i64 i, .int .i64 s] w fun e w' => e = .returned (.tuple #[.bool false, .int .i64 (findE f i)]) ∧ w = w' := by
  have H := Lib.hid h; clear h
  have hf1 : ((f i : Int) == 1) = false := by simpa using (by omega : (f i : Int) ≠ 1)
  have hf2 : ((f i : Int) != 1) = true := by simpa using (by omega : (f i : Int) ≠ 1)
  by_cases hz : f i = 0
  · have hE : findE f i = 5 := by rw [findE, if_pos hz]
    rw [hE]
    have HE := Lib.hid hE; clear hE
    have HZ := Lib.hid hz; clear hz hf hf1 hf2
    go_enter Try.func71, Try.ntmps71
    go_wp2_with (go_at_call 67; refine (find_in b m f i _ H.out hi).mono ?_; rw [HE.out]; rintro e w' ⟨rfl, rfl⟩)
    go_ret2
    exact ⟨rfl, rfl⟩
  · have hE : findE f i = 0 := by rw [findE, if_neg hz]
    rw [hE]
    have HE := Lib.hid hE; clear hE
    clear hz hf
    go_enter Try.func71, Try.ntmps71
    go_wp2_with (go_at_call 67; refine (find_in b m f i _ H.out hi).mono ?_; rw [HE.out]; rintro e w' ⟨rfl, rfl⟩)
    go_ret2
    exact ⟨rfl, rfl⟩
theorem end_beyond (b m : Nat) (f : Nat → Nat) (id s : Int) (w : World) (h : ClAt w b m f) (hi : id < 0 ∨ 256 ≤ id) :
    Calls Try.prog 71 #[.pointer (some ⟨b, 0, none⟩), .int .i64 id, .int .i64 s] w fun e w' => e = .returned (.tuple #[.bool false, .int .i64 3]) ∧ w = w' := by
  have H := Lib.hid h; clear h
  have HI := Lib.hid hi; clear hi
  go_enter Try.func71, Try.ntmps71
  go_wp2_with (go_at_call 67; refine (find_beyond b m f id _ H.out HI.out).mono ?_; rintro e w' ⟨rfl, rfl⟩)
  go_ret2
  exact ⟨rfl, rfl⟩
theorem end_armed (b m : Nat) (f : Nat → Nat) (i s : Nat) (w : World) (h : ClAt w b m f) (hi : i < 256) (hf : f i = 1) (hs0 : s ≠ 0) (hs : s ≤ 3) :
    Calls Try.prog 71 #[.pointer (some ⟨b, 0, none⟩), .int .i64 i, .int .i64 s] w fun e w' => e = .returned (.tuple #[.bool true, .int .i64 0]) ∧ ClAt w' b m (upd f i s) ∧ Upd [m] w w' := by
  have H := Lib.hid h
  obtain ⟨D, hb, hown, hr⟩ := h
  have c0 := cell_of hb 0
  have hE : findE f i = 0 := by rw [findE, hf]; rfl
  have HE := Lib.hid hE; clear hE
  have HF := Lib.hid hf; clear hf
  have hkey : keyOf Try.prog 3 (.int .i64 (i : Int)) = some (.int .i64 (i : Int)) := keyOf_int_mk Try.underlying3 (WalkArith.wf_i64 (by omega))
  have HK := Lib.hid hkey; clear hkey
  have HOWN := Lib.hid hown; clear hown
  have HB := Lib.hid hb; clear hb
  have HS := Lib.hid hs0; clear hs0
  go_enter Try.func71, Try.ntmps71
  go_wp2_with (first | (go_at_call 67; refine (find_in b m f i _ H.out hi).mono ?_; rw [HE.out, HF.out]; rintro e w' ⟨rfl, rfl⟩) | (at_mapUpdate; refine wpList_mapUpdate_in _ rfl _ _ _ 26 rfl 3 3 law3 Try.underlying26 _ m 256 D rfl HOWN.out (by unfold maxLen; omega) _ _ _ rfl rfl HK.out _ [] (plainElem_int Try.underlying3 (WalkArith.wf_i64 (by omega))) ?_; intro w1 hown1 hturn1))
  go_ret2
  have ht := HOWN.out.tidy law3
  have hr1 := hr.put ht (v := s) hi hs HS.out
  have u : Upd [m] w w1 := (Upd.refl [m] w).turned hturn1 (by simp)
  exact ⟨rfl, ⟨_, u.keep HB.out (by simpa using H.out.ne), owns_tight hown1 (Nat.le_trans (Nat.le_of_eq hr1.size) (cntP_le _ _)), hr1⟩, u⟩

theorem fire_beyond (b m : Nat) (f : Nat → Nat) (id : Int) (w : World) (h : ClAt w b m f) (hi : id < 0 ∨ 256 ≤ id) :
    Calls Try.prog 44 #[.pointer (some ⟨b, 0, none⟩), .int .i64 id] w fun e w' => e = .returned (.tuple #[.bool false, .int .i64 3]) ∧ w = w' := by
  have H := Lib.hid h; clear h
  have HI := Lib.hid hi; clear hi
  go_enter Try.func44, Try.ntmps44
  go_wp2_with (go_at_call 71; refine (end_beyond b m f id 2 _ H.out HI.out).mono ?_; rintro e w' ⟨rfl, rfl⟩)
  go_ret2
  exact ⟨rfl, rfl⟩
theorem fire_not (b m : Nat) (f : Nat → Nat) (i : Nat) (w : World) (h : ClAt w b m f) (hi : i < 256) (hf : f i ≠ 1) :
    Calls Try.prog 44 #[.pointer (some ⟨b, 0, none⟩), .int .i64 i] w fun e w' => e = .returned (.tuple #[.bool false, .int .i64 (findE f i)]) ∧ w = w' := by
  have H := Lib.hid h; clear h
  have HF := Lib.hid hf; clear hf
  go_enter Try.func44, Try.ntmps44
  go_wp2_with (go_at_call 71; refine (end_not b m f i 2 _ H.out hi HF.out).mono ?_; rintro e w' ⟨rfl, rfl⟩)
  go_ret2
  exact ⟨rfl, rfl⟩
theorem fire_armed (b m : Nat) (f : Nat → Nat) (i : Nat) (w : World) (h : ClAt w b m f) (hi : i < 256) (hf : f i = 1) :
    Calls Try.prog 44 #[.pointer (some ⟨b, 0, none⟩), .int .i64 i] w fun e w' => e = .returned (.tuple #[.bool true, .int .i64 0]) ∧ ClAt w' b m (upd f i 2) ∧ Upd [m] w w' := by
  have H := Lib.hid h; clear h
  have HF := Lib.hid hf; clear hf
  go_enter Try.func44, Try.ntmps44
  go_wp2_with (go_at_call 71; refine (end_armed b m f i 2 _ H.out hi HF.out (by omega) (by omega)).mono ?_; rintro e w' ⟨rfl, a, u⟩)
  go_ret2
  exact ⟨rfl, a, u⟩
theorem cancel_beyond (b m : Nat) (f : Nat → Nat) (id : Int) (w : World) (h : ClAt w b m f) (hi : id < 0 ∨ 256 ≤ id) :
    Calls Try.prog 48 #[.pointer (some ⟨b, 0, none⟩), .int .i64 id] w fun e w' => e = .returned (.tuple #[.bool false, .int .i64 3]) ∧ w = w' := by
  have H := Lib.hid h; clear h
  have HI := Lib.hid hi; clear hi
  go_enter Try.func48, Try.ntmps48
  go_wp2_with (go_at_call 71; refine (end_beyond b m f id 3 _ H.out HI.out).mono ?_; rintro e w' ⟨rfl, rfl⟩)
  go_ret2
  exact ⟨rfl, rfl⟩
theorem cancel_not (b m : Nat) (f : Nat → Nat) (i : Nat) (w : World) (h : ClAt w b m f) (hi : i < 256) (hf : f i ≠ 1) :
    Calls Try.prog 48 #[.pointer (some ⟨b, 0, none⟩), .int .i64 i] w fun e w' => e = .returned (.tuple #[.bool false, .int .i64 (findE f i)]) ∧ w = w' := by
  have H := Lib.hid h; clear h
  have HF := Lib.hid hf; clear hf
  go_enter Try.func48, Try.ntmps48
  go_wp2_with (go_at_call 71; refine (end_not b m f i 3 _ H.out hi HF.out).mono ?_; rintro e w' ⟨rfl, rfl⟩)
  go_ret2
  exact ⟨rfl, rfl⟩
theorem cancel_armed (b m : Nat) (f : Nat → Nat) (i : Nat) (w : World) (h : ClAt w b m f) (hi : i < 256) (hf : f i = 1) :
    Calls Try.prog 48 #[.pointer (some ⟨b, 0, none⟩), .int .i64 i] w fun e w' => e = .returned (.tuple #[.bool true, .int .i64 0]) ∧ ClAt w' b m (upd f i 3) ∧ Upd [m] w w' := by
  have H := Lib.hid h; clear h
  have HF := Lib.hid hf; clear hf
  go_enter Try.func48, Try.ntmps48
  go_wp2_with (go_at_call 71; refine (end_armed b m f i 3 _ H.out hi HF.out (by omega) (by omega)).mono ?_; rintro e w' ⟨rfl, a, u⟩)
  go_ret2
  exact ⟨rfl, a, u⟩
theorem forget_beyond (b m : Nat) (f : Nat → Nat) (id : Int) (w : World) (h : ClAt w b m f) (hi : id < 0 ∨ 256 ≤ id) :
    Calls Try.prog 45 #[.pointer (some ⟨b, 0, none⟩), .int .i64 id] w fun e w' => e = .returned (.int .i64 3) ∧ w = w' := by
  have H := Lib.hid h; clear h
  have HI := Lib.hid hi; clear hi
  go_enter Try.func45, Try.ntmps45
  go_wp2_with (go_at_call 67; refine (find_beyond b m f id _ H.out HI.out).mono ?_; rintro e w' ⟨rfl, rfl⟩)
  go_ret
  exact ⟨rfl, rfl⟩
theorem forget_none (b m : Nat) (f : Nat → Nat) (i : Nat) (w : World) (h : ClAt w b m f) (hi : i < 256) (hf : f i = 0) :
    Calls Try.prog 45 #[.pointer (some ⟨b, 0, none⟩), .int .i64 i] w fun e w' => e = .returned (.int .i64 5) ∧ w = w' := by
  have H := Lib.hid h; clear h
  have hE : findE f i = 5 := by rw [findE, if_pos hf]
  have HE := Lib.hid hE; clear hE hf
  go_enter Try.func45, Try.ntmps45
  go_wp2_with (go_at_call 67; refine (find_in b m f i _ H.out hi).mono ?_; rw [HE.out]; rintro e w' ⟨rfl, rfl⟩)
  go_ret
  exact ⟨rfl, rfl⟩
theorem forget_armed (b m : Nat) (f : Nat → Nat) (i : Nat) (w : World) (h : ClAt w b m f) (hi : i < 256) (hf : f i = 1) :
    Calls Try.prog 45 #[.pointer (some ⟨b, 0, none⟩), .int .i64 i] w fun e w' => e = .returned (.int .i64 8) ∧ w = w' := by
  have H := Lib.hid h; clear h
  have hE : findE f i = 0 := by rw [findE, hf]; rfl
  have HE := Lib.hid hE; clear hE
  have HF := Lib.hid hf; clear hf
  go_enter Try.func45, Try.ntmps45
  go_wp2_with (go_at_call 67; refine (find_in b m f i _ H.out hi).mono ?_; rw [HE.out, HF.out]; rintro e w' ⟨rfl, rfl⟩)
  go_ret
  exact ⟨rfl, rfl⟩
theorem forget_done (b m : Nat) (f : Nat → Nat) (i : Nat) (w : World) (h : ClAt w b m f) (hi : i < 256) (hf : f i ≠ 0) (hf1 : f i ≠ 1) :
    Calls Try.prog 45 #[.pointer (some ⟨b, 0, none⟩), .int .i64 i] w fun e w' => e = .returned (.int .i64 0) ∧ ClAt w' b m (upd f i 0) ∧ Upd [m] w w' := by
  have H := Lib.hid h
  obtain ⟨D, hb, hown, hr⟩ := h
  have c0 := cell_of hb 0
  have hE : findE f i = 0 := by rw [findE, if_neg hf]
  have HE := Lib.hid hE; clear hE
  have hb1 : ((f i : Int) == 1) = false := by simpa using (by omega : (f i : Int) ≠ 1)
  have hkey : keyOf Try.prog 3 (.int .i64 (i : Int)) = some (.int .i64 (i : Int)) := keyOf_int_mk Try.underlying3 (WalkArith.wf_i64 (by omega))
  have HK := Lib.hid hkey; clear hkey
  have HOWN := Lib.hid hown; clear hown
  have HB := Lib.hid hb; clear hb
  clear hf hf1
  go_enter Try.func45, Try.ntmps45
  go_wp2_with (first | (go_at_call 67; refine (find_in b m f i _ H.out hi).mono ?_; rw [HE.out]; rintro e w' ⟨rfl, rfl⟩) | (at_delete; refine wpList_delete_own _ rfl _ _ 26 3 rfl 3 law3 Try.underlying26 _ m 256 D rfl HOWN.out _ _ rfl HK.out ?_; intro w1 hown1 hturn1))
  go_ret
  have hr1 := hr.del (HOWN.out.tidy law3) hi
  have u : Upd [m] w w1 := (Upd.refl [m] w).turned hturn1 (by simp)
  exact ⟨rfl, ⟨_, u.keep HB.out (by simpa using H.out.ne), owns_tight hown1 (Nat.le_trans (Nat.le_of_eq hr1.size) (cntP_le _ _)), hr1⟩, u⟩

set_option maxRecDepth 100000 in
theorem clone_at (m : Nat) (D : DataW Unit) (w : World) (hown : w.ownsMap (H := Unit) Try.prog 3 (plainElem Try.prog 3) m 256 D) :
    Calls Try.prog 80 #[.map (some m)] w fun e w' => e = .returned (.map (some w.heap.size)) ∧ w'.ownsMap (H := Unit) Try.prog 3 (plainElem Try.prog 3) w.heap.size 256 D ∧ Upd [] w w' := by
  obtain ⟨es, clock, hb, F, hs, hD⟩ := hown
  have hq := fun (w : World) => run_eql_map_nil (P := Try.prog) w 26 3 3 (some m) Try.underlying26
  go_enter Try.func80, Try.ntmps80
  go_wp2
  rw [run_callFunc_extern Try.func81 (by kernel_rfl) (by kernel_rfl) (by kernel_rfl) (e := Extern.MapsClone.clone) (by kernel_rfl), run_maps_clone_sl w 26 hb]
  simp only [Result.andThen]
  rw [Oper.upon_value]
  go_wp2
  rw [run_typeAssert_map_sl _ 26 20 _ _ _ Try.underlying26]
  simp only [Result.andThen]
  rw [Oper.upon_value]
  go_wp2
  go_ret
  exact ⟨rfl, ⟨es, clock, new_of _ _, F, hs, hD⟩, (Upd.refl _ _).alloc _⟩

theorem get_in (b m : Nat) (f : Nat → Nat) (i : Nat) (w : World) (h : ClAt w b m f) (hi : i < 256) (hf : f i ≠ 0) :
    Calls Try.prog 65 #[.pointer (some ⟨b, 0, none⟩), .int .i64 i] w fun e w' => e = .returned (.tuple #[.agg #[.int .i64 i, .int .i64 (f i)], .int .i64 0]) ∧ Upd [] w w' := by
  have H := Lib.hid h; clear h
  have hE : findE f i = 0 := by rw [findE, if_neg hf]
  have HE := Lib.hid hE; clear hE hf
  go_enter Try.func65, Try.ntmps65
  go_wp2_with (go_at_call 67; refine (find_in b m f i _ (H.out.upd ((Upd.refl [] w).alloc _) (by simp) (by simp)) hi).mono ?_; rw [HE.out]; rintro e w' ⟨rfl, rfl⟩)
  go_returns
  exact ⟨rfl, (Upd.refl _ _).alloc _⟩
theorem get_err (b : Nat) (id e : Int) (w : World) (he : e = 5 ∨ e = 3) (h : Calls Try.prog 67 #[.pointer (some ⟨b, 0, none⟩), .int .i64 id] (w.alloc (.cells #[.int .i64 0, .int .i64 0] 99)) fun r w' => r = .returned (.tuple #[.int .i64 0, .int .i64 e]) ∧ w.alloc (.cells #[.int .i64 0, .int .i64 0] 99) = w') :
    Calls Try.prog 65 #[.pointer (some ⟨b, 0, none⟩), .int .i64 id] w fun r w' => r = .returned (.tuple #[.agg #[.int .i64 0, .int .i64 0], .int .i64 e]) ∧ Upd [] w w' := by
  have H := Lib.hid h; clear h
  have h2 : (e == 0) = false := by rcases he with rfl | rfl <;> rfl
  have h3 : (e != 0) = true := by rcases he with rfl | rfl <;> rfl
  clear he
  go_enter Try.func65, Try.ntmps65
  go_wp2_with (go_at_call 67; refine H.out.mono ?_; rintro e w' ⟨rfl, rfl⟩)
  go_returns
  exact ⟨rfl, (Upd.refl _ _).alloc _⟩
theorem get_none (b m : Nat) (f : Nat → Nat) (i : Nat) (w : World) (h : ClAt w b m f) (hi : i < 256) (hf : f i = 0) :
    Calls Try.prog 65 #[.pointer (some ⟨b, 0, none⟩), .int .i64 i] w fun e w' => e = .returned (.tuple #[.agg #[.int .i64 0, .int .i64 0], .int .i64 5]) ∧ Upd [] w w' :=
  get_err b i 5 w (.inl rfl) ((find_in b m f i _ (h.upd ((Upd.refl [] w).alloc _) (by simp) (by simp)) hi).mono (by rw [findE, if_pos hf, hf]; exact fun _ _ h => h))
theorem get_beyond (b m : Nat) (f : Nat → Nat) (id : Int) (w : World) (h : ClAt w b m f) (hi : id < 0 ∨ 256 ≤ id) :
    Calls Try.prog 65 #[.pointer (some ⟨b, 0, none⟩), .int .i64 id] w fun e w' => e = .returned (.tuple #[.agg #[.int .i64 0, .int .i64 0], .int .i64 3]) ∧ Upd [] w w' :=
  get_err b id 3 w (.inr rfl) (find_beyond b m f id _ (h.upd ((Upd.refl [] w).alloc _) (by simp) (by simp)) hi)

theorem copy_at (b m : Nat) (f : Nat → Nat) (w : World) (h : ClAt w b m f) :
    Calls Try.prog 76 #[.pointer (some ⟨b, 0, none⟩)] w fun e w' => ∃ b2 m2, e = .returned (.pointer (some ⟨b2, 0, none⟩)) ∧ ClAt w' b2 m2 f ∧ Upd [] w w' ∧ w.heap.size ≤ b2 ∧ w.heap.size ≤ m2 := by
  obtain ⟨D, hb, hown, hr⟩ := h
  have c0 := cell_of hb 0
  clear hb
  have q := fun (w : World) => run_eql_map_nil (P := Try.prog) w 26 3 3 (some m) Try.underlying26
  have HOWN := Lib.hid hown; clear hown
  go_enter Try.func76, Try.ntmps76
  go_wp2_with (go_at_call 80; refine (clone_at m D _ HOWN.out).mono ?_; rintro e w1 ⟨rfl, hown1, u1⟩)
  go_ret
  refine ⟨_, _, rfl, ⟨D, new_of _ _, hown1.alloc _, hr⟩, u1.alloc _, u1.size, Nat.le_refl _⟩

end Go.Proofs.Ytmbkjnjfipafmaa.Cl
