/-
  Contracts of the package cleaner: a table in memory whose ids have states. Conditions: the table is as New and its own calls leave it.
-/
import Derived.Test.YtphpimbhhmkdkaaRows
import Derived.Test.YtphpimbhhmkdkaaClnPlain
import Derived.Handy
import Derived.Shelf.SlMaps.Clone
namespace Go.Proofs.Ytphpimbhhmkdkaa
open Go.RowKit Go.Maps

theorem law3 : Keyed Try.prog 3 := int_keyed Try.underlying3
theorem zero3 (w : World) : (zeroValue 3).run Try.prog w = .ok (.int .i64 0) w := by kernel_rfl

/-- Block b is a table of cleaners with the states f. -/
def ClAt (w : World) (b m : Nat) (f : Nat → Nat) : Prop :=
  ∃ D, w.heap[b]? = some (.cells #[.map (some m)] 60 (0, 0)) ∧ w.ownsMap (H := Unit) Try.prog 3 (plainElem Try.prog 3) m 256 D ∧ Reads D f

theorem ClAt.lt {w : World} {b m : Nat} {f : Nat → Nat} (h : ClAt w b m f) : b < w.heap.size := by
  obtain ⟨_, h1, _⟩ := h
  exact lt_of_block h1
theorem ClAt.small {w : World} {b m : Nat} {f : Nat → Nat} (h : ClAt w b m f) : ∀ i, i < 256 → f i ≤ 3 := by
  obtain ⟨_, _, _, h3⟩ := h
  exact h3.small

theorem ClAt.ne {w : World} {b m : Nat} {f : Nat → Nat} (h : ClAt w b m f) : b ≠ m := by
  rintro rfl
  obtain ⟨D, hb, ⟨es, c, hm, _⟩, _⟩ := h
  rw [hb] at hm; simp at hm
theorem ClAt.mlt {w : World} {b m : Nat} {f : Nat → Nat} (h : ClAt w b m f) : m < w.heap.size := by
  obtain ⟨_, _, h1, _⟩ := h
  exact h1.lt
theorem ClAt.upd {w w' : World} {b m : Nat} {f : Nat → Nat} (h : ClAt w b m f) {S : List Nat} (u : Upd S w w') (hb : b ∉ S) (hm : m ∉ S) : ClAt w' b m f := by
  obtain ⟨D, h1, h2, h3⟩ := h
  exact ⟨D, u.keep h1 hb, owns_upd_map h2 u hm, h3⟩
/-- Another table's map was written. -/
theorem ClAt.keep {w w' : World} {b m b2 m2 : Nat} {f g : Nat → Nat} (h : ClAt w b m f) (h2 : ClAt w b2 m2 g) (hne : m ≠ m2) (u : Upd [m2] w w') : ClAt w' b m f := by
  have hb : b ≠ m2 := by
    rintro rfl
    obtain ⟨_, hb, _⟩ := h
    obtain ⟨_, _, ⟨es, c, hm, _⟩, _⟩ := h2
    rw [hb] at hm; simp at hm
  exact h.upd u (by simpa using hb) (by simpa using hne)

theorem find_beyond (b m : Nat) (f : Nat → Nat) (id : Int) (w : World) (h : ClAt w b m f) (hi : id < 0 ∨ 256 ≤ id) :
    Calls Try.prog 28 #[.pointer (some ⟨b, 0, none⟩), .int .i64 id] w fun e w' => e = .returned (.tuple #[.int .i64 0, .int .i64 3]) ∧ w = w' := by
  obtain ⟨D, hb, _, _⟩ := h
  have c0 := cell_of hb 0
  clear hb
  have q := fun (w : World) => run_eql_map_nil (P := Try.prog) w 58 3 3 (some m) Try.underlying58
  rcases hi with hi | hi
  · go_enter Try.func28, Try.ntmps28
    go_wp2
    go_ret2
    exact ⟨rfl, rfl⟩
  · have h' : ¬ id < 0 := by omega
    go_enter Try.func28, Try.ntmps28
    go_wp2
    go_ret2
    exact ⟨rfl, rfl⟩

/-- What 'find' says of an id that there is. -/
def findE (f : Nat → Nat) (i : Nat) : Int := if f i = 0 then 5 else 0

set_option maxRecDepth 100000 in
theorem find_in (b m : Nat) (f : Nat → Nat) (i : Nat) (w : World) (h : ClAt w b m f) (hi : i < 256) :
    Calls Try.prog 28 #[.pointer (some ⟨b, 0, none⟩), .int .i64 i] w fun e w' => e = .returned (.tuple #[.int .i64 (f i), .int .i64 (findE f i)]) ∧ w = w' := by
  obtain ⟨D, hb, hown, hr⟩ := h
  have c0 := cell_of hb 0
  clear hb
  have q := fun (w : World) => run_eql_map_nil (P := Try.prog) w 58 3 3 (some m) Try.underlying58
  have hhas := hr.has i hi
  have hat0 := hr.at_ i hi (.lit (.int .i64 0))
  have h0 : (0 : Int) ≤ i := by omega
  have h1 : (i : Int) < 256 := by omega
  have hkey : keyOf Try.prog 3 (.int .i64 (i : Int)) = some (.int .i64 (i : Int)) := keyOf_int_mk Try.underlying3 (WalkArith.wf_i64 (by omega))
  have HH := Lib.hid hhas; clear hhas
  have HAT := Lib.hid hat0; clear hat0
  have HK := Lib.hid hkey; clear hkey
  have HOWN := Lib.hid hown; clear hown
  by_cases hz : f i = 0
  · have HZ := Lib.hid hz; clear hz
    go_enter Try.func28, Try.ntmps28
    go_wp2_with (at_lookup; refine wpList_lookup_own_ok_int _ rfl _ _ 58 rfl 3 3 .i64 law3 Try.underlying58 Try.underlying3 (zero3 _) m 256 D rfl HOWN.out _ _ rfl HK.out ?_; intro c hat _; rw [HH.out, HZ.out]; have HC := Lib.hid hat; clear hat)
    go_ret2
    exact ⟨by rw [findE, HZ.out]; rfl, rfl⟩
  · have HZ := Lib.hid hz; clear hz
    have hd : decide (f i ≠ 0) = true := by simpa using HZ.out
    have HD := Lib.hid hd; clear hd
    go_enter Try.func28, Try.ntmps28
    go_wp2_with (at_lookup; refine wpList_lookup_own_ok_int _ rfl _ _ 58 rfl 3 3 .i64 law3 Try.underlying58 Try.underlying3 (zero3 _) m 256 D rfl HOWN.out _ _ rfl HK.out ?_; intro c hat _; rw [HH.out, HD.out]; have HC := Lib.hid hat; clear hat)
    go_ret2
    refine ⟨?_, rfl⟩
    have h2 := HC.out
    rw [HAT.out, if_neg HZ.out] at h2
    simp at h2
    rw [findE, if_neg HZ.out, ← h2]; rfl

theorem find_none (w : World) (id : Int) : Calls Try.prog 28 #[.pointer none, .int .i64 id] w fun e w' => e = .returned (.tuple #[.int .i64 0, .int .i64 1]) ∧ w = w' := by
  go_enter Try.func28, Try.ntmps28
  go_wp2
  go_ret2
  exact ⟨rfl, rfl⟩
theorem find_zero (w : World) (b : Nat) (id : Int) (hc : w.cell? ⟨b, 0, none⟩ = some (.map none)) : Calls Try.prog 28 #[.pointer (some ⟨b, 0, none⟩), .int .i64 id] w fun e w' => e = .returned (.tuple #[.int .i64 0, .int .i64 1]) ∧ w = w' := by
  have q := fun (w : World) => run_eql_map_nil (P := Try.prog) w 58 3 3 none Try.underlying58
  go_enter Try.func28, Try.ntmps28
  go_wp2
  go_ret2
  exact ⟨rfl, rfl⟩

theorem new_at (w : World) : Calls Try.prog 10 #[] w fun e w' => e = .returned (.pointer (some ⟨w.heap.size + 1, 0, none⟩)) ∧ ClAt w' (w.heap.size + 1) w.heap.size (fun _ => 0) ∧ Upd [] w w' := by
  have hmm := @run_makeMap Try.prog
  go_enter Try.func10, Try.ntmps10
  go_wp2
  go_ret
  refine ⟨rfl, ⟨.map [], ?_, ?_, reads_empty⟩, ((Upd.refl _ _).alloc _).alloc _⟩
  · have := new_of (w.alloc (.map #[] 0)) (.cells #[.map (some w.heap.size)] 60)
    simpa using this
  · exact ((World.ownsMap_made w _ _ _).mono (by omega)).alloc _

theorem arm_have (b m : Nat) (f : Nat → Nat) (i : Nat) (w : World) (h : ClAt w b m f) (hi : i < 256) (hf : f i ≠ 0) :
    Calls Try.prog 16 #[.pointer (some ⟨b, 0, none⟩), .int .i64 i] w fun e w' => e = .returned (.int .i64 6) ∧ w = w' := by
  have H := Lib.hid h; clear h
  have hE : findE f i = 0 := by rw [findE, if_neg hf]
  have HE := Lib.hid hE; clear hE hf
  go_enter Try.func16, Try.ntmps16
  go_wp2_with (go_at_call 28; refine (find_in b m f i _ H.out hi).mono ?_; rw [HE.out]; rintro e w' ⟨rfl, rfl⟩)
  go_ret
  exact ⟨rfl, rfl⟩
theorem arm_beyond (b m : Nat) (f : Nat → Nat) (id : Int) (w : World) (h : ClAt w b m f) (hi : id < 0 ∨ 256 ≤ id) :
    Calls Try.prog 16 #[.pointer (some ⟨b, 0, none⟩), .int .i64 id] w fun e w' => e = .returned (.int .i64 3) ∧ w = w' := by
  have H := Lib.hid h; clear h
  have HI := Lib.hid hi; clear hi
  go_enter Try.func16, Try.ntmps16
  go_wp2_with (go_at_call 28; refine (find_beyond b m f id _ H.out HI.out).mono ?_; rintro e w' ⟨rfl, rfl⟩)
  go_ret
  exact ⟨rfl, rfl⟩
theorem arm_new (b m : Nat) (f : Nat → Nat) (i : Nat) (w : World) (h : ClAt w b m f) (hi : i < 256) (hf : f i = 0) :
    Calls Try.prog 16 #[.pointer (some ⟨b, 0, none⟩), .int .i64 i] w fun e w' => e = .returned (.int .i64 0) ∧ ClAt w' b m (upd f i 1) ∧ Upd [m] w w' := by
  have H := Lib.hid h
  obtain ⟨D, hb, hown, hr⟩ := h
  have c0 := cell_of hb 0
  have hE : findE f i = 5 := by rw [findE, if_pos hf]
  have HE := Lib.hid hE; clear hE hf
  have hkey : keyOf Try.prog 3 (.int .i64 (i : Int)) = some (.int .i64 (i : Int)) := keyOf_int_mk Try.underlying3 (WalkArith.wf_i64 (by omega))
  have HK := Lib.hid hkey; clear hkey
  have HOWN := Lib.hid hown; clear hown
  have HB := Lib.hid hb; clear hb
  go_enter Try.func16, Try.ntmps16
  go_wp2_with (first | (go_at_call 28; refine (find_in b m f i _ H.out hi).mono ?_; rw [HE.out]; rintro e w' ⟨rfl, rfl⟩) | (at_mapUpdate; refine wpList_mapUpdate_in _ rfl _ _ _ 58 rfl 3 3 law3 Try.underlying58 _ m 256 D rfl HOWN.out (by unfold maxLen; omega) _ _ _ rfl rfl HK.out _ [] (plainElem_int Try.underlying3 (by decide)) ?_; intro w1 hown1 hturn1))
  go_ret
  have ht := HOWN.out.tidy law3
  have hr1 := hr.put ht (v := 1) hi (by omega) (by omega)
  have u : Upd [m] w w1 := (Upd.refl [m] w).turned hturn1 (by simp)
  exact ⟨rfl, ⟨_, u.keep HB.out (by simpa using H.out.ne), owns_tight hown1 (Nat.le_trans (Nat.le_of_eq hr1.size) (cntP_le _ _)), hr1⟩, u⟩

theorem end_not (b m : Nat) (f : Nat → Nat) (i : Nat) (s : Int) (w : World) (h : ClAt w b m f) (hi : i < 256) (hf : f i ≠ 1) :
    Calls Try.prog 29 #[.pointer (some ⟨b, 0, none⟩), .int .i64 i, .int .i64 s] w fun e w' => e = .returned (.tuple #[.bool false, .int .i64 (findE f i)]) ∧ w = w' := by
  have H := Lib.hid h; clear h
  have hf1 : ((f i : Int) == 1) = false := by simpa using (by omega : (f i : Int) ≠ 1)
  have hf2 : ((f i : Int) != 1) = true := by simpa using (by omega : (f i : Int) ≠ 1)
  by_cases hz : f i = 0
  · have hE : findE f i = 5 := by rw [findE, if_pos hz]
    rw [hE]
    have HE := Lib.hid hE; clear hE
    have HZ := Lib.hid hz; clear hz hf hf1 hf2
    go_enter Try.func29, Try.ntmps29
    go_wp2_with (go_at_call 28; refine (find_in b m f i _ H.out hi).mono ?_; rw [HE.out]; rintro e w' ⟨rfl, rfl⟩)
    go_ret2
    exact ⟨rfl, rfl⟩
  · have hE : findE f i = 0 := by rw [findE, if_neg hz]
    rw [hE]
    have HE := Lib.hid hE; clear hE
    clear hz hf
    go_enter Try.func29, Try.ntmps29
    go_wp2_with (go_at_call 28; refine (find_in b m f i _ H.out hi).mono ?_; rw [HE.out]; rintro e w' ⟨rfl, rfl⟩)
    go_ret2
    exact ⟨rfl, rfl⟩
theorem end_beyond (b m : Nat) (f : Nat → Nat) (id s : Int) (w : World) (h : ClAt w b m f) (hi : id < 0 ∨ 256 ≤ id) :
    Calls Try.prog 29 #[.pointer (some ⟨b, 0, none⟩), .int .i64 id, .int .i64 s] w fun e w' => e = .returned (.tuple #[.bool false, .int .i64 3]) ∧ w = w' := by
  have H := Lib.hid h; clear h
  have HI := Lib.hid hi; clear hi
  go_enter Try.func29, Try.ntmps29
  go_wp2_with (go_at_call 28; refine (find_beyond b m f id _ H.out HI.out).mono ?_; rintro e w' ⟨rfl, rfl⟩)
  go_ret2
  exact ⟨rfl, rfl⟩
theorem end_armed (b m : Nat) (f : Nat → Nat) (i s : Nat) (w : World) (h : ClAt w b m f) (hi : i < 256) (hf : f i = 1) (hs0 : s ≠ 0) (hs : s ≤ 3) :
    Calls Try.prog 29 #[.pointer (some ⟨b, 0, none⟩), .int .i64 i, .int .i64 s] w fun e w' => e = .returned (.tuple #[.bool true, .int .i64 0]) ∧ ClAt w' b m (upd f i s) ∧ Upd [m] w w' := by
  have H := Lib.hid h
  obtain ⟨D, hb, hown, hr⟩ := h
  have c0 := cell_of hb 0
  have hE : findE f i = 0 := by rw [findE, hf]; rfl
  have HE := Lib.hid hE; clear hE
  have HF := Lib.hid hf; clear hf
  have hkey : keyOf Try.prog 3 (.int .i64 (i : Int)) = some (.int .i64 (i : Int)) := keyOf_int_mk Try.underlying3 (WalkArith.wf_i64 (by omega))
  have HK := Lib.hid hkey; clear hkey
  have HOWN := Lib.hid hown; clear hown
  have HB := Lib.hid hb; clear hb
  have HS := Lib.hid hs0; clear hs0
  go_enter Try.func29, Try.ntmps29
  go_wp2_with (first | (go_at_call 28; refine (find_in b m f i _ H.out hi).mono ?_; rw [HE.out, HF.out]; rintro e w' ⟨rfl, rfl⟩) | (at_mapUpdate; refine wpList_mapUpdate_in _ rfl _ _ _ 58 rfl 3 3 law3 Try.underlying58 _ m 256 D rfl HOWN.out (by unfold maxLen; omega) _ _ _ rfl rfl HK.out _ [] (plainElem_int Try.underlying3 (WalkArith.wf_i64 (by omega))) ?_; intro w1 hown1 hturn1))
  go_ret2
  have ht := HOWN.out.tidy law3
  have hr1 := hr.put ht (v := s) hi hs HS.out
  have u : Upd [m] w w1 := (Upd.refl [m] w).turned hturn1 (by simp)
  exact ⟨rfl, ⟨_, u.keep HB.out (by simpa using H.out.ne), owns_tight hown1 (Nat.le_trans (Nat.le_of_eq hr1.size) (cntP_le _ _)), hr1⟩, u⟩

theorem fire_beyond (b m : Nat) (f : Nat → Nat) (id : Int) (w : World) (h : ClAt w b m f) (hi : id < 0 ∨ 256 ≤ id) :
    Calls Try.prog 18 #[.pointer (some ⟨b, 0, none⟩), .int .i64 id] w fun e w' => e = .returned (.tuple #[.bool false, .int .i64 3]) ∧ w = w' := by
  have H := Lib.hid h; clear h
  have HI := Lib.hid hi; clear hi
  go_enter Try.func18, Try.ntmps18
  go_wp2_with (go_at_call 29; refine (end_beyond b m f id 2 _ H.out HI.out).mono ?_; rintro e w' ⟨rfl, rfl⟩)
  go_ret2
  exact ⟨rfl, rfl⟩
theorem fire_not (b m : Nat) (f : Nat → Nat) (i : Nat) (w : World) (h : ClAt w b m f) (hi : i < 256) (hf : f i ≠ 1) :
    Calls Try.prog 18 #[.pointer (some ⟨b, 0, none⟩), .int .i64 i] w fun e w' => e = .returned (.tuple #[.bool false, .int .i64 (findE f i)]) ∧ w = w' := by
  have H := Lib.hid h; clear h
  have HF := Lib.hid hf; clear hf
  go_enter Try.func18, Try.ntmps18
  go_wp2_with (go_at_call 29; refine (end_not b m f i 2 _ H.out hi HF.out).mono ?_; rintro e w' ⟨rfl, rfl⟩)
  go_ret2
  exact ⟨rfl, rfl⟩
theorem fire_armed (b m : Nat) (f : Nat → Nat) (i : Nat) (w : World) (h : ClAt w b m f) (hi : i < 256) (hf : f i = 1) :
    Calls Try.prog 18 #[.pointer (some ⟨b, 0, none⟩), .int .i64 i] w fun e w' => e = .returned (.tuple #[.bool true, .int .i64 0]) ∧ ClAt w' b m (upd f i 2) ∧ Upd [m] w w' := by
  have H := Lib.hid h; clear h
  have HF := Lib.hid hf; clear hf
  go_enter Try.func18, Try.ntmps18
  go_wp2_with (go_at_call 29; refine (end_armed b m f i 2 _ H.out hi HF.out (by omega) (by omega)).mono ?_; rintro e w' ⟨rfl, a, u⟩)
  go_ret2
  exact ⟨rfl, a, u⟩
theorem cancel_beyond (b m : Nat) (f : Nat → Nat) (id : Int) (w : World) (h : ClAt w b m f) (hi : id < 0 ∨ 256 ≤ id) :
    Calls Try.prog 19 #[.pointer (some ⟨b, 0, none⟩), .int .i64 id] w fun e w' => e = .returned (.tuple #[.bool false, .int .i64 3]) ∧ w = w' := by
  have H := Lib.hid h; clear h
  have HI := Lib.hid hi; clear hi
  go_enter Try.func19, Try.ntmps19
  go_wp2_with (go_at_call 29; refine (end_beyond b m f id 3 _ H.out HI.out).mono ?_; rintro e w' ⟨rfl, rfl⟩)
  go_ret2
  exact ⟨rfl, rfl⟩
theorem cancel_not (b m : Nat) (f : Nat → Nat) (i : Nat) (w : World) (h : ClAt w b m f) (hi : i < 256) (hf : f i ≠ 1) :
    Calls Try.prog 19 #[.pointer (some ⟨b, 0, none⟩), .int .i64 i] w fun e w' => e = .returned (.tuple #[.bool false, .int .i64 (findE f i)]) ∧ w = w' := by
  have H := Lib.hid h; clear h
  have HF := Lib.hid hf; clear hf
  go_enter Try.func19, Try.ntmps19
  go_wp2_with (go_at_call 29; refine (end_not b m f i 3 _ H.out hi HF.out).mono ?_; rintro e w' ⟨rfl, rfl⟩)
  go_ret2
  exact ⟨rfl, rfl⟩
theorem cancel_armed (b m : Nat) (f : Nat → Nat) (i : Nat) (w : World) (h : ClAt w b m f) (hi : i < 256) (hf : f i = 1) :
    Calls Try.prog 19 #[.pointer (some ⟨b, 0, none⟩), .int .i64 i] w fun e w' => e = .returned (.tuple #[.bool true, .int .i64 0]) ∧ ClAt w' b m (upd f i 3) ∧ Upd [m] w w' := by
  have H := Lib.hid h; clear h
  have HF := Lib.hid hf; clear hf
  go_enter Try.func19, Try.ntmps19
  go_wp2_with (go_at_call 29; refine (end_armed b m f i 3 _ H.out hi HF.out (by omega) (by omega)).mono ?_; rintro e w' ⟨rfl, a, u⟩)
  go_ret2
  exact ⟨rfl, a, u⟩
theorem forget_beyond (b m : Nat) (f : Nat → Nat) (id : Int) (w : World) (h : ClAt w b m f) (hi : id < 0 ∨ 256 ≤ id) :
    Calls Try.prog 17 #[.pointer (some ⟨b, 0, none⟩), .int .i64 id] w fun e w' => e = .returned (.int .i64 3) ∧ w = w' := by
  have H := Lib.hid h; clear h
  have HI := Lib.hid hi; clear hi
  go_enter Try.func17, Try.ntmps17
  go_wp2_with (go_at_call 28; refine (find_beyond b m f id _ H.out HI.out).mono ?_; rintro e w' ⟨rfl, rfl⟩)
  go_ret
  exact ⟨rfl, rfl⟩
theorem forget_none (b m : Nat) (f : Nat → Nat) (i : Nat) (w : World) (h : ClAt w b m f) (hi : i < 256) (hf : f i = 0) :
    Calls Try.prog 17 #[.pointer (some ⟨b, 0, none⟩), .int .i64 i] w fun e w' => e = .returned (.int .i64 5) ∧ w = w' := by
  have H := Lib.hid h; clear h
  have hE : findE f i = 5 := by rw [findE, if_pos hf]
  have HE := Lib.hid hE; clear hE hf
  go_enter Try.func17, Try.ntmps17
  go_wp2_with (go_at_call 28; refine (find_in b m f i _ H.out hi).mono ?_; rw [HE.out]; rintro e w' ⟨rfl, rfl⟩)
  go_ret
  exact ⟨rfl, rfl⟩
theorem forget_armed (b m : Nat) (f : Nat → Nat) (i : Nat) (w : World) (h : ClAt w b m f) (hi : i < 256) (hf : f i = 1) :
    Calls Try.prog 17 #[.pointer (some ⟨b, 0, none⟩), .int .i64 i] w fun e w' => e = .returned (.int .i64 8) ∧ w = w' := by
  have H := Lib.hid h; clear h
  have hE : findE f i = 0 := by rw [findE, hf]; rfl
  have HE := Lib.hid hE; clear hE
  have HF := Lib.hid hf; clear hf
  go_enter Try.func17, Try.ntmps17
  go_wp2_with (go_at_call 28; refine (find_in b m f i _ H.out hi).mono ?_; rw [HE.out, HF.out]; rintro e w' ⟨rfl, rfl⟩)
  go_ret
  exact ⟨rfl, rfl⟩
theorem forget_done (b m : Nat) (f : Nat → Nat) (i : Nat) (w : World) (h : ClAt w b m f) (hi : i < 256) (hf : f i ≠ 0) (hf1 : f i ≠ 1) :
    Calls Try.prog 17 #[.pointer (some ⟨b, 0, none⟩), .int .i64 i] w fun e w' => e = .returned (.int .i64 0) ∧ ClAt w' b m (upd f i 0) ∧ Upd [m] w w' := by
  have H := Lib.hid h
  obtain ⟨D, hb, hown, hr⟩ := h
  have c0 := cell_of hb 0
  have hE : findE f i = 0 := by rw [findE, if_neg hf]
  have HE := Lib.hid hE; clear hE
  have hb1 : ((f i : Int) == 1) = false := by simpa using (by omega : (f i : Int) ≠ 1)
  have hkey : keyOf Try.prog 3 (.int .i64 (i : Int)) = some (.int .i64 (i : Int)) := keyOf_int_mk Try.underlying3 (WalkArith.wf_i64 (by omega))
  have HK := Lib.hid hkey; clear hkey
  have HOWN := Lib.hid hown; clear hown
  have HB := Lib.hid hb; clear hb
  clear hf hf1
  go_enter Try.func17, Try.ntmps17
  go_wp2_with (first | (go_at_call 28; refine (find_in b m f i _ H.out hi).mono ?_; rw [HE.out]; rintro e w' ⟨rfl, rfl⟩) | (at_delete; refine wpList_delete_own _ rfl _ _ 58 3 rfl 3 law3 Try.underlying58 _ m 256 D rfl HOWN.out _ _ rfl HK.out ?_; intro w1 hown1 hturn1))
  go_ret
  have hr1 := hr.del (HOWN.out.tidy law3) hi
  have u : Upd [m] w w1 := (Upd.refl [m] w).turned hturn1 (by simp)
  exact ⟨rfl, ⟨_, u.keep HB.out (by simpa using H.out.ne), owns_tight hown1 (Nat.le_trans (Nat.le_of_eq hr1.size) (cntP_le _ _)), hr1⟩, u⟩

theorem len_at (b m : Nat) (f : Nat → Nat) (w : World) (h : ClAt w b m f) :
    Calls Try.prog 14 #[.pointer (some ⟨b, 0, none⟩)] w fun e w' => e = .returned (.int .i64 (card f)) ∧ w = w' := by
  obtain ⟨D, hb, hown, hr⟩ := h
  have c0 := cell_of hb 0
  have HOWN := Lib.hid hown; clear hown
  have hs := hr.size
  have HS := Lib.hid hs; clear hs hb
  go_enter Try.func14, Try.ntmps14
  go_wp2_with (at_len; refine wpList_len_own _ rfl _ 58 rfl 3 3 Try.underlying58 _ m 256 D rfl HOWN.out ?_; rw [HS.out])
  go_ret
  exact ⟨rfl, rfl⟩

theorem clone_at (m : Nat) (D : DataW Unit) (w : World) (hown : w.ownsMap (H := Unit) Try.prog 3 (plainElem Try.prog 3) m 256 D) :
    Calls Try.prog 32 #[.map (some m)] w fun e w' => e = .returned (.map (some w.heap.size)) ∧ w'.ownsMap (H := Unit) Try.prog 3 (plainElem Try.prog 3) w.heap.size 256 D ∧ Upd [] w w' := by
  obtain ⟨es, clock, hb, F, hs, hD⟩ := hown
  have hq := fun (w : World) => run_eql_map_nil (P := Try.prog) w 58 3 3 (some m) Try.underlying58
  go_enter Try.func32, Try.ntmps32
  go_wp2
  rw [run_callFunc_extern Try.func36 (by kernel_rfl) (by kernel_rfl) (by kernel_rfl) (e := Extern.MapsClone.clone) (by kernel_rfl), run_maps_clone_sl w 58 hb]
  simp only [Result.andThen]
  rw [Oper.upon_value]
  go_wp2
  rw [run_typeAssert_map_sl _ 58 20 _ _ _ Try.underlying58]
  simp only [Result.andThen]
  rw [Oper.upon_value]
  go_wp2
  go_ret
  exact ⟨rfl, ⟨es, clock, new_of _ _, F, hs, hD⟩, (Upd.refl _ _).alloc _⟩

theorem counts_at (b m : Nat) (f : Nat → Nat) (w : World) (h : ClAt w b m f) :
    Calls Try.prog 13 #[.pointer (some ⟨b, 0, none⟩)] w fun e w' => e = .returned (.tuple #[.int .i64 (cnt f 1), .int .i64 (cnt f 2), .int .i64 (cnt f 3)]) ∧ Upd [] w w' := by
  obtain ⟨D, hb, hown, hr⟩ := h
  have c0 := cell_of hb 0
  have HOWN := Lib.hid hown; clear hown
  have hbs := lt_of_block hb
  have HB := Lib.hid hb; clear hb
  have hbl := HOWN.out.lt
  go_enter Try.func13, Try.ntmps13
  go_wp2_with (at_range; refine wpList_range_own _ rfl _ 58 rfl 3 3 law3 Try.underlying58 _ m 256 _ rfl (HOWN.out.alloc _) ?_; intro w0 hrg0 hg0 hs0)
  go_frame
  have e1 : (w.alloc (.cells #[.int .i64 0, .int .i64 0, .int .i64 0, .int .i64 0] 35)).heap.size = w.heap.size + 1 := by simp
  have hn0 := grown_keep hg0 (new_of w (.cells #[.int .i64 0, .int .i64 0, .int .i64 0, .int .i64 0] 35)) (by simp)
  have u0 : Upd [] w w0 := ((Upd.refl [] w).alloc _).grown hg0 (by simp)
  rw [e1] at hrg0 hs0 ⊢
  generalize hN : w.heap.size = N at hrg0 hs0 hn0 hbl hbs ⊢
  have HN := Lib.hid hN; clear hN
  go_loopw [7] (fun _ wr => ∃ (left : Lit → Bool) (cn : Nat), wr.ranges Try.prog 3 (plainElem Try.prog 3) m (N + 1) 256 D left cn ∧
      wr.heap[N]? = some (.cells #[.int .i64 0, .int .i64 (seen f left 1), .int .i64 (seen f left 2), .int .i64 (seen f left 3)] 35 (0, 0)) ∧ Upd [] w wr) (fun _ wr => wr.rangeLeft m (N + 1))
  case atStart =>
    refine ⟨_, _, hrg0, ?_, u0⟩
    have hst : ∀ s, s ≠ 0 → seen f (Maps.has D) s = 0 := fun s hs => seen_start f _ s (fun i hi hf => by rw [hr.has i hi]; simpa using hf) hs
    rw [hst 1 (by omega), hst 2 (by omega), hst 3 (by omega)]
    exact hn0
  case round =>
    obtain ⟨left, cn, hrg, hcells, hup⟩ := hrel
    go_wp2_with (at_next; refine wpList_next_ranges_ii _ rfl _ rfl 3 3 .i64 .i64 law3 Try.underlying3 Try.underlying3 m (N + 1) 256 _ _ _ rfl hrg ?_ ?_)
    · intro _ hl0
      have d1 := cell_of hcells 1
      have d2 := cell_of hcells 2
      have d3 := cell_of hcells 3
      rw [seen_end f left 1 hl0] at d1
      rw [seen_end f left 2 hl0] at d2
      rw [seen_end f left 3 hl0] at d3
      go_wp2
      go_quiet (fail)
      go_wp2
      go_ret3
      exact ⟨rfl, hup.drewN _⟩
    · intro x c w1 cn1 hwx hwc hlx hat hrg1 hlt hg1 hs1 hen
      obtain ⟨i, hi, hx⟩ := hr.keys _ (has_true_of_atKey hat)
      simp at hx
      subst hx
      have hfi : f i ≠ 0 ∧ (f i : Int) = c := by
        have h1 := hr.at_ i hi
        have h2 := hr.has i hi
        rw [has_true_of_atKey hat] at h2
        have h3 : f i ≠ 0 := by simpa using h2.symm
        refine ⟨h3, ?_⟩
        have h4 := hat (.lit (.int .i64 0))
        rw [h1, if_neg h3] at h4
        simpa using h4
      obtain ⟨hf0, rfl⟩ := hfi
      have hf3 := hr.small i hi
      have hcells1 := grown_keep hg1 hcells (by simp)
      have st1 := seen_step f left 1 hi hlx
      have st2 := seen_step f left 2 hi hlx
      have st3 := seen_step f left 3 hi hlx
      have HEN := hen
      have hc123 : f i = 1 ∨ f i = 2 ∨ f i = 3 := by omega
      have hupn : Upd [] w w1 := hup.grown hg1 (fun k hk => by simp at hk; have := HN.out; omega)
      rcases hc123 with hc | hc | hc
      · rw [hc] at hen st1 st2 st3 ⊢
        have d := cell_of hcells1 1
        have fr := free_of hcells1 1
        have bd : seen f left 1 ≤ 256 := cntP_le _ _
        have ST1 := Lib.hid st1
        have ST2 := Lib.hid st2
        have ST3 := Lib.hid st3
        clear st1 st2 st3 hc HEN hat
        have HC1 := Lib.hid hcells1
        clear hcells1
        go_wp2
        have hg2 : w1.grownBy (w1.setCell ⟨N, 1, none⟩ (.int .i64 ((seen f left 1 : Int) + 1))) (some N) := ⟨rfl, rfl, rfl, by simp, fun q _ hq => Below.heap_setCell _ _ _ _ (fun e => hq (by rw [e]))⟩
        have hrg2 := hrg1.kept hg2 (fun e => by have := Option.some.inj e; omega) (fun e => by have := Option.some.inj e; omega)
        go_roundw
        case rel =>
          refine ⟨_, cn1, hrg2, ?_, hupn.setNew (by have := HN.out; show _ ≤ N; omega) _⟩
          rw [set_of HC1.out 1, ST1.out, ST2.out, ST3.out]
          simp
        case measure => rw [hrg2.left_eq, hrg.left_eq]; exact hlt
      · rw [hc] at hen st1 st2 st3 ⊢
        have d := cell_of hcells1 2
        have fr := free_of hcells1 2
        have bd : seen f left 2 ≤ 256 := cntP_le _ _
        have ST1 := Lib.hid st1
        have ST2 := Lib.hid st2
        have ST3 := Lib.hid st3
        clear st1 st2 st3 hc HEN hat
        have HC1 := Lib.hid hcells1
        clear hcells1
        go_wp2
        have hg2 : w1.grownBy (w1.setCell ⟨N, 2, none⟩ (.int .i64 ((seen f left 2 : Int) + 1))) (some N) := ⟨rfl, rfl, rfl, by simp, fun q _ hq => Below.heap_setCell _ _ _ _ (fun e => hq (by rw [e]))⟩
        have hrg2 := hrg1.kept hg2 (fun e => by have := Option.some.inj e; omega) (fun e => by have := Option.some.inj e; omega)
        go_roundw
        case rel =>
          refine ⟨_, cn1, hrg2, ?_, hupn.setNew (by have := HN.out; show _ ≤ N; omega) _⟩
          rw [set_of HC1.out 2, ST1.out, ST2.out, ST3.out]
          simp
        case measure => rw [hrg2.left_eq, hrg.left_eq]; exact hlt
      · rw [hc] at hen st1 st2 st3 ⊢
        have d := cell_of hcells1 3
        have fr := free_of hcells1 3
        have bd : seen f left 3 ≤ 256 := cntP_le _ _
        have ST1 := Lib.hid st1
        have ST2 := Lib.hid st2
        have ST3 := Lib.hid st3
        clear st1 st2 st3 hc HEN hat
        have HC1 := Lib.hid hcells1
        clear hcells1
        go_wp2
        have hg2 : w1.grownBy (w1.setCell ⟨N, 3, none⟩ (.int .i64 ((seen f left 3 : Int) + 1))) (some N) := ⟨rfl, rfl, rfl, by simp, fun q _ hq => Below.heap_setCell _ _ _ _ (fun e => hq (by rw [e]))⟩
        have hrg2 := hrg1.kept hg2 (fun e => by have := Option.some.inj e; omega) (fun e => by have := Option.some.inj e; omega)
        go_roundw
        case rel =>
          refine ⟨_, cn1, hrg2, ?_, hupn.setNew (by have := HN.out; show _ ≤ N; omega) _⟩
          rw [set_of HC1.out 3, ST1.out, ST2.out, ST3.out]
          simp
        case measure => rw [hrg2.left_eq, hrg.left_eq]; exact hlt

theorem get_in (b m : Nat) (f : Nat → Nat) (i : Nat) (w : World) (h : ClAt w b m f) (hi : i < 256) (hf : f i ≠ 0) :
    Calls Try.prog 12 #[.pointer (some ⟨b, 0, none⟩), .int .i64 i] w fun e w' => e = .returned (.tuple #[.agg #[.int .i64 i, .int .i64 (f i)], .int .i64 0]) ∧ Upd [] w w' := by
  have H := Lib.hid h; clear h
  have hE : findE f i = 0 := by rw [findE, if_neg hf]
  have HE := Lib.hid hE; clear hE hf
  go_enter Try.func12, Try.ntmps12
  go_wp2_with (go_at_call 28; refine (find_in b m f i _ (H.out.upd ((Upd.refl [] w).alloc _) (by simp) (by simp)) hi).mono ?_; rw [HE.out]; rintro e w' ⟨rfl, rfl⟩)
  go_returns
  exact ⟨rfl, (Upd.refl _ _).alloc _⟩
theorem get_err (b : Nat) (id e : Int) (w : World) (he : e = 5 ∨ e = 3) (h : Calls Try.prog 28 #[.pointer (some ⟨b, 0, none⟩), .int .i64 id] (w.alloc (.cells #[.int .i64 0, .int .i64 0] 31)) fun r w' => r = .returned (.tuple #[.int .i64 0, .int .i64 e]) ∧ w.alloc (.cells #[.int .i64 0, .int .i64 0] 31) = w') :
    Calls Try.prog 12 #[.pointer (some ⟨b, 0, none⟩), .int .i64 id] w fun r w' => r = .returned (.tuple #[.agg #[.int .i64 0, .int .i64 0], .int .i64 e]) ∧ Upd [] w w' := by
  have H := Lib.hid h; clear h
  have h2 : (e == 0) = false := by rcases he with rfl | rfl <;> rfl
  have h3 : (e != 0) = true := by rcases he with rfl | rfl <;> rfl
  clear he
  go_enter Try.func12, Try.ntmps12
  go_wp2_with (go_at_call 28; refine H.out.mono ?_; rintro e w' ⟨rfl, rfl⟩)
  go_returns
  exact ⟨rfl, (Upd.refl _ _).alloc _⟩
theorem get_none (b m : Nat) (f : Nat → Nat) (i : Nat) (w : World) (h : ClAt w b m f) (hi : i < 256) (hf : f i = 0) :
    Calls Try.prog 12 #[.pointer (some ⟨b, 0, none⟩), .int .i64 i] w fun e w' => e = .returned (.tuple #[.agg #[.int .i64 0, .int .i64 0], .int .i64 5]) ∧ Upd [] w w' :=
  get_err b i 5 w (.inl rfl) ((find_in b m f i _ (h.upd ((Upd.refl [] w).alloc _) (by simp) (by simp)) hi).mono (by rw [findE, if_pos hf, hf]; exact fun _ _ h => h))
theorem get_beyond (b m : Nat) (f : Nat → Nat) (id : Int) (w : World) (h : ClAt w b m f) (hi : id < 0 ∨ 256 ≤ id) :
    Calls Try.prog 12 #[.pointer (some ⟨b, 0, none⟩), .int .i64 id] w fun e w' => e = .returned (.tuple #[.agg #[.int .i64 0, .int .i64 0], .int .i64 3]) ∧ Upd [] w w' :=
  get_err b id 3 w (.inr rfl) (find_beyond b m f id _ (h.upd ((Upd.refl [] w).alloc _) (by simp) (by simp)) hi)

theorem copy_at (b m : Nat) (f : Nat → Nat) (w : World) (h : ClAt w b m f) :
    Calls Try.prog 25 #[.pointer (some ⟨b, 0, none⟩)] w fun e w' => ∃ b2 m2, e = .returned (.pointer (some ⟨b2, 0, none⟩)) ∧ ClAt w' b2 m2 f ∧ Upd [] w w' ∧ w.heap.size ≤ b2 ∧ w.heap.size ≤ m2 := by
  obtain ⟨D, hb, hown, hr⟩ := h
  have c0 := cell_of hb 0
  clear hb
  have q := fun (w : World) => run_eql_map_nil (P := Try.prog) w 58 3 3 (some m) Try.underlying58
  have HOWN := Lib.hid hown; clear hown
  go_enter Try.func25, Try.ntmps25
  go_wp2_with (go_at_call 32; refine (clone_at m D _ HOWN.out).mono ?_; rintro e w1 ⟨rfl, hown1, u1⟩)
  go_ret
  refine ⟨_, _, rfl, ⟨D, new_of _ _, hown1.alloc _, hr⟩, u1.alloc _, u1.size, Nat.le_refl _⟩

end Go.Proofs.Ytphpimbhhmkdkaa
