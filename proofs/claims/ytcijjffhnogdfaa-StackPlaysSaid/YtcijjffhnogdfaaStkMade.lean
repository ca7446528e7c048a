/-
  What 'made' returns: a stack behind turns, and the slots that it holds by the turns alone. Conditions: at most 1000 turns.
-/
import Derived.Test.YtcijjffhnogdfaaStkWorks
namespace Go.Proofs.Ytcijjffhnogdfaa
open Go.RowKit

/-- One turn by a number. -/
def turnS (s : St) (u : Int) : St :=
  if u < 200 then (if s.l.length = s.size then { s with over := true } else { s with l := s.l ++ [u], most := max s.most (s.l.length + 1) })
  else if u < 230 then { s with l := s.l.dropLast }
  else if u < 250 then { s with over := false }
  else { size := s.size, l := [], over := false, most := 0 }
theorem turn_full {s : St} {u : Int} (h : u < 200) (hf : s.l.length = s.size) : turnS s u = { s with over := true } := by simp [turnS, h, hf]
theorem turn_room {s : St} {u : Int} (h : u < 200) (hf : s.l.length < s.size) : turnS s u = { s with l := s.l ++ [u], most := max s.most (s.l.length + 1) } := by
  have : ¬ s.l.length = s.size := by omega
  simp [turnS, h, this]
theorem turn_pop {s : St} {u : Int} (h : 200 ≤ u) (h2 : u < 230) : turnS s u = { s with l := s.l.dropLast } := by
  have : ¬ u < 200 := by omega
  simp [turnS, this, h2]
theorem turn_settle {s : St} {u : Int} (h : 230 ≤ u) (h2 : u < 250) : turnS s u = { s with over := false } := by
  have h0 : ¬ u < 200 := by omega
  have h1 : ¬ u < 230 := by omega
  simp [turnS, h0, h1, h2]
theorem turn_clear {s : St} {u : Int} (h : 250 ≤ u) : turnS s u = { size := s.size, l := [], over := false, most := 0 } := by
  have h0 : ¬ u < 200 := by omega
  have h1 : ¬ u < 230 := by omega
  have h2 : ¬ u < 250 := by omega
  simp [turnS, h0, h1, h2]
def runS (n : Nat) (us : List Int) : St := us.foldl turnS { size := n, l := [], over := false, most := 0 }
theorem runS_snoc (n : Nat) (us : List Int) (u : Int) : runS n (us ++ [u]) = turnS (runS n us) u := by simp [runS]
theorem turnS_size (s : St) (u : Int) : (turnS s u).size = s.size := by unfold turnS; split; split; rfl; rfl; split; rfl; split; rfl; rfl
theorem foldS_size (us : List Int) : ∀ s : St, (us.foldl turnS s).size = s.size := by
  induction us with
  | nil => intro s; rfl
  | cons u us ih => intro s; rw [List.foldl_cons, ih, turnS_size]
theorem runS_size (n : Nat) (us : List Int) : (runS n us).size = n := foldS_size us _

theorem info3 : (Try.prog.info? 3).map (fun i => (i.zero, i.size, i.bytes)) = some (some (.int .i64 0), 1, 8) := by kernel_rfl

/-- What 'made' comes to. -/
def MadePost (n : Nat) (us : List Int) (w : World) (e : Ending) (w' : World) : Prop :=
  ∃ want, e = .returned (.tuple #[.pointer (some ⟨w.heap.size, 0, none⟩), want, .bool (runS n us).over]) ∧ StAt w' w.heap.size (runS n us) ∧
    w'.ownsRow w.heap.size 3 1 want (runS n us).l.length ((runS n us).l.map (Value.int .i64)) ∧ Upd [] w w'

/-- What holds at every round's head. -/
def MadeRel (n : Nat) (us : List Int) (w : World) (k : Nat) (want over : Value) (wr : World) : Prop :=
  over = .bool (runS n (us.take k)).over ∧ StAt wr w.heap.size (runS n (us.take k)) ∧
    wr.ownsRow w.heap.size 3 1 want (runS n (us.take k)).l.length ((runS n (us.take k)).l.map (Value.int .i64)) ∧ Upd [] w wr

theorem rel_mk {n : Nat} {us : List Int} {w : World} {k : Nat} {want over : Value} {wr : World} {B : Nat} (s : St) (hB : w.heap.size = B) (h : runS n (us.take (k + 1)) = s) (h1 : over = .bool s.over) (h2 : StAt wr B s)
    (h3 : wr.ownsRow B 3 1 want s.l.length (s.l.map (Value.int .i64))) (h4 : Upd [] w wr) : MadeRel n us w (k + 1) want over wr := by
  subst h; subst hB; exact ⟨h1, h2, h3, h4⟩
theorem StAt.upd {S : List Nat} {w w' : World} {b : Nat} {s : St} (h : StAt w b s) (u : Upd S w w') (hn : b ∉ S) : StAt w' b s := by
  obtain ⟨h1, t, h2, h3⟩ := h
  exact ⟨h1, t, h2, u.keep h3 hn⟩
theorem StAt.lt {w : World} {b : Nat} {s : St} (h : StAt w b s) : b < w.heap.size := by
  obtain ⟨_, _, _, h3⟩ := h
  exact lt_of_block h3
theorem StAt.ne {w : World} {b : Nat} {s : St} (h : StAt w b s) {base n : Nat} {v : Value} {xs : List Value} (ho : w.ownsRow base 3 1 v n xs) : v.ownBlock ≠ some b := by
  obtain ⟨_, _, _, h3⟩ := h
  exact owns_ne ho h3 (by decide)
theorem StAt.grown {w w' : World} {b : Nat} {s : St} {row : Option Nat} (h : StAt w b s) (g : w.grownBy w' row) (hn : row ≠ some b) : StAt w' b s := by
  obtain ⟨h1, t, h2, h3⟩ := h
  exact ⟨h1, t, h2, grown_keep g h3 hn⟩
theorem StAt.alloc {w : World} {b : Nat} {s : St} (h : StAt w b s) (o : Obj) : StAt (w.alloc o) b s := h.upd ((Upd.refl [] w).alloc o) (by simp)

set_option maxHeartbeats 1000000 in
theorem made_ok (sz : Int) (h0 : 0 ≤ sz) (h1 : sz < 256) (v : Value) (us : List Int) (w : World) (hv : Bytes .u8 w v us) :
    Calls Try.prog 12 #[.int .u8 sz, v] w (MadePost (1 + sz % 64).toNat us w) := by
  obtain ⟨a, cap, rfl, hlc, hcm, hwf, hnil, hrd⟩ := hv
  have hm : us.length ≤ 9223372036854775807 := by unfold maxLen at hcm; omega
  have HWF := Lib.hid hwf; clear hwf
  have HRD := Lib.hid hrd; clear hrd
  have HNIL := Lib.hid hnil; clear hnil
  obtain ⟨i0, hi, hz0, hz1, hz2⟩ := info_parts info3
  go_enter Try.func12, Try.ntmps12
  go_wp2_with fail
  have hn1 : 1 ≤ 1 + sz % 64 := by omega
  have hn2 : 1 + sz % 64 ≤ 64 := by omega
  generalize 1 + sz % 64 = m at *
  obtain ⟨n, rfl⟩ := Int.eq_ofNat_of_zero_le (show 0 ≤ m by omega)
  rw [Int.toNat_natCast]
  refine (new_ok n _ (by omega) (by omega)).mono ?_; rintro e w1 ⟨rfl, a1, u1⟩
  generalize hB : w.heap.size = B at a1 ⊢
  have HB := Lib.hid hB; clear hB
  go_wp2_with fail
  go_loopw [10, 11, 12] (fun want over i wr => ∃ k : Nat, k ≤ us.length ∧ i = .int .i64 k ∧ MadeRel n us w k want over wr) (fun _ _ i _ => us.length - (intOf i).toNat)
  case atStart =>
    refine ⟨0, by omega, rfl, rfl, ?_⟩
    rw [HB.out]
    exact ⟨a1, World.ownsRow_nil _ _ _ _, u1⟩
  case round =>
    obtain ⟨k, hk, rfl, rfl, hst, hown, hup⟩ := hrel
    rw [HB.out] at hst hown
    obtain ⟨wa, wc, rfl⟩ := ownsRow_slice hown
    by_cases hlt : k < us.length
    · have hw := wf_u8 (HWF.out _ (List.getElem_mem hlt))
      obtain ⟨ab, off, rfl, hab, hc⟩ : ∃ b off, a = some ⟨b, off, none⟩ ∧ b < w.heap.size ∧ ∀ i u, us[i]? = some u → w.cell? ⟨b, off + i, none⟩ = some (.int .u8 u) := by
        rcases HRD.out with h | h
        · rw [h] at hlt; simp at hlt
        · exact h
      have hcell : wr.cell? ⟨ab, off + k, none⟩ = some (.int .u8 us[k]) := by
        rw [hup.cell hab (by simp)]; exact hc k _ (List.getElem?_eq_getElem hlt)
      have hts : runS n (us.take (k + 1)) = turnS (runS n (us.take k)) us[k] := by
        rw [List.take_succ_eq_append_getElem hlt, runS_snoc]
      have hsz : (runS n (us.take k)).size = n := runS_size _ _
      have HT := Lib.hid hts; clear hts
      clear hc
      have hne : (Value.slice wa (runS n (us.take k)).l.length wc).ownBlock ≠ some B := by
        obtain ⟨_, _, _, hb⟩ := hst
        exact owns_ne hown hb (by decide)
      have hBw : B < wr.heap.size := by obtain ⟨_, _, _, hb⟩ := hst; exact lt_of_block hb
      have habB : ab ≠ B := by have := HB.out; omega
      generalize us[k] = u at *
      generalize runS n (us.take k) = s at *
      have hl64 : s.l.length ≤ 64 := by have := hst.1; simp only [St.ok] at this; omega
      obtain ⟨hu0, hu1⟩ := hw
      have HS := Lib.hid hsz; clear hsz
      by_cases hu2 : u < 200
      · by_cases hfull : s.l.length = s.size
        · have e1 : decide (s.l.length < n) = false := by have := HS.out; simp; omega
          have HF := Lib.hid hfull; clear hfull
          go_wp2_with (go_at_call 17; refine (push_full B s u _ hst hu0 (by omega) HF.out).mono ?_; rintro e w2 ⟨rfl, a2, u2⟩)
          go_roundw
          case rel =>
            refine ⟨k + 1, by omega, by go_num, rel_mk { s with over := true } HB.out ?_ rfl a2 ?_ ?_⟩
            · rw [HT.out]; exact turn_full (by omega) HF.out
            · exact owns_upd hown u2 (fun k hk hm => by simp at hm; subst hm; exact hne hk)
            · exact hup.fresh1 u2 (Nat.le_of_eq HB.out)
          case measure => simp [intOf]; omega
        · have hroom : s.l.length < s.size := by have := hst.1; simp only [St.ok] at this; omega
          have e1 : decide (s.l.length < n) = true := by have := HS.out; simp; omega
          have HF := Lib.hid hfull; clear hfull
          go_wp2_with fail
          refine (push_room B s u _ hst hu0 (by omega) hroom).mono ?_; rintro e w2 ⟨rfl, a2, u2⟩
          have hcell2 : w2.cell? ⟨ab, off + k, none⟩ = some (.int .u8 u) := by
            rw [u2.cell (by have := hup.size; show ab < _; omega) (by simpa using habB)]; exact hcell
          have hown2 := owns_upd hown u2 (fun k hk hm => by simp at hm; subst hm; exact hne hk)
          go_wp2_with (at_builtin; refine wpList_append_own _ rfl _ _ 25 rfl B 3 i0 (.int .i64 0) 1 8 Try.underlying25 hi hz0 hz1 hz2 rfl (by decide) _ _ _ rfl (hown2.alloc _) ⟨w2.heap.size, 0, none⟩ 1 1 [.int .i64 u] rfl rfl ?c1 ?c2 ?c3 ?c4 ?c5 ?_)
          case c1 => exact cell_one_new _ _ _
          case c2 => simp [Value.oneCell']
          case c3 => unfold maxLen; omega
          case c4 => omega
          case c5 => have := u2.size; simp; omega
          intro v' w3 hown3 hgrow _
          go_wp2
          go_roundw
          case rel =>
            refine ⟨k + 1, by omega, by go_num, rel_mk { s with l := s.l ++ [u], most := max s.most (s.l.length + 1) } HB.out ?_ rfl ?_ ?_ ?_⟩
            · rw [HT.out]; exact turn_room (by omega) hroom
            · exact (a2.alloc _).grown hgrow hne
            · simpa using hown3
            · exact ((hup.fresh1 u2 (Nat.le_of_eq HB.out)).alloc _).grown hgrow (fun k hk => by have := (hown2.lt k hk).1; have := HB.out; omega)
          case measure => simp [intOf]; omega
      · by_cases hu3 : u < 230
        · rcases List.eq_nil_or_concat s.l with hl | ⟨l, x, hl⟩
          · have hown0 := hown
            rw [hl] at hown0
            have hlen : s.l.length = 0 := by rw [hl]; rfl
            rw [hlen]
            clear hown
            have HL := Lib.hid hl; clear hl
            have HN := Lib.hid hlen; clear hlen
            rcases hown0.2 with ⟨hv, _⟩ | ⟨g, wcap, _, hv, _⟩
            · obtain ⟨rfl, rfl⟩ : wa = none ∧ wc = 0 := by simpa [HN.out] using hv
              go_wp2_with (go_at_call 15; refine (pop_empty B s _ hst HL.out).mono ?_; rintro e w2 ⟨rfl, rfl⟩)
              go_roundw
              case rel =>
                refine ⟨k + 1, by omega, by go_num, rel_mk { s with l := [] } HB.out ?_ rfl ?_ ?_ hup⟩
                · rw [HT.out, turn_pop (by omega) (by omega), HL.out]; rfl
                · rw [show ({ s with l := [] } : St) = s from by rw [← HL.out]]; exact hst
                · exact World.ownsRow_nil _ _ _ _
              case measure => simp [intOf]; omega
            · obtain ⟨rfl, rfl⟩ : wa = some ⟨g, 0, none⟩ ∧ wc = wcap := by simpa [HN.out] using hv
              go_wp2_with (go_at_call 15; refine (pop_empty B s _ hst HL.out).mono ?_; rintro e w2 ⟨rfl, rfl⟩)
              go_roundw
              case rel =>
                refine ⟨k + 1, by omega, by go_num, rel_mk { s with l := [] } HB.out ?_ rfl ?_ ?_ hup⟩
                · rw [HT.out, turn_pop (by omega) (by omega), HL.out]; rfl
                · rw [show ({ s with l := [] } : St) = s from by rw [← HL.out]]; exact hst
                · exact hown0
              case measure => simp [intOf]; omega
          · rw [List.concat_eq_append] at hl
            have hown0 := hown
            rw [hl] at hown0
            have hlen : s.l.length = l.length + 1 := by rw [hl]; simp
            have hlen' : (s.l.length : Int) = (l.length : Int) + 1 := by rw [hl]; simp
            rw [hlen]
            have hl63 : l.length < 64 := by omega
            clear hown
            have HL := Lib.hid hl; clear hl
            have HN := Lib.hid hlen; clear hlen
            have HN' := Lib.hid hlen'; clear hlen'
            rcases hown0.2 with ⟨hv, _⟩ | ⟨g, wcap, _, hv, _, _, hwc, _⟩
            · simp at hv
            · obtain ⟨rfl, rfl⟩ : wa = some ⟨g, 0, none⟩ ∧ wc = wcap := by simpa [HN.out] using hv
              have hwc' : l.length + 1 ≤ wc := by simpa using hwc
              go_wp2_with (go_at_call 15; refine (pop_some B s l x _ hst HL.out).mono ?_; rintro e w2 ⟨rfl, a2, u2⟩)
              go_roundw
              case rel =>
                refine ⟨k + 1, by omega, by go_num, rel_mk { s with l := l } HB.out ?_ rfl a2 ?_ ?_⟩
                · rw [HT.out, turn_pop (by omega) (by omega), HL.out]; simp
                · have hmx : (if 0 < l.length then (l.length : Int) else 0).toNat = l.length := by split <;> omega
                  rw [hmx]
                  have hp := ownsRow_pop (size := 1) (xs := l.map (Value.int .i64)) (n := l.length) (last := [.int .i64 x]) (by simp) (by simpa [HN.out] using hown0)
                  exact owns_upd hp u2 (fun k hk hm => by simp at hm; subst hm; exact hne hk)
                · exact hup.fresh1 u2 (Nat.le_of_eq HB.out)
              case measure => simp [intOf]; omega
        · by_cases hu4 : u < 250
          · go_wp2_with (go_at_call 19; refine (settle_at B s _ hst).mono ?_; rintro e w2 ⟨rfl, a2, u2⟩)
            go_roundw
            case rel =>
              refine ⟨k + 1, by omega, by go_num, rel_mk { s with over := false } HB.out ?_ rfl a2 ?_ ?_⟩
              · rw [HT.out]; exact turn_settle (by omega) (by omega)
              · exact owns_upd hown u2 (fun k hk hm => by simp at hm; subst hm; exact hne hk)
              · exact hup.fresh1 u2 (Nat.le_of_eq HB.out)
            case measure => simp [intOf]; omega
          · go_wp2_with (go_at_call 20; refine (clear_at B s _ hst).mono ?_; rintro e w2 ⟨rfl, a2, u2⟩)
            go_roundw
            case rel =>
              refine ⟨k + 1, by omega, by go_num, rel_mk { size := s.size, l := [], over := false, most := 0 } HB.out ?_ rfl a2 ?_ ?_⟩
              · rw [HT.out]; exact turn_clear (by omega)
              · exact World.ownsRow_nil _ _ _ _
              · exact hup.fresh1 u2 (Nat.le_of_eq HB.out)
            case measure => simp [intOf]; omega
    · have hkk : us.take k = us := List.take_of_length_le (by omega)
      rw [hkk] at hst hown
      have HK := Lib.hid hkk; clear hkk
      go_wp2
      go_ret3
      rw [HK.out, Int.toNat_natCast]
      exact ⟨_, by rw [HB.out]; rfl, by rw [HB.out]; exact hst, by rw [HB.out]; exact hown, hup⟩

end Go.Proofs.Ytcijjffhnogdfaa
