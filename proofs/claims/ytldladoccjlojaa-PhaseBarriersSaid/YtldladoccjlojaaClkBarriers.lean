/-
  PhaseBarriers: in each cycle a barrier is off up to its answer in Shake, then on up to the end of Trace, then off. Conditions: none.
-/
import Derived.Test.YtldladoccjlojaaClkBar
namespace Go.Proofs.Ytldladoccjlojaa
open Go.RowKit

theorem infoI : (Try.prog.info? 3).map (fun i => (i.zero, i.size, i.bytes)) = some (some (.int .i64 0), 1, 8) := by kernel_rfl
theorem infoB : (Try.prog.info? 4).map (fun i => (i.zero, i.size, i.bytes)) = some (some (.bool false), 1, 1) := by kernel_rfl
theorem makeI (n : Nat) (hn : n ≤ 4) (w : World) : (Instr.makeSlice 34 (.int .i64 (n : Int)) (.int .i64 (n : Int))).run Try.prog w = .ok (.slice (some ⟨w.heap.size, 0, none⟩) n n) (w.alloc (.cells (vcells (fun _ => .int .i64 0) n) 3)) := by
  obtain ⟨i0, hi, hz0, hz1, hz2⟩ := info_parts infoI
  exact make_v 34 3 i0 _ 8 n Try.underlying34 hi hz0 hz1 hz2 rfl .i64 .i64 (by omega) (by omega) w
theorem makeB (n : Nat) (hn : n ≤ 4) (w : World) : (Instr.makeSlice 27 (.int .i64 (n : Int)) (.int .i64 (n : Int))).run Try.prog w = .ok (.slice (some ⟨w.heap.size, 0, none⟩) n n) (w.alloc (.cells (vcells (fun _ => .bool false) n) 4)) := by
  obtain ⟨i0, hi, hz0, hz1, hz2⟩ := info_parts infoB
  exact make_v 27 4 i0 _ 1 n Try.underlying27 hi hz0 hz1 hz2 rfl .i64 .i64 (by omega) (by omega) w

/-- Counts and barriers as values. -/
def chN (k : Ck) (j : Nat) : Value := .int .i64 (k.chg j)
def chO (k q : Ck) (j : Nat) : Value := .int .i64 (if q.p = 0 then 0 else k.chg j : Nat)
def baN (k : Ck) (j : Nat) : Value := .bool (k.bar j)

set_option maxRecDepth 100000 in
set_option maxHeartbeats 16000000 in
theorem barriers_ok (u : Int) (hu0 : 0 ≤ u) (hu1 : u < 256) (v : Value) (us : List Int) (w : World) (hv : Bytes .u8 w v us) :
    Calls Try.prog 4 #[.int .u8 u, v] w fun e w' => e = .returned (.bool true) ∧ Upd [] w w' := by
  have HV := Lib.hid hv
  obtain ⟨a, cap, rfl, hcc, hcm, _⟩ := hv
  have hm : cap ≤ 9223372036854775807 := by unfold maxLen at hcm; omega
  obtain ⟨n, hn⟩ : ∃ n : Nat, 1 + u % 4 = n := ⟨(1 + u % 4).toNat, by omega⟩
  have hn1 : 1 ≤ n := by omega
  have hn4 : n ≤ 4 := by omega
  by_cases hlong : 300 < us.length
  · go_enter Try.func4, Try.ntmps4
    go_wp2_with fail
    refine (works_ok _).mono ?_; rintro e w1 ⟨rfl, u1⟩
    go_wp2_with fail
    go_ret
    exact ⟨rfl, u1⟩
  · have HN := Lib.hid hn; clear hn
    have hmI := makeI n hn4
    have hmB := makeB n hn4
    go_enter Try.func4, Try.ntmps4
    go_wp2_with fail
    refine (begin_ok u n _ hu0 hu1 HN.out).mono ?_; rintro e w1 ⟨rfl, a1, u1⟩
    have hw0 : w.heap.size ≤ w.heap.size := Nat.le_refl _
    generalize hb : w.heap.size = b at a1 ⊢
    have HW := Lib.hid (Nat.le_of_eq hb); clear hb hw0
    have hbl := a1.lt
    go_wp2_with fail
    have r1 : VRow (w1.alloc (.cells (vcells (fun _ => .int .i64 0) n) 3)) w1.heap.size 3 n (fun _ => .int .i64 0) := VRow.new _ _ _ _
    have u2 : Upd [] w1 (w1.alloc (.cells (vcells (fun _ => .int .i64 0) n) 3)) := (Upd.refl _ _).alloc _
    have hg1 : b < w1.heap.size := hbl
    have hg0 : w.heap.size ≤ w1.heap.size := u1.size
    have a2 := a1.upd u2 (by simp)
    have up2 := u1.trans u2
    generalize hx : w1.alloc (.cells (vcells (fun _ => .int .i64 0) n) 3) = w2 at *
    have hsz2 : w1.heap.size < w2.heap.size := r1.lt
    have hsz2' : w1.heap.size + 1 = w2.heap.size := by rw [← hx]; simp
    rw [hsz2']
    clear hx hsz2'
    generalize w1.heap.size = gc at *
    have r2 : VRow (w2.alloc (.cells (vcells (fun _ => .bool false) n) 4)) w2.heap.size 4 n (fun _ => .bool false) := VRow.new _ _ _ _
    have u3 : Upd [] w2 (w2.alloc (.cells (vcells (fun _ => .bool false) n) 4)) := (Upd.refl _ _).alloc _
    have r1' := r1.upd u3 (by simp)
    have a3 := a2.upd u3 (by simp)
    have up3 := up2.trans u3
    have hw0 : w.heap.size ≤ w2.heap.size := up2.size
    generalize w2.alloc (.cells (vcells (fun _ => .bool false) n) 4) = w3 at *
    generalize w2.heap.size = gw at *
    have hwb : gw ≠ b := by omega
    clear r1 u2 u3 a2 up2 a1 u1
    go_loopw [7, 9] (fun y x wr => ∃ (i : Nat) (k : Ck) (gc : Nat), i ≤ us.length ∧ x = .int .i64 i ∧ y = .slice (some ⟨gc, 0, none⟩) n n ∧ CkAt wr b k ∧ k.n = n ∧ k.c ≤ i ∧ k.inv ∧
        VRow wr gc 3 n (fun j => .int .i64 (k.chg j)) ∧ VRow wr gw 4 n (fun j => .bool (k.bar j)) ∧ gc ≠ b ∧ gc ≠ gw ∧ w.heap.size ≤ gc ∧ Upd [] w wr) (fun _ x _ => us.length - (intOf x).toNat)
    case atStart =>
      exact ⟨0, _, gc, by omega, rfl, rfl, a3, rfl, by simp [ckNew], inv_new _, r1', r2, by omega, by omega, hg0, up3⟩
    case round =>
      clear r1' r2 a3 hsz2
      obtain ⟨i, k, gc, hi, rfl, rfl, hk, hkn, hkc, hinv, rc, rb, hne1, hne2, hgc, hup⟩ := hrel
      by_cases hlt : i < us.length
      · obtain ⟨ab, off, rfl, hab, hcell, hwf⟩ := (HV.out.upd hup (by simp)).at hlt
        obtain ⟨ht0, ht1⟩ := wf_u8 hwf
        have hT := turn_at b k us[i] wr hk ht0 ht1 (by omega)
        rw [hkn] at hT
        have KN := Lib.hid hkn; clear hkn
        have hokk := hk.1
        have HST := Lib.hid (fun m hm => bar_step k us[i] m hokk hm)
        have hc2 := turn_c k us[i]
        have TN := Lib.hid ((turn_n k us[i]).trans KN.out)
        have TI := Lib.hid (inv_turn k us[i] hinv)
        generalize us[i] = t at *
        clear hokk hinv
        go_wp2_with fail
        refine (phase_at b k _ hk).mono ?_; rintro e wx ⟨rfl, rfl⟩
        go_wp2_with fail
        refine hT.mono ?_; clear hT; rintro e w4 ⟨rfl, a4, u4⟩
        have hw := HW.out
        have up4 := hup.fresh1 u4 hw
        have rc4 := rc.upd u4 (by simpa using hne1)
        have rb4 := rb.upd u4 (by simpa using hwb)
        clear rc rb hk hup u4 hcell
        generalize k.turn t = q at *
        have hq5 : q.p = 0 ∨ q.p = 1 ∨ q.p = 2 ∨ q.p = 3 ∨ q.p = 4 ∨ q.p = 5 := by have := a4.1.2.2.1; omega
        go_wp2_with fail
        refine (phase_at b q _ a4).mono ?_
        rcases hq5 with hp | hp | hp | hp | hp | hp
        · as_aux_lemma =>
          rw [hp]; rintro e wx ⟨rfl, rfl⟩
          have HP := Lib.hid hp; clear hp
          go_wp2_with fail
          have r1 : VRow (w4.alloc (.cells (vcells (fun _ => .int .i64 0) n) 3)) w4.heap.size 3 n (fun _ => .int .i64 0) := VRow.new _ _ _ _
          have u5 : Upd [] w4 (w4.alloc (.cells (vcells (fun _ => .int .i64 0) n) 3)) := (Upd.refl _ _).alloc _
          have a5 := a4.upd u5 (by simp)
          have rb5 := rb4.upd u5 (by simp)
          have up5 := up4.trans u5
          have hbl := a4.lt
          have hgl := rb4.lt
          have hwl := up4.size
          generalize w4.alloc (.cells (vcells (fun _ => .int .i64 0) n) 3) = w5 at *
          have hne3 : w4.heap.size ≠ b := by omega
          have hne4 : w4.heap.size ≠ gw := by omega
          generalize w4.heap.size = gd at *
          have rc5 : VRow w5 gd 3 n (half (chN q) (chO k q) 0) := r1.congr (fun j _ => by rw [half_zero, chO, if_pos HP.out]; rfl)
          have rb5' : VRow w5 gw 4 n (half (baN q) (baN k) 0) := rb5.congr (fun j _ => by rw [half_zero]; rfl)
          clear rc4 rb4 rb5 u5 a4 up4 hne1 hne2 r1
          obtain ⟨wo, rfl⟩ : ∃ wo : World, wo = wr := ⟨_, rfl⟩
          go_loopw [12] (fun x wr => ∃ m : Nat, m ≤ n ∧ x = .int .i64 m ∧ CkAt wr b q ∧ VRow wr gd 3 n (half (chN q) (chO k q) m) ∧ VRow wr gw 4 n (half (baN q) (baN k) m) ∧ Upd [] w wr) (fun x _ => n - (intOf x).toNat)
          case atStart => exact ⟨0, by omega, rfl, a5, rc5, rb5', up5⟩
          case round =>
            clear a5 rc5 rb5' up5
            obtain ⟨m, hm, rfl, hk, rc, rb, hup⟩ := hrel
            by_cases hlt2 : m < n
            · have hmq : m < q.n := by rw [TN.out]; exact hlt2
              have hmk : m < k.n := by rw [KN.out]; exact hlt2
              obtain ⟨h1, h2, h3⟩ := HST.out m hmk
              have cc := rc.cell hlt2
              have cb := rb.cell hlt2
              have fc := rc.free m
              have fb := rb.free m
              have hgl := rc.lt
              have hgl2 := rb.lt
              rw [half_at, chO, if_pos HP.out] at cc
              rw [if_pos HP.out] at h3
              rw [half_at, baN] at cb
              have hle := chg_le k m
              have hle2 := chg_le q m
              have hBr := barrier_in b q m _ hk hmq
              have hSe := fun w' (h : CkAt w' b q) => seen_in b q m w' h hmq
              have HBQ := Lib.hid (bar_0 (m := m) HP.out)
              have HSE := Lib.hid hSe; clear hSe
              have hq : q.bar m = false := HBQ.out
              cases hB : k.bar m
              · have HQ := Lib.hid hq; have HK := Lib.hid hB
                rw [hq] at hBr h1 h2 h3
                rw [hB] at cb h1 h2 h3
                clear hq hB
                rw [if_pos rfl] at h3
                have H3 := Lib.hid h3
                clear h1 h2 h3
                have RC := Lib.hid rc; have RB := Lib.hid rb; clear rc rb
                go_wp2_with fail
                refine hBr.mono ?_; clear hBr; rintro e wx ⟨rfl, rfl⟩
                go_wp2_with fail
                refine (HSE.out _ hk).mono ?_; rintro e wx ⟨rfl, rfl⟩
                go_wp2_with fail
                go_roundw
                case rel =>
                  refine ⟨m + 1, by omega, by go_num, hk.upd (S := [gw]) ((Upd.refl _ _).setCell (by simp) _) (by simpa using hwb.symm), ?_, ?_, hup.fresh1 (k := gw) ((Upd.refl _ _).setCell (by simp) _) hw0⟩
                  · exact (RC.out.upd (S := [gw]) ((Upd.refl _ _).setCell (by simp) _) (by simpa using hne4)).congr (fun j _ => half_keep (by rw [chN, chO, H3.out, if_pos HP.out]) j)
                  · exact (RB.out.set m _).congr (fun j _ => half_set (by rw [baN, HQ.out]) j)
                case measure => simp [intOf]; omega
              · have HQ := Lib.hid hq; have HK := Lib.hid hB
                rw [hq] at hBr h1 h2 h3
                rw [hB] at cb h1 h2 h3
                clear hq hB
                have hkp : k.p = 3 := h2 rfl rfl
                have hkpi : (k.p : Int) = 3 := by omega
                have kb1 : ((k.p : Int) == 3) = true := by simp [hkp]
                have kb2 : ((k.p : Int) != 3) = false := by simp [hkp]
                clear hkp hkpi
                rw [if_neg (by simp)] at h3
                have H3 := Lib.hid h3
                have hlt3 : (0 : Nat) + 1 ≤ 2 := by omega
                clear h1 h2 h3
                have RC := Lib.hid rc; have RB := Lib.hid rb; clear rc rb
                go_wp2_with fail
                refine hBr.mono ?_; clear hBr; rintro e wx ⟨rfl, rfl⟩
                go_wp2_with fail
                refine (HSE.out _ hk).mono ?_; rintro e wx ⟨rfl, rfl⟩
                go_wp2_with fail
                go_roundw
                case rel =>
                  refine ⟨m + 1, by omega, by go_num, hk.upd (S := [gd, gw]) (((Upd.refl _ _).setCell (by simp) _).setCell (by simp) _) (by simp; exact ⟨hne3.symm, hwb.symm⟩), ?_, ?_, (hup.fresh1 (k := gd) ((Upd.refl _ _).setCell (by simp) _) hwl).fresh1 (k := gw) ((Upd.refl _ _).setCell (by simp) _) hw0⟩
                  · exact ((RC.out.set m _).upd (S := [gw]) ((Upd.refl _ _).setCell (by simp) _) (by simpa using hne4)).congr (fun j _ => half_set (by rw [chN, H3.out]; rfl) j)
                  · exact ((RB.out.upd (S := [gd]) ((Upd.refl _ _).setCell (by simp) _) (by simpa using hne4.symm)).set m _).congr (fun j _ => half_set (by rw [baN, HQ.out]) j)
                case measure => simp [intOf]; omega
            · obtain rfl : m = n := by omega
              have rc' : VRow wr gd 3 m (fun j => .int .i64 (q.chg j)) := rc.congr (fun j hj => half_full hj)
              have rb' : VRow wr gw 4 m (fun j => .bool (q.bar j)) := rb.congr (fun j hj => half_full hj)
              clear rc rb HST
              go_wp2_with fail
              refine (barrier_beyond b q _ _ hk (.inr (by rw [TN.out]; omega))).mono ?_; rintro e wx ⟨rfl, rfl⟩
              go_wp2_with fail
              refine (barrier_beyond b q _ _ hk (.inl (by omega))).mono ?_; rintro e wx ⟨rfl, rfl⟩
              go_wp2_with fail
              go_roundw
              case rel => exact ⟨i + 1, q, gd, by omega, by go_num, rfl, hk, TN.out, by omega, TI.out, rc', rb', hne3, hne4, hwl, hup⟩
              case measure => simp [intOf]; omega
        · as_aux_lemma =>
          rw [hp]; rintro e wx ⟨rfl, rfl⟩
          have HP := Lib.hid hp; clear hp
          have rc5 : VRow w4 gc 3 n (half (chN q) (chO k q) 0) := rc4.congr (fun j _ => by rw [half_zero, chO, if_neg (by rw [HP.out]; omega)])
          have rb5 : VRow w4 gw 4 n (half (baN q) (baN k) 0) := rb4.congr (fun j _ => by rw [half_zero]; rfl)
          clear rc4 rb4
          go_wp2_with fail
          obtain ⟨wo, rfl⟩ : ∃ wo : World, wo = wr := ⟨_, rfl⟩
          go_loopw [12] (fun x wr => ∃ m : Nat, m ≤ n ∧ x = .int .i64 m ∧ CkAt wr b q ∧ VRow wr gc 3 n (half (chN q) (chO k q) m) ∧ VRow wr gw 4 n (half (baN q) (baN k) m) ∧ Upd [] w wr) (fun x _ => n - (intOf x).toNat)
          case atStart => exact ⟨0, by omega, rfl, a4, rc5, rb5, up4⟩
          case round =>
            clear a4 rc5 rb5 up4
            obtain ⟨m, hm, rfl, hk, rc, rb, hup⟩ := hrel
            by_cases hlt2 : m < n
            · have hmq : m < q.n := by rw [TN.out]; exact hlt2
              have hmk : m < k.n := by rw [KN.out]; exact hlt2
              obtain ⟨h1, h2, h3⟩ := HST.out m hmk
              have cc := rc.cell hlt2
              have cb := rb.cell hlt2
              have fc := rc.free m
              have fb := rb.free m
              have hgl := rc.lt
              have hgl2 := rb.lt
              rw [half_at, chO, if_neg (by rw [HP.out]; omega)] at cc
              rw [if_neg (by rw [HP.out]; omega)] at h3
              rw [half_at, baN] at cb
              have hle := chg_le k m
              have hle2 := chg_le q m
              have hBr := barrier_in b q m _ hk hmq
              have hSe := fun w' (h : CkAt w' b q) => seen_in b q m w' h hmq
              have HBQ := Lib.hid (bar_1 (m := m) HP.out)
              have HSE := Lib.hid hSe; clear hSe
              cases hq : q.bar m <;> cases hB : k.bar m
              · have HQ := Lib.hid hq; have HK := Lib.hid hB
                rw [hq] at hBr h1 h2 h3
                rw [hB] at cb h1 h2 h3
                have hs : q.s m = false := by rw [← HBQ.out]; exact hq
                have HSQ := Lib.hid hs; clear hs
                clear hq hB
                rw [if_pos rfl] at h3
                have H3 := Lib.hid h3
                clear h1 h2 h3
                have RC := Lib.hid rc; have RB := Lib.hid rb; clear rc rb
                go_wp2_with fail
                refine hBr.mono ?_; clear hBr; rintro e wx ⟨rfl, rfl⟩
                go_wp2_with fail
                refine (HSE.out _ hk).mono ?_; rw [HSQ.out]; rintro e wx ⟨rfl, rfl⟩
                go_wp2_with fail
                go_roundw
                case rel =>
                  refine ⟨m + 1, by omega, by go_num, hk.upd (S := [gw]) ((Upd.refl _ _).setCell (by simp) _) (by simpa using hwb.symm), ?_, ?_, hup.fresh1 (k := gw) ((Upd.refl _ _).setCell (by simp) _) hw0⟩
                  · exact (RC.out.upd (S := [gw]) ((Upd.refl _ _).setCell (by simp) _) (by simpa using hne2)).congr (fun j _ => half_keep (by rw [chN, chO, H3.out, if_neg (by rw [HP.out]; omega)]; rfl) j)
                  · exact (RB.out.set m _).congr (fun j _ => half_set (by rw [baN, HQ.out]) j)
                case measure => simp [intOf]; omega
              · have HQ := Lib.hid hq; have HK := Lib.hid hB
                rw [hq] at hBr h1 h2 h3
                rw [hB] at cb h1 h2 h3
                have hs : q.s m = false := by rw [← HBQ.out]; exact hq
                have HSQ := Lib.hid hs; clear hs
                clear hq hB
                have hkp : k.p = 3 := h2 rfl rfl
                have hkpi : (k.p : Int) = 3 := by omega
                have kb1 : ((k.p : Int) == 3) = true := by simp [hkp]
                have kb2 : ((k.p : Int) != 3) = false := by simp [hkp]
                clear hkp hkpi
                rw [if_neg (by simp)] at h3
                have H3 := Lib.hid h3
                have hlt3 : k.chg m + 1 ≤ 2 := by omega
                clear h1 h2 h3
                have RC := Lib.hid rc; have RB := Lib.hid rb; clear rc rb
                go_wp2_with fail
                refine hBr.mono ?_; clear hBr; rintro e wx ⟨rfl, rfl⟩
                go_wp2_with fail
                refine (HSE.out _ hk).mono ?_; rw [HSQ.out]; rintro e wx ⟨rfl, rfl⟩
                go_wp2_with fail
                go_roundw
                case rel =>
                  refine ⟨m + 1, by omega, by go_num, hk.upd (S := [gc, gw]) (((Upd.refl _ _).setCell (by simp) _).setCell (by simp) _) (by simp; exact ⟨hne1.symm, hwb.symm⟩), ?_, ?_, (hup.fresh1 (k := gc) ((Upd.refl _ _).setCell (by simp) _) hgc).fresh1 (k := gw) ((Upd.refl _ _).setCell (by simp) _) hw0⟩
                  · exact ((RC.out.set m _).upd (S := [gw]) ((Upd.refl _ _).setCell (by simp) _) (by simpa using hne2)).congr (fun j _ => half_set (by rw [chN, H3.out]; rfl) j)
                  · exact ((RB.out.upd (S := [gc]) ((Upd.refl _ _).setCell (by simp) _) (by simpa using hne2.symm)).set m _).congr (fun j _ => half_set (by rw [baN, HQ.out]) j)
                case measure => simp [intOf]; omega
              · have HQ := Lib.hid hq; have HK := Lib.hid hB
                rw [hq] at hBr h1 h2 h3
                rw [hB] at cb h1 h2 h3
                have hs : q.s m = true := by rw [← HBQ.out]; exact hq
                have HSQ := Lib.hid hs; clear hs
                clear hq hB
                have hkp : k.p = 1 := h1 rfl rfl
                have hkpi : (k.p : Int) = 1 := by omega
                have kb1 : ((k.p : Int) == 1) = true := by simp [hkp]
                have kb2 : ((k.p : Int) != 1) = false := by simp [hkp]
                clear hkp hkpi
                rw [if_neg (by simp)] at h3
                have H3 := Lib.hid h3
                have hlt3 : k.chg m + 1 ≤ 2 := by omega
                clear h1 h2 h3
                have RC := Lib.hid rc; have RB := Lib.hid rb; clear rc rb
                go_wp2_with fail
                refine hBr.mono ?_; clear hBr; rintro e wx ⟨rfl, rfl⟩
                go_wp2_with fail
                refine (HSE.out _ hk).mono ?_; rw [HSQ.out]; rintro e wx ⟨rfl, rfl⟩
                go_wp2_with fail
                go_roundw
                case rel =>
                  refine ⟨m + 1, by omega, by go_num, hk.upd (S := [gc, gw]) (((Upd.refl _ _).setCell (by simp) _).setCell (by simp) _) (by simp; exact ⟨hne1.symm, hwb.symm⟩), ?_, ?_, (hup.fresh1 (k := gc) ((Upd.refl _ _).setCell (by simp) _) hgc).fresh1 (k := gw) ((Upd.refl _ _).setCell (by simp) _) hw0⟩
                  · exact ((RC.out.set m _).upd (S := [gw]) ((Upd.refl _ _).setCell (by simp) _) (by simpa using hne2)).congr (fun j _ => half_set (by rw [chN, H3.out]; rfl) j)
                  · exact ((RB.out.upd (S := [gc]) ((Upd.refl _ _).setCell (by simp) _) (by simpa using hne2.symm)).set m _).congr (fun j _ => half_set (by rw [baN, HQ.out]) j)
                case measure => simp [intOf]; omega
              · have HQ := Lib.hid hq; have HK := Lib.hid hB
                rw [hq] at hBr h1 h2 h3
                rw [hB] at cb h1 h2 h3
                have hs : q.s m = true := by rw [← HBQ.out]; exact hq
                have HSQ := Lib.hid hs; clear hs
                clear hq hB
                rw [if_pos rfl] at h3
                have H3 := Lib.hid h3
                clear h1 h2 h3
                have RC := Lib.hid rc; have RB := Lib.hid rb; clear rc rb
                go_wp2_with fail
                refine hBr.mono ?_; clear hBr; rintro e wx ⟨rfl, rfl⟩
                go_wp2_with fail
                refine (HSE.out _ hk).mono ?_; rw [HSQ.out]; rintro e wx ⟨rfl, rfl⟩
                go_wp2_with fail
                go_roundw
                case rel =>
                  refine ⟨m + 1, by omega, by go_num, hk.upd (S := [gw]) ((Upd.refl _ _).setCell (by simp) _) (by simpa using hwb.symm), ?_, ?_, hup.fresh1 (k := gw) ((Upd.refl _ _).setCell (by simp) _) hw0⟩
                  · exact (RC.out.upd (S := [gw]) ((Upd.refl _ _).setCell (by simp) _) (by simpa using hne2)).congr (fun j _ => half_keep (by rw [chN, chO, H3.out, if_neg (by rw [HP.out]; omega)]; rfl) j)
                  · exact (RB.out.set m _).congr (fun j _ => half_set (by rw [baN, HQ.out]) j)
                case measure => simp [intOf]; omega
            · obtain rfl : m = n := by omega
              have rc' : VRow wr gc 3 m (fun j => .int .i64 (q.chg j)) := rc.congr (fun j hj => half_full hj)
              have rb' : VRow wr gw 4 m (fun j => .bool (q.bar j)) := rb.congr (fun j hj => half_full hj)
              clear rc rb HST
              go_wp2_with fail
              refine (barrier_beyond b q _ _ hk (.inr (by rw [TN.out]; omega))).mono ?_; rintro e wx ⟨rfl, rfl⟩
              go_wp2_with fail
              refine (barrier_beyond b q _ _ hk (.inl (by omega))).mono ?_; rintro e wx ⟨rfl, rfl⟩
              go_wp2_with fail
              go_roundw
              case rel => exact ⟨i + 1, q, gc, by omega, by go_num, rfl, hk, TN.out, by omega, TI.out, rc', rb', hne1, hne2, hgc, hup⟩
              case measure => simp [intOf]; omega
        · as_aux_lemma =>
          rw [hp]; rintro e wx ⟨rfl, rfl⟩
          have HP := Lib.hid hp; clear hp
          have rc5 : VRow w4 gc 3 n (half (chN q) (chO k q) 0) := rc4.congr (fun j _ => by rw [half_zero, chO, if_neg (by rw [HP.out]; omega)])
          have rb5 : VRow w4 gw 4 n (half (baN q) (baN k) 0) := rb4.congr (fun j _ => by rw [half_zero]; rfl)
          clear rc4 rb4
          go_wp2_with fail
          obtain ⟨wo, rfl⟩ : ∃ wo : World, wo = wr := ⟨_, rfl⟩
          go_loopw [12] (fun x wr => ∃ m : Nat, m ≤ n ∧ x = .int .i64 m ∧ CkAt wr b q ∧ VRow wr gc 3 n (half (chN q) (chO k q) m) ∧ VRow wr gw 4 n (half (baN q) (baN k) m) ∧ Upd [] w wr) (fun x _ => n - (intOf x).toNat)
          case atStart => exact ⟨0, by omega, rfl, a4, rc5, rb5, up4⟩
          case round =>
            clear a4 rc5 rb5 up4
            obtain ⟨m, hm, rfl, hk, rc, rb, hup⟩ := hrel
            by_cases hlt2 : m < n
            · have hmq : m < q.n := by rw [TN.out]; exact hlt2
              have hmk : m < k.n := by rw [KN.out]; exact hlt2
              obtain ⟨h1, h2, h3⟩ := HST.out m hmk
              have cc := rc.cell hlt2
              have cb := rb.cell hlt2
              have fc := rc.free m
              have fb := rb.free m
              have hgl := rc.lt
              have hgl2 := rb.lt
              rw [half_at, chO, if_neg (by rw [HP.out]; omega)] at cc
              rw [if_neg (by rw [HP.out]; omega)] at h3
              rw [half_at, baN] at cb
              have hle := chg_le k m
              have hle2 := chg_le q m
              have hBr := barrier_in b q m _ hk hmq
              have hSe := fun w' (h : CkAt w' b q) => seen_in b q m w' h hmq
              have HBQ := Lib.hid (bar_2 (m := m) HP.out)
              have HSE := Lib.hid hSe; clear hSe
              have hq : q.bar m = true := HBQ.out
              cases hB : k.bar m
              · have HQ := Lib.hid hq; have HK := Lib.hid hB
                rw [hq] at hBr h1 h2 h3
                rw [hB] at cb h1 h2 h3
                clear hq hB
                have hkp : k.p = 1 := h1 rfl rfl
                have hkpi : (k.p : Int) = 1 := by omega
                have kb1 : ((k.p : Int) == 1) = true := by simp [hkp]
                have kb2 : ((k.p : Int) != 1) = false := by simp [hkp]
                clear hkp hkpi
                rw [if_neg (by simp)] at h3
                have H3 := Lib.hid h3
                have hlt3 : k.chg m + 1 ≤ 2 := by omega
                clear h1 h2 h3
                have RC := Lib.hid rc; have RB := Lib.hid rb; clear rc rb
                go_wp2_with fail
                refine hBr.mono ?_; clear hBr; rintro e wx ⟨rfl, rfl⟩
                go_wp2_with fail
                refine (HSE.out _ hk).mono ?_; rintro e wx ⟨rfl, rfl⟩
                go_wp2_with fail
                go_roundw
                case rel =>
                  refine ⟨m + 1, by omega, by go_num, hk.upd (S := [gc, gw]) (((Upd.refl _ _).setCell (by simp) _).setCell (by simp) _) (by simp; exact ⟨hne1.symm, hwb.symm⟩), ?_, ?_, (hup.fresh1 (k := gc) ((Upd.refl _ _).setCell (by simp) _) hgc).fresh1 (k := gw) ((Upd.refl _ _).setCell (by simp) _) hw0⟩
                  · exact ((RC.out.set m _).upd (S := [gw]) ((Upd.refl _ _).setCell (by simp) _) (by simpa using hne2)).congr (fun j _ => half_set (by rw [chN, H3.out]; rfl) j)
                  · exact ((RB.out.upd (S := [gc]) ((Upd.refl _ _).setCell (by simp) _) (by simpa using hne2.symm)).set m _).congr (fun j _ => half_set (by rw [baN, HQ.out]) j)
                case measure => simp [intOf]; omega
              · have HQ := Lib.hid hq; have HK := Lib.hid hB
                rw [hq] at hBr h1 h2 h3
                rw [hB] at cb h1 h2 h3
                clear hq hB
                rw [if_pos rfl] at h3
                have H3 := Lib.hid h3
                clear h1 h2 h3
                have RC := Lib.hid rc; have RB := Lib.hid rb; clear rc rb
                go_wp2_with fail
                refine hBr.mono ?_; clear hBr; rintro e wx ⟨rfl, rfl⟩
                go_wp2_with fail
                refine (HSE.out _ hk).mono ?_; rintro e wx ⟨rfl, rfl⟩
                go_wp2_with fail
                go_roundw
                case rel =>
                  refine ⟨m + 1, by omega, by go_num, hk.upd (S := [gw]) ((Upd.refl _ _).setCell (by simp) _) (by simpa using hwb.symm), ?_, ?_, hup.fresh1 (k := gw) ((Upd.refl _ _).setCell (by simp) _) hw0⟩
                  · exact (RC.out.upd (S := [gw]) ((Upd.refl _ _).setCell (by simp) _) (by simpa using hne2)).congr (fun j _ => half_keep (by rw [chN, chO, H3.out, if_neg (by rw [HP.out]; omega)]; rfl) j)
                  · exact (RB.out.set m _).congr (fun j _ => half_set (by rw [baN, HQ.out]) j)
                case measure => simp [intOf]; omega
            · obtain rfl : m = n := by omega
              have rc' : VRow wr gc 3 m (fun j => .int .i64 (q.chg j)) := rc.congr (fun j hj => half_full hj)
              have rb' : VRow wr gw 4 m (fun j => .bool (q.bar j)) := rb.congr (fun j hj => half_full hj)
              clear rc rb HST
              go_wp2_with fail
              refine (barrier_beyond b q _ _ hk (.inr (by rw [TN.out]; omega))).mono ?_; rintro e wx ⟨rfl, rfl⟩
              go_wp2_with fail
              refine (barrier_beyond b q _ _ hk (.inl (by omega))).mono ?_; rintro e wx ⟨rfl, rfl⟩
              go_wp2_with fail
              go_roundw
              case rel => exact ⟨i + 1, q, gc, by omega, by go_num, rfl, hk, TN.out, by omega, TI.out, rc', rb', hne1, hne2, hgc, hup⟩
              case measure => simp [intOf]; omega
        · as_aux_lemma =>
          rw [hp]; rintro e wx ⟨rfl, rfl⟩
          have HP := Lib.hid hp; clear hp
          have rc5 : VRow w4 gc 3 n (half (chN q) (chO k q) 0) := rc4.congr (fun j _ => by rw [half_zero, chO, if_neg (by rw [HP.out]; omega)])
          have rb5 : VRow w4 gw 4 n (half (baN q) (baN k) 0) := rb4.congr (fun j _ => by rw [half_zero]; rfl)
          clear rc4 rb4
          go_wp2_with fail
          obtain ⟨wo, rfl⟩ : ∃ wo : World, wo = wr := ⟨_, rfl⟩
          go_loopw [12] (fun x wr => ∃ m : Nat, m ≤ n ∧ x = .int .i64 m ∧ CkAt wr b q ∧ VRow wr gc 3 n (half (chN q) (chO k q) m) ∧ VRow wr gw 4 n (half (baN q) (baN k) m) ∧ Upd [] w wr) (fun x _ => n - (intOf x).toNat)
          case atStart => exact ⟨0, by omega, rfl, a4, rc5, rb5, up4⟩
          case round =>
            clear a4 rc5 rb5 up4
            obtain ⟨m, hm, rfl, hk, rc, rb, hup⟩ := hrel
            by_cases hlt2 : m < n
            · have hmq : m < q.n := by rw [TN.out]; exact hlt2
              have hmk : m < k.n := by rw [KN.out]; exact hlt2
              obtain ⟨h1, h2, h3⟩ := HST.out m hmk
              have cc := rc.cell hlt2
              have cb := rb.cell hlt2
              have fc := rc.free m
              have fb := rb.free m
              have hgl := rc.lt
              have hgl2 := rb.lt
              rw [half_at, chO, if_neg (by rw [HP.out]; omega)] at cc
              rw [if_neg (by rw [HP.out]; omega)] at h3
              rw [half_at, baN] at cb
              have hle := chg_le k m
              have hle2 := chg_le q m
              have hBr := barrier_in b q m _ hk hmq
              have hSe := fun w' (h : CkAt w' b q) => seen_in b q m w' h hmq
              have HBQ := Lib.hid (bar_3 (m := m) HP.out)
              have HSE := Lib.hid hSe; clear hSe
              have hq : q.bar m = true := HBQ.out
              cases hB : k.bar m
              · have HQ := Lib.hid hq; have HK := Lib.hid hB
                rw [hq] at hBr h1 h2 h3
                rw [hB] at cb h1 h2 h3
                clear hq hB
                have hkp : k.p = 1 := h1 rfl rfl
                have hkpi : (k.p : Int) = 1 := by omega
                have kb1 : ((k.p : Int) == 1) = true := by simp [hkp]
                have kb2 : ((k.p : Int) != 1) = false := by simp [hkp]
                clear hkp hkpi
                rw [if_neg (by simp)] at h3
                have H3 := Lib.hid h3
                have hlt3 : k.chg m + 1 ≤ 2 := by omega
                clear h1 h2 h3
                have RC := Lib.hid rc; have RB := Lib.hid rb; clear rc rb
                go_wp2_with fail
                refine hBr.mono ?_; clear hBr; rintro e wx ⟨rfl, rfl⟩
                go_wp2_with fail
                refine (HSE.out _ hk).mono ?_; rintro e wx ⟨rfl, rfl⟩
                go_wp2_with fail
                go_roundw
                case rel =>
                  refine ⟨m + 1, by omega, by go_num, hk.upd (S := [gc, gw]) (((Upd.refl _ _).setCell (by simp) _).setCell (by simp) _) (by simp; exact ⟨hne1.symm, hwb.symm⟩), ?_, ?_, (hup.fresh1 (k := gc) ((Upd.refl _ _).setCell (by simp) _) hgc).fresh1 (k := gw) ((Upd.refl _ _).setCell (by simp) _) hw0⟩
                  · exact ((RC.out.set m _).upd (S := [gw]) ((Upd.refl _ _).setCell (by simp) _) (by simpa using hne2)).congr (fun j _ => half_set (by rw [chN, H3.out]; rfl) j)
                  · exact ((RB.out.upd (S := [gc]) ((Upd.refl _ _).setCell (by simp) _) (by simpa using hne2.symm)).set m _).congr (fun j _ => half_set (by rw [baN, HQ.out]) j)
                case measure => simp [intOf]; omega
              · have HQ := Lib.hid hq; have HK := Lib.hid hB
                rw [hq] at hBr h1 h2 h3
                rw [hB] at cb h1 h2 h3
                clear hq hB
                rw [if_pos rfl] at h3
                have H3 := Lib.hid h3
                clear h1 h2 h3
                have RC := Lib.hid rc; have RB := Lib.hid rb; clear rc rb
                go_wp2_with fail
                refine hBr.mono ?_; clear hBr; rintro e wx ⟨rfl, rfl⟩
                go_wp2_with fail
                refine (HSE.out _ hk).mono ?_; rintro e wx ⟨rfl, rfl⟩
                go_wp2_with fail
                go_roundw
                case rel =>
                  refine ⟨m + 1, by omega, by go_num, hk.upd (S := [gw]) ((Upd.refl _ _).setCell (by simp) _) (by simpa using hwb.symm), ?_, ?_, hup.fresh1 (k := gw) ((Upd.refl _ _).setCell (by simp) _) hw0⟩
                  · exact (RC.out.upd (S := [gw]) ((Upd.refl _ _).setCell (by simp) _) (by simpa using hne2)).congr (fun j _ => half_keep (by rw [chN, chO, H3.out, if_neg (by rw [HP.out]; omega)]; rfl) j)
                  · exact (RB.out.set m _).congr (fun j _ => half_set (by rw [baN, HQ.out]) j)
                case measure => simp [intOf]; omega
            · obtain rfl : m = n := by omega
              have rc' : VRow wr gc 3 m (fun j => .int .i64 (q.chg j)) := rc.congr (fun j hj => half_full hj)
              have rb' : VRow wr gw 4 m (fun j => .bool (q.bar j)) := rb.congr (fun j hj => half_full hj)
              clear rc rb HST
              go_wp2_with fail
              refine (barrier_beyond b q _ _ hk (.inr (by rw [TN.out]; omega))).mono ?_; rintro e wx ⟨rfl, rfl⟩
              go_wp2_with fail
              refine (barrier_beyond b q _ _ hk (.inl (by omega))).mono ?_; rintro e wx ⟨rfl, rfl⟩
              go_wp2_with fail
              go_roundw
              case rel => exact ⟨i + 1, q, gc, by omega, by go_num, rfl, hk, TN.out, by omega, TI.out, rc', rb', hne1, hne2, hgc, hup⟩
              case measure => simp [intOf]; omega
        · as_aux_lemma =>
          rw [hp]; rintro e wx ⟨rfl, rfl⟩
          have HP := Lib.hid hp; clear hp
          have rc5 : VRow w4 gc 3 n (half (chN q) (chO k q) 0) := rc4.congr (fun j _ => by rw [half_zero, chO, if_neg (by rw [HP.out]; omega)])
          have rb5 : VRow w4 gw 4 n (half (baN q) (baN k) 0) := rb4.congr (fun j _ => by rw [half_zero]; rfl)
          clear rc4 rb4
          go_wp2_with fail
          obtain ⟨wo, rfl⟩ : ∃ wo : World, wo = wr := ⟨_, rfl⟩
          go_loopw [12] (fun x wr => ∃ m : Nat, m ≤ n ∧ x = .int .i64 m ∧ CkAt wr b q ∧ VRow wr gc 3 n (half (chN q) (chO k q) m) ∧ VRow wr gw 4 n (half (baN q) (baN k) m) ∧ Upd [] w wr) (fun x _ => n - (intOf x).toNat)
          case atStart => exact ⟨0, by omega, rfl, a4, rc5, rb5, up4⟩
          case round =>
            clear a4 rc5 rb5 up4
            obtain ⟨m, hm, rfl, hk, rc, rb, hup⟩ := hrel
            by_cases hlt2 : m < n
            · have hmq : m < q.n := by rw [TN.out]; exact hlt2
              have hmk : m < k.n := by rw [KN.out]; exact hlt2
              obtain ⟨h1, h2, h3⟩ := HST.out m hmk
              have cc := rc.cell hlt2
              have cb := rb.cell hlt2
              have fc := rc.free m
              have fb := rb.free m
              have hgl := rc.lt
              have hgl2 := rb.lt
              rw [half_at, chO, if_neg (by rw [HP.out]; omega)] at cc
              rw [if_neg (by rw [HP.out]; omega)] at h3
              rw [half_at, baN] at cb
              have hle := chg_le k m
              have hle2 := chg_le q m
              have hBr := barrier_in b q m _ hk hmq
              have hSe := fun w' (h : CkAt w' b q) => seen_in b q m w' h hmq
              have HBQ := Lib.hid (bar_4 (m := m) HP.out)
              have HSE := Lib.hid hSe; clear hSe
              have hq : q.bar m = false := HBQ.out
              cases hB : k.bar m
              · have HQ := Lib.hid hq; have HK := Lib.hid hB
                rw [hq] at hBr h1 h2 h3
                rw [hB] at cb h1 h2 h3
                clear hq hB
                rw [if_pos rfl] at h3
                have H3 := Lib.hid h3
                clear h1 h2 h3
                have RC := Lib.hid rc; have RB := Lib.hid rb; clear rc rb
                go_wp2_with fail
                refine hBr.mono ?_; clear hBr; rintro e wx ⟨rfl, rfl⟩
                go_wp2_with fail
                refine (HSE.out _ hk).mono ?_; rintro e wx ⟨rfl, rfl⟩
                go_wp2_with fail
                go_roundw
                case rel =>
                  refine ⟨m + 1, by omega, by go_num, hk.upd (S := [gw]) ((Upd.refl _ _).setCell (by simp) _) (by simpa using hwb.symm), ?_, ?_, hup.fresh1 (k := gw) ((Upd.refl _ _).setCell (by simp) _) hw0⟩
                  · exact (RC.out.upd (S := [gw]) ((Upd.refl _ _).setCell (by simp) _) (by simpa using hne2)).congr (fun j _ => half_keep (by rw [chN, chO, H3.out, if_neg (by rw [HP.out]; omega)]; rfl) j)
                  · exact (RB.out.set m _).congr (fun j _ => half_set (by rw [baN, HQ.out]) j)
                case measure => simp [intOf]; omega
              · have HQ := Lib.hid hq; have HK := Lib.hid hB
                rw [hq] at hBr h1 h2 h3
                rw [hB] at cb h1 h2 h3
                clear hq hB
                have hkp : k.p = 3 := h2 rfl rfl
                have hkpi : (k.p : Int) = 3 := by omega
                have kb1 : ((k.p : Int) == 3) = true := by simp [hkp]
                have kb2 : ((k.p : Int) != 3) = false := by simp [hkp]
                clear hkp hkpi
                rw [if_neg (by simp)] at h3
                have H3 := Lib.hid h3
                have hlt3 : k.chg m + 1 ≤ 2 := by omega
                clear h1 h2 h3
                have RC := Lib.hid rc; have RB := Lib.hid rb; clear rc rb
                go_wp2_with fail
                refine hBr.mono ?_; clear hBr; rintro e wx ⟨rfl, rfl⟩
                go_wp2_with fail
                refine (HSE.out _ hk).mono ?_; rintro e wx ⟨rfl, rfl⟩
                go_wp2_with fail
                go_roundw
                case rel =>
                  refine ⟨m + 1, by omega, by go_num, hk.upd (S := [gc, gw]) (((Upd.refl _ _).setCell (by simp) _).setCell (by simp) _) (by simp; exact ⟨hne1.symm, hwb.symm⟩), ?_, ?_, (hup.fresh1 (k := gc) ((Upd.refl _ _).setCell (by simp) _) hgc).fresh1 (k := gw) ((Upd.refl _ _).setCell (by simp) _) hw0⟩
                  · exact ((RC.out.set m _).upd (S := [gw]) ((Upd.refl _ _).setCell (by simp) _) (by simpa using hne2)).congr (fun j _ => half_set (by rw [chN, H3.out]; rfl) j)
                  · exact ((RB.out.upd (S := [gc]) ((Upd.refl _ _).setCell (by simp) _) (by simpa using hne2.symm)).set m _).congr (fun j _ => half_set (by rw [baN, HQ.out]) j)
                case measure => simp [intOf]; omega
            · obtain rfl : m = n := by omega
              have rc' : VRow wr gc 3 m (fun j => .int .i64 (q.chg j)) := rc.congr (fun j hj => half_full hj)
              have rb' : VRow wr gw 4 m (fun j => .bool (q.bar j)) := rb.congr (fun j hj => half_full hj)
              clear rc rb HST
              go_wp2_with fail
              refine (barrier_beyond b q _ _ hk (.inr (by rw [TN.out]; omega))).mono ?_; rintro e wx ⟨rfl, rfl⟩
              go_wp2_with fail
              refine (barrier_beyond b q _ _ hk (.inl (by omega))).mono ?_; rintro e wx ⟨rfl, rfl⟩
              go_wp2_with fail
              go_roundw
              case rel => exact ⟨i + 1, q, gc, by omega, by go_num, rfl, hk, TN.out, by omega, TI.out, rc', rb', hne1, hne2, hgc, hup⟩
              case measure => simp [intOf]; omega
        · as_aux_lemma =>
          rw [hp]; rintro e wx ⟨rfl, rfl⟩
          have HP := Lib.hid hp; clear hp
          have rc5 : VRow w4 gc 3 n (half (chN q) (chO k q) 0) := rc4.congr (fun j _ => by rw [half_zero, chO, if_neg (by rw [HP.out]; omega)])
          have rb5 : VRow w4 gw 4 n (half (baN q) (baN k) 0) := rb4.congr (fun j _ => by rw [half_zero]; rfl)
          clear rc4 rb4
          go_wp2_with fail
          obtain ⟨wo, rfl⟩ : ∃ wo : World, wo = wr := ⟨_, rfl⟩
          go_loopw [12] (fun x wr => ∃ m : Nat, m ≤ n ∧ x = .int .i64 m ∧ CkAt wr b q ∧ VRow wr gc 3 n (half (chN q) (chO k q) m) ∧ VRow wr gw 4 n (half (baN q) (baN k) m) ∧ Upd [] w wr) (fun x _ => n - (intOf x).toNat)
          case atStart => exact ⟨0, by omega, rfl, a4, rc5, rb5, up4⟩
          case round =>
            clear a4 rc5 rb5 up4
            obtain ⟨m, hm, rfl, hk, rc, rb, hup⟩ := hrel
            by_cases hlt2 : m < n
            · have hmq : m < q.n := by rw [TN.out]; exact hlt2
              have hmk : m < k.n := by rw [KN.out]; exact hlt2
              obtain ⟨h1, h2, h3⟩ := HST.out m hmk
              have cc := rc.cell hlt2
              have cb := rb.cell hlt2
              have fc := rc.free m
              have fb := rb.free m
              have hgl := rc.lt
              have hgl2 := rb.lt
              rw [half_at, chO, if_neg (by rw [HP.out]; omega)] at cc
              rw [if_neg (by rw [HP.out]; omega)] at h3
              rw [half_at, baN] at cb
              have hle := chg_le k m
              have hle2 := chg_le q m
              have hBr := barrier_in b q m _ hk hmq
              have hSe := fun w' (h : CkAt w' b q) => seen_in b q m w' h hmq
              have HBQ := Lib.hid (bar_5 (m := m) HP.out)
              have HSE := Lib.hid hSe; clear hSe
              have hq : q.bar m = false := HBQ.out
              cases hB : k.bar m
              · have HQ := Lib.hid hq; have HK := Lib.hid hB
                rw [hq] at hBr h1 h2 h3
                rw [hB] at cb h1 h2 h3
                clear hq hB
                rw [if_pos rfl] at h3
                have H3 := Lib.hid h3
                clear h1 h2 h3
                have RC := Lib.hid rc; have RB := Lib.hid rb; clear rc rb
                go_wp2_with fail
                refine hBr.mono ?_; clear hBr; rintro e wx ⟨rfl, rfl⟩
                go_wp2_with fail
                refine (HSE.out _ hk).mono ?_; rintro e wx ⟨rfl, rfl⟩
                go_wp2_with fail
                go_roundw
                case rel =>
                  refine ⟨m + 1, by omega, by go_num, hk.upd (S := [gw]) ((Upd.refl _ _).setCell (by simp) _) (by simpa using hwb.symm), ?_, ?_, hup.fresh1 (k := gw) ((Upd.refl _ _).setCell (by simp) _) hw0⟩
                  · exact (RC.out.upd (S := [gw]) ((Upd.refl _ _).setCell (by simp) _) (by simpa using hne2)).congr (fun j _ => half_keep (by rw [chN, chO, H3.out, if_neg (by rw [HP.out]; omega)]; rfl) j)
                  · exact (RB.out.set m _).congr (fun j _ => half_set (by rw [baN, HQ.out]) j)
                case measure => simp [intOf]; omega
              · have HQ := Lib.hid hq; have HK := Lib.hid hB
                rw [hq] at hBr h1 h2 h3
                rw [hB] at cb h1 h2 h3
                clear hq hB
                have hkp : k.p = 3 := h2 rfl rfl
                have hkpi : (k.p : Int) = 3 := by omega
                have kb1 : ((k.p : Int) == 3) = true := by simp [hkp]
                have kb2 : ((k.p : Int) != 3) = false := by simp [hkp]
                clear hkp hkpi
                rw [if_neg (by simp)] at h3
                have H3 := Lib.hid h3
                have hlt3 : k.chg m + 1 ≤ 2 := by omega
                clear h1 h2 h3
                have RC := Lib.hid rc; have RB := Lib.hid rb; clear rc rb
                go_wp2_with fail
                refine hBr.mono ?_; clear hBr; rintro e wx ⟨rfl, rfl⟩
                go_wp2_with fail
                refine (HSE.out _ hk).mono ?_; rintro e wx ⟨rfl, rfl⟩
                go_wp2_with fail
                go_roundw
                case rel =>
                  refine ⟨m + 1, by omega, by go_num, hk.upd (S := [gc, gw]) (((Upd.refl _ _).setCell (by simp) _).setCell (by simp) _) (by simp; exact ⟨hne1.symm, hwb.symm⟩), ?_, ?_, (hup.fresh1 (k := gc) ((Upd.refl _ _).setCell (by simp) _) hgc).fresh1 (k := gw) ((Upd.refl _ _).setCell (by simp) _) hw0⟩
                  · exact ((RC.out.set m _).upd (S := [gw]) ((Upd.refl _ _).setCell (by simp) _) (by simpa using hne2)).congr (fun j _ => half_set (by rw [chN, H3.out]; rfl) j)
                  · exact ((RB.out.upd (S := [gc]) ((Upd.refl _ _).setCell (by simp) _) (by simpa using hne2.symm)).set m _).congr (fun j _ => half_set (by rw [baN, HQ.out]) j)
                case measure => simp [intOf]; omega
            · obtain rfl : m = n := by omega
              have rc' : VRow wr gc 3 m (fun j => .int .i64 (q.chg j)) := rc.congr (fun j hj => half_full hj)
              have rb' : VRow wr gw 4 m (fun j => .bool (q.bar j)) := rb.congr (fun j hj => half_full hj)
              clear rc rb HST
              go_wp2_with fail
              refine (barrier_beyond b q _ _ hk (.inr (by rw [TN.out]; omega))).mono ?_; rintro e wx ⟨rfl, rfl⟩
              go_wp2_with fail
              refine (barrier_beyond b q _ _ hk (.inl (by omega))).mono ?_; rintro e wx ⟨rfl, rfl⟩
              go_wp2_with fail
              go_roundw
              case rel => exact ⟨i + 1, q, gc, by omega, by go_num, rfl, hk, TN.out, by omega, TI.out, rc', rb', hne1, hne2, hgc, hup⟩
              case measure => simp [intOf]; omega
      · go_wp2_with fail
        refine (works_ok _).mono ?_; rintro e w5 ⟨rfl, u5⟩
        go_wp2_with fail
        go_ret
        exact ⟨rfl, hup.trans u5⟩

theorem barriers_fr (w : World) (u : Int) (hu : (Lit.int .u8 u).wf = true) (v : Value) (us : List Int) (hv : Bytes .u8 w v us) :
    Calls Try.prog 4 #[.int .u8 u, v] w fun e w' => e = .returned (.bool true) ∧ Upd [] w w' :=
  barriers_ok u (wf_u8 hu).1 (wf_u8 hu).2 v us w hv

end Go.Proofs.Ytldladoccjlojaa
