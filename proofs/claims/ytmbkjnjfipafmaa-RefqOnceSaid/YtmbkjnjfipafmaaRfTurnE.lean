/-
  Turns of a known reference queue, one behind the other. Conditions: none.
-/
import Derived.Test.YtmbkjnjfipafmaaRfTurnA
import Derived.Test.YtmbkjnjfipafmaaRfTurnB
import Derived.Test.YtmbkjnjfipafmaaRfTurnC
import Derived.Test.YtmbkjnjfipafmaaRfTurnD
import Derived.Test.YtmbkjnjfipafmaaRfAgr
namespace Go.Proofs.Ytmbkjnjfipafmaa
open Go.RowKit Go.Maps Go.WideShapes Go.Deep

theorem turn_any {w : World} {kb : Nat} {B : RfB} {h : Nat} {v : Value} {s : Rs} (k : KnAt w kb B h v s) (kd a o : Nat) (hk : kd < 256) (ha : a < 256) (ho : o < 256) :
    Calls Try.prog 19 #[.pointer (some ⟨kb, 0, none⟩), .agg #[.int .u8 (kd : Int), .int .u8 (a : Int), .int .u8 (o : Int)]] w (TurnPost kb B h (turnS s kd a o) w) := by
  unfold turnS
  have h6 : kd % 6 = 0 ∨ kd % 6 = 1 ∨ kd % 6 = 2 ∨ kd % 6 = 3 ∨ kd % 6 = 4 ∨ kd % 6 = 5 := by omega
  rcases h6 with h6 | h6 | h6 | h6 | h6 | h6
  · rw [if_pos (by omega)]; exact turn_reg0 k kd a o hk ha ho h6
  · rw [if_pos (by omega)]; exact turn_reg1 k kd a o hk ha ho h6
  · rw [if_neg (by omega), if_pos (by omega)]; exact turn_fnd2 k kd a o hk ha ho h6
  · rw [if_neg (by omega), if_pos (by omega)]; exact turn_fnd3 k kd a o hk ha ho h6
  · rw [if_neg (by omega), if_neg (by omega), if_pos h6]; exact turn_poll k kd a o hk ha ho h6
  · rw [if_neg (by omega), if_neg (by omega), if_neg (by omega)]; exact turn_can k kd a o hk ha ho h6
/-- The cells of a turn. -/
def IsTurn (cs : List Value) : Prop := ∃ kd a o : Nat, cs = [.int .u8 (kd : Int), .int .u8 (a : Int), .int .u8 (o : Int)] ∧ kd < 256 ∧ a < 256 ∧ o < 256
set_option maxRecDepth 100000 in
theorem turns_of {H : Type} {enc : TypeId × Value → H} {w : World} {v : Value} {d : DataW H} {p : List MemPlace}
    (hval : Value.okWide Try.prog w .any 0 22 v) (h : DataW.Trod enc Try.prog w 0 (fun _ => true) true 22 v d p) : ∃ css, Recs w v 3 css ∧ ∀ cs ∈ css, IsTurn cs := by
  refine recs_of Try.underlying22 3 (by kernel_rfl) (by decide) IsTurn (fun n cs y hl ht => ?_) hval h
  match cs, hl with
  | [c0, c1, c2], _ =>
    obtain ⟨_, _, h0⟩ := field_of (c := 1) Try.underlying29 ht 0 _ rfl rfl rfl (by kernel_rfl)
    obtain ⟨_, _, h1⟩ := field_of (c := 1) Try.underlying29 ht 1 _ rfl rfl rfl (by kernel_rfl)
    obtain ⟨_, _, h2⟩ := field_of (c := 1) Try.underlying29 ht 2 _ rfl rfl rfl (by kernel_rfl)
    obtain ⟨x, rfl, wx⟩ := int_cell Try.underlying5 h0
    obtain ⟨y, rfl, wy⟩ := int_cell Try.underlying5 h1
    obtain ⟨z, rfl, wz⟩ := int_cell Try.underlying5 h2
    have hx := wf_u8 wx
    have hy := wf_u8 wy
    have hz := wf_u8 wz
    exact ⟨x.toNat, y.toNat, z.toNat, by rw [Int.toNat_of_nonneg hx.1, Int.toNat_of_nonneg hy.1, Int.toNat_of_nonneg hz.1], by omega, by omega, by omega⟩
def natOf (v : Value) : Nat := (intOf v).toNat
def runT (s : Rs) (css : List (List Value)) : Rs := css.foldl (fun s cs => turnS s (natOf (cs.getD 0 undef)) (natOf (cs.getD 1 undef)) (natOf (cs.getD 2 undef))) s
theorem runT_step (s : Rs) (css : List (List Value)) {i : Nat} (hi : i < css.length) {kd a o : Nat} (h : css[i] = [.int .u8 (kd : Int), .int .u8 (a : Int), .int .u8 (o : Int)]) :
    runT s (css.take (i + 1)) = turnS (runT s (css.take i)) kd a o := by
  rw [List.take_succ_eq_append_getElem hi, h]
  simp [runT, natOf, intOf]
/-- What a law's own blocks hide. -/
theorem Upd.kn {a b c : World} {kb h : Nat} {B : RfB} (u : Upd [] a b) (g : Upd (kb :: h :: B.S) b c) (hs : a.heap.size ≤ kb ∧ a.heap.size ≤ h ∧ B.since a.heap.size) : Upd [] a c :=
  u.after g (fun x hx => by
    simp only [List.mem_cons] at hx
    rcases hx with rfl | rfl | hx
    · exact .inl hs.1
    · exact .inl hs.2.1
    · exact .inl (hs.2.2 x (RfB.S_all hx)))
/-- What a turn's load reads. -/
theorem turn_cells {w : World} {v : Value} {css : List (List Value)} {a : Option Addr} {n c : Nat} (hv : Recs w (.slice a n c) 3 css) (hF : ∀ cs ∈ css, IsTurn cs) {i : Nat} (hi : i < css.length) (_ : v = .slice a n c) :
    ∃ (b off kd x o : Nat), a = some ⟨b, off, none⟩ ∧ css[i] = [.int .u8 (kd : Int), .int .u8 (x : Int), .int .u8 (o : Int)] ∧ kd < 256 ∧ x < 256 ∧ o < 256 ∧
      ∀ w', Upd [] w w' → w'.cell? ⟨b, off + i * 3, none⟩ = some (.int .u8 (kd : Int)) ∧ w'.cell? ⟨b, off + i * 3 + 1, none⟩ = some (.int .u8 (x : Int)) ∧ w'.cell? ⟨b, off + i * 3 + 2, none⟩ = some (.int .u8 (o : Int)) ∧ b < w'.heap.size := by
  obtain ⟨b, off, rfl, hab, -, hat⟩ := hv.at hi
  obtain ⟨kd, x, o, hcs, h1, h2, h3⟩ := hF _ (List.getElem_mem hi)
  refine ⟨b, off, kd, x, o, rfl, hcs, h1, h2, h3, fun w' u => ⟨?_, ?_, ?_, Nat.lt_of_lt_of_le hab u.size⟩⟩
  · exact (u.cell (p := ⟨b, off + i * 3, none⟩) hab (by simp)).trans (hat 0 _ (by rw [hcs]; rfl))
  · exact (u.cell (p := ⟨b, off + i * 3 + 1, none⟩) hab (by simp)).trans (hat 1 _ (by rw [hcs]; rfl))
  · exact (u.cell (p := ⟨b, off + i * 3 + 2, none⟩) hab (by simp)).trans (hat 2 _ (by rw [hcs]; rfl))

end Go.Proofs.Ytmbkjnjfipafmaa
