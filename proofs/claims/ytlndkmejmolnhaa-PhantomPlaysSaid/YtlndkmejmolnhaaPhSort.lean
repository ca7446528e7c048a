/-
  The library's sort of a slice of ints, over this program. Conditions: at most 256 elements.
-/
import Derived.Test.YtlndkmejmolnhaaPh3
import Derived.Test.YtlndkmejmolnhaaApp
import Derived.Shelf.SortM.Plain
import Derived.Shelf.SortM.SortNone
import Derived.Sort.OwnSortedInts
namespace Go.Proofs.Ytlndkmejmolnhaa
open Go.RowKit Go.Sort

def sl_ren : Go.Shelf.Ren := ⟨fun | 5 => 27 | 8 => 38 | 7 => 37 | 19 => 49 | 20 => 50 | 10 => 40 | 11 => 41 | 12 => 42 | 13 => 43 | 14 => 44 | 15 => 45 | 16 => 46 | 17 => 47 | 18 => 48 | 30 => 51 | 31 => 52 | 32 => 53 | 33 => 54 | 34 => 55 | 35 => 56 | 40 => 57 | n => n, fun | 23 => 39 | 25 => 3 | 3 => 3 | 32 => 77 | 22 => 39 | 0 => 0 | 44 => 22 | 46 => 89 | 4 => 4 | 36 => 81 | 35 => 80 | 41 => 36 | 5 => 5 | 9 => 9 | 53 => 90 | 57 => 94 | 63 => 96 | 64 => 97 | n => n, fun | n => n⟩
theorem sl_lays : SlLaysM.n5 Try.prog sl_ren := {
  mixed := by kernel_rfl,
  f5 := ⟨"slices.Sort[[]int,int]", by decide, Try.func27.trans (congrArg some (by kernel_rfl))⟩,
  f7 := ⟨"slices.pdqsortOrdered[int]", by decide, Try.func37.trans (congrArg some (by kernel_rfl))⟩,
  f8 := Try.func38.trans (congrArg some (by kernel_rfl)),
  f10 := ⟨"slices.insertionSortOrdered[int]", by decide, Try.func40.trans (congrArg some (by kernel_rfl))⟩,
  f11 := ⟨"slices.heapSortOrdered[int]", by decide, Try.func41.trans (congrArg some (by kernel_rfl))⟩,
  f12 := ⟨"slices.breakPatternsOrdered[int]", by decide, Try.func42.trans (congrArg some (by kernel_rfl))⟩,
  f13 := ⟨"slices.choosePivotOrdered[int]", by decide, Try.func43.trans (congrArg some (by kernel_rfl))⟩,
  f14 := ⟨"slices.reverseRangeOrdered[int]", by decide, Try.func44.trans (congrArg some (by kernel_rfl))⟩,
  f15 := ⟨"slices.partialInsertionSortOrdered[int]", by decide, Try.func45.trans (congrArg some (by kernel_rfl))⟩,
  f16 := ⟨"cmp.Less[int]", by decide, Try.func46.trans (congrArg some (by kernel_rfl))⟩,
  f17 := ⟨"slices.partitionEqualOrdered[int]", by decide, Try.func47.trans (congrArg some (by kernel_rfl))⟩,
  f18 := ⟨"slices.partitionOrdered[int]", by decide, Try.func48.trans (congrArg some (by kernel_rfl))⟩,
  f19 := Try.func49.trans (congrArg some (by kernel_rfl)),
  f20 := Try.func50.trans (congrArg some (by kernel_rfl)),
  f30 := ⟨"slices.siftDownOrdered[int]", by decide, Try.func51.trans (congrArg some (by kernel_rfl))⟩,
  f31 := Try.func52.trans (congrArg some (by kernel_rfl)),
  f32 := Try.func53.trans (congrArg some (by kernel_rfl)),
  f33 := ⟨"slices.medianAdjacentOrdered[int]", by decide, Try.func54.trans (congrArg some (by kernel_rfl))⟩,
  f34 := ⟨"slices.medianOrdered[int]", by decide, Try.func55.trans (congrArg some (by kernel_rfl))⟩,
  f35 := ⟨"cmp.isNaN[int]", by decide, Try.func56.trans (congrArg some (by kernel_rfl))⟩,
  f40 := ⟨"slices.order2Ordered[int]", by decide, Try.func57.trans (congrArg some (by kernel_rfl))⟩,
  t0 := Try.underlying0,
  a0 := Try.isAgg0,
  z0 := Try.sizeOf0,
  v0 := Try.zeroValue0,
  t3 := Try.underlying3,
  a3 := Try.isAgg3,
  z3 := Try.sizeOf3,
  v3 := Try.zeroValue3,
  t4 := Try.underlying4,
  a4 := Try.isAgg4,
  z4 := Try.sizeOf4,
  v4 := Try.zeroValue4,
  t5 := Try.underlying5,
  a5 := Try.isAgg5,
  z5 := Try.sizeOf5,
  v5 := Try.zeroValue5,
  t9 := Try.underlying9,
  a9 := Try.isAgg9,
  z9 := Try.sizeOf9,
  v9 := Try.zeroValue9,
  t22 := Try.underlying39,
  a22 := Try.isAgg39,
  z22 := Try.sizeOf39,
  v22 := Try.zeroValue39,
  t23 := Try.underlying39,
  a23 := Try.isAgg39,
  z23 := Try.sizeOf39,
  v23 := Try.zeroValue39,
  t25 := Try.underlying3,
  a25 := Try.isAgg3,
  z25 := Try.sizeOf3,
  v25 := Try.zeroValue3,
  t32 := Try.underlying77,
  a32 := Try.isAgg77,
  z32 := Try.sizeOf77,
  v32 := Try.zeroValue77,
  t35 := Try.underlying80,
  a35 := Try.isAgg80,
  z35 := Try.sizeOf80,
  v35 := Try.zeroValue80,
  t36 := Try.underlying81,
  a36 := Try.isAgg81,
  z36 := Try.sizeOf81,
  v36 := Try.zeroValue81,
  t41 := Try.underlying36,
  a41 := Try.isAgg36,
  z41 := Try.sizeOf36,
  v41 := Try.zeroValue36,
  t44 := Try.underlying22,
  a44 := Try.isAgg22,
  z44 := Try.sizeOf22,
  v44 := Try.zeroValue22,
  t46 := Try.underlying89,
  a46 := Try.isAgg89,
  z46 := Try.sizeOf89,
  v46 := Try.zeroValue89,
  t53 := Try.underlying90,
  a53 := Try.isAgg90,
  z53 := Try.sizeOf90,
  v53 := Try.zeroValue90,
  t57 := Try.underlying94,
  a57 := Try.isAgg94,
  z57 := Try.sizeOf94,
  v57 := Try.zeroValue94,
  t63 := Try.underlying96,
  a63 := Try.isAgg96,
  z63 := Try.sizeOf96,
  v63 := Try.zeroValue96,
  t64 := Try.underlying97,
  a64 := Try.isAgg97,
  z64 := Try.sizeOf97,
  v64 := Try.zeroValue97 }

/-- The list in rising order. -/
def srt (l : List Int) : List Int := l.mergeSort fun x y => decide (x ≤ y)
theorem srt_length (l : List Int) : (srt l).length = l.length := List.length_mergeSort l
theorem psort {base n : Nat} {v : Value} {zs : List Int} {w : World} (hl : zs.length = n) (hown : w.ownsRow base 3 1 v n (zs.map (Value.int .i64))) (hn : n ≤ 256) :
    Calls Try.prog 27 #[v] w fun e w' => e = .returned (.tuple #[]) ∧ w'.ownsRow base 3 1 v n ((srt zs).map (Value.int .i64)) ∧ w.grownBy w' v.ownBlock := by
  subst hl
  rcases hown.2 with ⟨rfl, h0⟩ | ⟨g, cap, cur, rfl, hbase, hg, h1, h2, h3, h4⟩
  · obtain rfl : zs = [] := List.eq_nil_of_length_eq_zero h0
    refine (AnyM.slices_Sort_int_none sl_lays none 0 w).mono ?_
    rintro e w' ⟨rfl, rfl⟩
    refine ⟨rfl, ?_, ⟨rfl, rfl, rfl, Nat.le_refl _, fun _ _ _ => rfl⟩⟩
    rw [show srt [] = [] from by unfold srt; simp]
    exact World.ownsRow_nil _ _ _ _
  · rw [Nat.mul_one] at h4
    have hlt := lt_of_block hg
    have hc := AnyM.slices_Sort_int sl_lays g 0 cap zs w (holds_of_blockI hg h4) hlt (by omega)
    refine hc.mono ?_
    rintro e w' ⟨rfl, k, os, rfl⟩
    refine ⟨rfl, ?_, ?_⟩
    · exact ownsRow_sortedI (ts := srt zs) (srt_length zs) hbase hg h1 h2 h3
    · exact grownBy_sortedI _

end Go.Proofs.Ytlndkmejmolnhaa
