/-
  No cell of these rows narrows 'for every input' (looked for: loops, veiled, ifaces, maps, wideKeys, modest, calm, conditions, laid).
  DERIVED. THE GIVEN ROWS OF THIS SEAT. 7 by the template 'for every input the law returns true; each argument reads behind the call as it read before'; 0 by the template 'total and deterministic' (their statements: YtphpimbhhmkdkaaTotals.lean).
  GIVEN WITH THE SEED: the statements are not yours to turn. If you find one false, say at which input.
  Laid BY PROGRAM, IN A SANDBOX (cutbox-rows.mjs): the forced cells as the released guide's own fill.sh prints them over the translation 50c1a0325030ccb2… (all of the seat's roots in one cut). By AI agents, Wed Nov 11 2026. No macro, syntax, notation, axiom, sorry.
-/
import Derived.Test.YtphpimbhhmkdkaaChecked
import GoSem.Claim
import GoSem.ClaimJoined
import GoSem.ClaimMapViews
import Derived.JoinedTies
import Derived.KernelRfl
namespace Go.Proofs.Ytphpimbhhmkdkaa
/- THE CELL 'sum', in the pinned program and in every row, IS THE sha256 OF THE DUMP (.gsa) THAT YtphpimbhhmkdkaaProg.lean LOADS. Nothing in Lean hashes anything: it is a label: what it is worth is what the hold of that sum in a sandbox is worth. -/
noncomputable def Try.pinned : Pinned := { name := "ytphpimbhhmkdkaa", sum := "50c1a0325030ccb2d3ea46d209f09e429d786d15288ec22d2cacd9ebc3e3a53d", checked := Try.checked }
namespace Rows
def none {H : Type} : Left H := { results := [], args := [] }

/-- 'estraylaw29.CleanerOnce': WHATEVER THE INPUT: true; the input reads as it did. -/
def cleanerOnceSpec : ChangeSpec := { name := "cleanerOnce", fn := fun _ => fun
  | [d] => { results := [.lit (.bool true)], args := [d] }
  | _ => none }
def cleanerOnceRow : OpenClaim := { program := "ytphpimbhhmkdkaa", sum := "50c1a0325030ccb2d3ea46d209f09e429d786d15288ec22d2cacd9ebc3e3a53d", func := "estray/estraylaw29.CleanerOnce", spec := "cleanerOnce", apart := false }
def CleanerOnceSaid : Prop := cleanerOnceRow.holds Try.pinned (OpenSpec.ofChange cleanerOnceSpec)

/-- ITS FALSE NEIGHBOUR: 'it returns false'. Refute it at one input. -/
def cleanerOnceWrong : ChangeSpec := { name := "cleanerOnce", fn := fun _ => fun
  | [d] => { results := [.lit (.bool false)], args := [d] }
  | _ => none }
def CleanerOnceWrongFalsely : Prop := cleanerOnceRow.holds Try.pinned (OpenSpec.ofChange cleanerOnceWrong)

/-- 'estraylaw29.CleanerCourse': WHATEVER THE INPUT: true; the input reads as it did. -/
def cleanerCourseSpec : ChangeSpec := { name := "cleanerCourse", fn := fun _ => fun
  | [d1, d2, d3] => { results := [.lit (.bool true)], args := [d1, d2, d3] }
  | _ => none }
def cleanerCourseRow : OpenClaim := { program := "ytphpimbhhmkdkaa", sum := "50c1a0325030ccb2d3ea46d209f09e429d786d15288ec22d2cacd9ebc3e3a53d", func := "estray/estraylaw29.CleanerCourse", spec := "cleanerCourse", unfollowed := true, recurses := true, apart := false }
def CleanerCourseSaid : Prop := cleanerCourseRow.holds Try.pinned (OpenSpec.ofChange cleanerCourseSpec)

/-- ITS FALSE NEIGHBOUR: 'it returns false'. Refute it at one input. -/
def cleanerCourseWrong : ChangeSpec := { name := "cleanerCourse", fn := fun _ => fun
  | [d1, d2, d3] => { results := [.lit (.bool false)], args := [d1, d2, d3] }
  | _ => none }
def CleanerCourseWrongFalsely : Prop := cleanerCourseRow.holds Try.pinned (OpenSpec.ofChange cleanerCourseWrong)

/-- 'estraylaw29.CleanerFull': WHATEVER THE INPUT: true; the input reads as it did. -/
def cleanerFullSpec : ChangeSpec := { name := "cleanerFull", fn := fun _ => fun
  | [d1, d2] => { results := [.lit (.bool true)], args := [d1, d2] }
  | _ => none }
def cleanerFullRow : OpenClaim := { program := "ytphpimbhhmkdkaa", sum := "50c1a0325030ccb2d3ea46d209f09e429d786d15288ec22d2cacd9ebc3e3a53d", func := "estray/estraylaw29.CleanerFull", spec := "cleanerFull", apart := false }
def CleanerFullSaid : Prop := cleanerFullRow.holds Try.pinned (OpenSpec.ofChange cleanerFullSpec)

/-- ITS FALSE NEIGHBOUR: 'it returns false'. Refute it at one input. -/
def cleanerFullWrong : ChangeSpec := { name := "cleanerFull", fn := fun _ => fun
  | [d1, d2] => { results := [.lit (.bool false)], args := [d1, d2] }
  | _ => none }
def CleanerFullWrongFalsely : Prop := cleanerFullRow.holds Try.pinned (OpenSpec.ofChange cleanerFullWrong)

/-- 'estraylaw29.CleanerRefuses': WHATEVER THE INPUT: true; the input reads as it did. -/
def cleanerRefusesSpec : ChangeSpec := { name := "cleanerRefuses", fn := fun _ => fun
  | [d1, d2] => { results := [.lit (.bool true)], args := [d1, d2] }
  | _ => none }
def cleanerRefusesRow : OpenClaim := { program := "ytphpimbhhmkdkaa", sum := "50c1a0325030ccb2d3ea46d209f09e429d786d15288ec22d2cacd9ebc3e3a53d", func := "estray/estraylaw29.CleanerRefuses", spec := "cleanerRefuses", apart := false }
def CleanerRefusesSaid : Prop := cleanerRefusesRow.holds Try.pinned (OpenSpec.ofChange cleanerRefusesSpec)

/-- ITS FALSE NEIGHBOUR: 'it returns false'. Refute it at one input. -/
def cleanerRefusesWrong : ChangeSpec := { name := "cleanerRefuses", fn := fun _ => fun
  | [d1, d2] => { results := [.lit (.bool false)], args := [d1, d2] }
  | _ => none }
def CleanerRefusesWrongFalsely : Prop := cleanerRefusesRow.holds Try.pinned (OpenSpec.ofChange cleanerRefusesWrong)

/-- 'estraylaw29.CleanerPlays': WHATEVER THE INPUT: true; the input reads as it did. -/
def cleanerPlaysSpec : ChangeSpec := { name := "cleanerPlays", fn := fun _ => fun
  | [d1, d2] => { results := [.lit (.bool true)], args := [d1, d2] }
  | _ => none }
def cleanerPlaysRow : OpenClaim := { program := "ytphpimbhhmkdkaa", sum := "50c1a0325030ccb2d3ea46d209f09e429d786d15288ec22d2cacd9ebc3e3a53d", func := "estray/estraylaw29.CleanerPlays", spec := "cleanerPlays", inPlace := ["maps.clone"], apart := false }
def CleanerPlaysSaid : Prop := cleanerPlaysRow.holds Try.pinned (OpenSpec.ofChange cleanerPlaysSpec)

/-- ITS FALSE NEIGHBOUR: 'it returns false'. Refute it at one input. -/
def cleanerPlaysWrong : ChangeSpec := { name := "cleanerPlays", fn := fun _ => fun
  | [d1, d2] => { results := [.lit (.bool false)], args := [d1, d2] }
  | _ => none }
def CleanerPlaysWrongFalsely : Prop := cleanerPlaysRow.holds Try.pinned (OpenSpec.ofChange cleanerPlaysWrong)

/-- 'estraylaw29.CleanerApart': WHATEVER THE INPUT: true; the input reads as it did. -/
def cleanerApartSpec : ChangeSpec := { name := "cleanerApart", fn := fun _ => fun
  | [d1, d2] => { results := [.lit (.bool true)], args := [d1, d2] }
  | _ => none }
def cleanerApartRow : OpenClaim := { program := "ytphpimbhhmkdkaa", sum := "50c1a0325030ccb2d3ea46d209f09e429d786d15288ec22d2cacd9ebc3e3a53d", func := "estray/estraylaw29.CleanerApart", spec := "cleanerApart", inPlace := ["maps.clone"], apart := false }
def CleanerApartSaid : Prop := cleanerApartRow.holds Try.pinned (OpenSpec.ofChange cleanerApartSpec)

/-- ITS FALSE NEIGHBOUR: 'it returns false'. Refute it at one input. -/
def cleanerApartWrong : ChangeSpec := { name := "cleanerApart", fn := fun _ => fun
  | [d1, d2] => { results := [.lit (.bool false)], args := [d1, d2] }
  | _ => none }
def CleanerApartWrongFalsely : Prop := cleanerApartRow.holds Try.pinned (OpenSpec.ofChange cleanerApartWrong)

/-- 'estraylaw29.CleanerNil': WHATEVER THE INPUT: true; the input reads as it did. -/
def cleanerNilSpec : ChangeSpec := { name := "cleanerNil", fn := fun _ => fun
  | [d] => { results := [.lit (.bool true)], args := [d] }
  | _ => none }
def cleanerNilRow : OpenClaim := { program := "ytphpimbhhmkdkaa", sum := "50c1a0325030ccb2d3ea46d209f09e429d786d15288ec22d2cacd9ebc3e3a53d", func := "estray/estraylaw29.CleanerNil", spec := "cleanerNil", inPlace := ["maps.clone"], apart := false }
def CleanerNilSaid : Prop := cleanerNilRow.holds Try.pinned (OpenSpec.ofChange cleanerNilSpec)

/-- ITS FALSE NEIGHBOUR: 'it returns false'. Refute it at one input. -/
def cleanerNilWrong : ChangeSpec := { name := "cleanerNil", fn := fun _ => fun
  | [d] => { results := [.lit (.bool false)], args := [d] }
  | _ => none }
def CleanerNilWrongFalsely : Prop := cleanerNilRow.holds Try.pinned (OpenSpec.ofChange cleanerNilWrong)

/- THE SECOND FORM. 'bulk': how many values and letters a reading holds, each counted each time it is reached (what is shared counts as often as it is met; a slice's spare places count too). A statement '..UptoSaid' is the law's where the arguments, and the package variables that the reading takes, are together of bulk at most 1048576: NARROWER than '..Said'. Prove '..Said' where nothing that the law and all that it calls make is longer than what came in: it says more and counts as full. Else prove '..UptoSaid'. A law counts once. -/
mutual
def uptoBulk {H : Type} : DataW H → Nat
  | .lit (.string bytes) => bytes.length + 1
  | .lit _ => 1
  | .nil => 1
  | .ptr d => uptoBulk d + 1
  | .slice elems spare => uptoBulkAll elems + uptoBulkAll spare + 1
  | .agg parts => uptoBulkAll parts + 1
  | .iface _ d => uptoBulk d + 1
  | .map entries => uptoBulkEntries entries + 1
  | .held _ => 1
def uptoBulkAll {H : Type} : List (DataW H) → Nat
  | [] => 0
  | d :: r => uptoBulk d + uptoBulkAll r
def uptoBulkEntries {H : Type} : List (Lit × DataW H) → Nat
  | [] => 0
  | x :: r => uptoBulkEntry x + uptoBulkEntries r
def uptoBulkEntry {H : Type} : Lit × DataW H → Nat
  | (.string bytes, d) => bytes.length + uptoBulk d + 1
  | (_, d) => uptoBulk d + 1
 end
def uptoSmall : (H : Type) → List (DataW H) → Bool := fun _ ds => decide (uptoBulkAll ds ≤ 1048576)
def OpenSpec.upto (s : _root_.Go.ChangeSpec) : _root_.Go.OpenSpec := { _root_.Go.OpenSpec.ofChange s with cond := some uptoSmall }

/-- 'estraylaw29.CleanerOnce', WHERE WHAT IT READS IS OF BULK AT MOST 1048576: true; the input reads as it did. -/
def cleanerOnceUptoRow : OpenClaim := { program := "ytphpimbhhmkdkaa", sum := "50c1a0325030ccb2d3ea46d209f09e429d786d15288ec22d2cacd9ebc3e3a53d", func := "estray/estraylaw29.CleanerOnce", spec := "cleanerOnce", apart := false, narrowed := true }
def CleanerOnceUptoSaid : Prop := cleanerOnceUptoRow.holds Try.pinned (OpenSpec.upto cleanerOnceSpec)

/-- 'estraylaw29.CleanerCourse', WHERE WHAT IT READS IS OF BULK AT MOST 1048576: true; the input reads as it did. -/
def cleanerCourseUptoRow : OpenClaim := { program := "ytphpimbhhmkdkaa", sum := "50c1a0325030ccb2d3ea46d209f09e429d786d15288ec22d2cacd9ebc3e3a53d", func := "estray/estraylaw29.CleanerCourse", spec := "cleanerCourse", unfollowed := true, recurses := true, apart := false, narrowed := true }
def CleanerCourseUptoSaid : Prop := cleanerCourseUptoRow.holds Try.pinned (OpenSpec.upto cleanerCourseSpec)

/-- 'estraylaw29.CleanerFull', WHERE WHAT IT READS IS OF BULK AT MOST 1048576: true; the input reads as it did. -/
def cleanerFullUptoRow : OpenClaim := { program := "ytphpimbhhmkdkaa", sum := "50c1a0325030ccb2d3ea46d209f09e429d786d15288ec22d2cacd9ebc3e3a53d", func := "estray/estraylaw29.CleanerFull", spec := "cleanerFull", apart := false, narrowed := true }
def CleanerFullUptoSaid : Prop := cleanerFullUptoRow.holds Try.pinned (OpenSpec.upto cleanerFullSpec)

/-- 'estraylaw29.CleanerRefuses', WHERE WHAT IT READS IS OF BULK AT MOST 1048576: true; the input reads as it did. -/
def cleanerRefusesUptoRow : OpenClaim := { program := "ytphpimbhhmkdkaa", sum := "50c1a0325030ccb2d3ea46d209f09e429d786d15288ec22d2cacd9ebc3e3a53d", func := "estray/estraylaw29.CleanerRefuses", spec := "cleanerRefuses", apart := false, narrowed := true }
def CleanerRefusesUptoSaid : Prop := cleanerRefusesUptoRow.holds Try.pinned (OpenSpec.upto cleanerRefusesSpec)

/-- 'estraylaw29.CleanerPlays', WHERE WHAT IT READS IS OF BULK AT MOST 1048576: true; the input reads as it did. -/
def cleanerPlaysUptoRow : OpenClaim := { program := "ytphpimbhhmkdkaa", sum := "50c1a0325030ccb2d3ea46d209f09e429d786d15288ec22d2cacd9ebc3e3a53d", func := "estray/estraylaw29.CleanerPlays", spec := "cleanerPlays", inPlace := ["maps.clone"], apart := false, narrowed := true }
def CleanerPlaysUptoSaid : Prop := cleanerPlaysUptoRow.holds Try.pinned (OpenSpec.upto cleanerPlaysSpec)

/-- 'estraylaw29.CleanerApart', WHERE WHAT IT READS IS OF BULK AT MOST 1048576: true; the input reads as it did. -/
def cleanerApartUptoRow : OpenClaim := { program := "ytphpimbhhmkdkaa", sum := "50c1a0325030ccb2d3ea46d209f09e429d786d15288ec22d2cacd9ebc3e3a53d", func := "estray/estraylaw29.CleanerApart", spec := "cleanerApart", inPlace := ["maps.clone"], apart := false, narrowed := true }
def CleanerApartUptoSaid : Prop := cleanerApartUptoRow.holds Try.pinned (OpenSpec.upto cleanerApartSpec)

/-- 'estraylaw29.CleanerNil', WHERE WHAT IT READS IS OF BULK AT MOST 1048576: true; the input reads as it did. -/
def cleanerNilUptoRow : OpenClaim := { program := "ytphpimbhhmkdkaa", sum := "50c1a0325030ccb2d3ea46d209f09e429d786d15288ec22d2cacd9ebc3e3a53d", func := "estray/estraylaw29.CleanerNil", spec := "cleanerNil", inPlace := ["maps.clone"], apart := false, narrowed := true }
def CleanerNilUptoSaid : Prop := cleanerNilUptoRow.holds Try.pinned (OpenSpec.upto cleanerNilSpec)

end Rows
end Go.Proofs.Ytphpimbhhmkdkaa
