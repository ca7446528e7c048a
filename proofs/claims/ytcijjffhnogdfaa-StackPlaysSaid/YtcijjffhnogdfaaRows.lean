/-
  No cell of these rows narrows 'for every input' (looked for: loops, veiled, ifaces, maps, wideKeys, modest, calm, conditions, laid).
  DERIVED. THE GIVEN ROWS OF THIS SEAT. 8 by the template 'for every input the law returns true; each argument reads behind the call as it read before'; 0 by the template 'total and deterministic' (their statements: YtcijjffhnogdfaaTotals.lean).
  GIVEN WITH THE SEED: the statements are not yours to turn. If you find one false, say at which input.
  Laid BY PROGRAM, IN A SANDBOX (cutbox-rows.mjs): the forced cells as the released guide's own fill.sh prints them over the translation e60b36fdd84f6fc4… (all of the seat's roots in one cut). By AI agents, Wed Nov 11 2026. No macro, syntax, notation, axiom, sorry.
-/
import Derived.Test.YtcijjffhnogdfaaChecked
import GoSem.Claim
import GoSem.ClaimJoined
import GoSem.ClaimMapViews
import Derived.JoinedTies
import Derived.KernelRfl
namespace Go.Proofs.Ytcijjffhnogdfaa
/- THE CELL 'sum', in the pinned program and in every row, IS THE sha256 OF THE DUMP (.gsa) THAT YtcijjffhnogdfaaProg.lean LOADS. Nothing in Lean hashes anything: it is a label: what it is worth is what the hold of that sum in a sandbox is worth. -/
noncomputable def Try.pinned : Pinned := { name := "ytcijjffhnogdfaa", sum := "e60b36fdd84f6fc45e0444788fc35da83678093b68ae131fc248cc9f9dff85fd", checked := Try.checked }
namespace Rows
def none {H : Type} : Left H := { results := [], args := [] }

/-- 'estraylaw20.StackOrder': WHATEVER THE INPUT: true; the input reads as it did. -/
def stackOrderSpec : ChangeSpec := { name := "stackOrder", fn := fun _ => fun
  | [d1, d2] => { results := [.lit (.bool true)], args := [d1, d2] }
  | _ => none }
def stackOrderRow : OpenClaim := { program := "ytcijjffhnogdfaa", sum := "e60b36fdd84f6fc45e0444788fc35da83678093b68ae131fc248cc9f9dff85fd", func := "estray/estraylaw20.StackOrder", spec := "stackOrder", apart := false }
def StackOrderSaid : Prop := stackOrderRow.holds Try.pinned (OpenSpec.ofChange stackOrderSpec)

/-- ITS FALSE NEIGHBOUR: 'it returns false'. Refute it at one input. -/
def stackOrderWrong : ChangeSpec := { name := "stackOrder", fn := fun _ => fun
  | [d1, d2] => { results := [.lit (.bool false)], args := [d1, d2] }
  | _ => none }
def StackOrderWrongFalsely : Prop := stackOrderRow.holds Try.pinned (OpenSpec.ofChange stackOrderWrong)

/-- 'estraylaw20.StackMost': WHATEVER THE INPUT: true; the input reads as it did. -/
def stackMostSpec : ChangeSpec := { name := "stackMost", fn := fun _ => fun
  | [d1, d2] => { results := [.lit (.bool true)], args := [d1, d2] }
  | _ => none }
def stackMostRow : OpenClaim := { program := "ytcijjffhnogdfaa", sum := "e60b36fdd84f6fc45e0444788fc35da83678093b68ae131fc248cc9f9dff85fd", func := "estray/estraylaw20.StackMost", spec := "stackMost", apart := false }
def StackMostSaid : Prop := stackMostRow.holds Try.pinned (OpenSpec.ofChange stackMostSpec)

/-- ITS FALSE NEIGHBOUR: 'it returns false'. Refute it at one input. -/
def stackMostWrong : ChangeSpec := { name := "stackMost", fn := fun _ => fun
  | [d1, d2] => { results := [.lit (.bool false)], args := [d1, d2] }
  | _ => none }
def StackMostWrongFalsely : Prop := stackMostRow.holds Try.pinned (OpenSpec.ofChange stackMostWrong)

/-- 'estraylaw20.StackFits': WHATEVER THE INPUT: true; the input reads as it did. -/
def stackFitsSpec : ChangeSpec := { name := "stackFits", fn := fun _ => fun
  | [d1, d2, d3] => { results := [.lit (.bool true)], args := [d1, d2, d3] }
  | _ => none }
def stackFitsRow : OpenClaim := { program := "ytcijjffhnogdfaa", sum := "e60b36fdd84f6fc45e0444788fc35da83678093b68ae131fc248cc9f9dff85fd", func := "estray/estraylaw20.StackFits", spec := "stackFits", apart := false }
def StackFitsSaid : Prop := stackFitsRow.holds Try.pinned (OpenSpec.ofChange stackFitsSpec)

/-- ITS FALSE NEIGHBOUR: 'it returns false'. Refute it at one input. -/
def stackFitsWrong : ChangeSpec := { name := "stackFits", fn := fun _ => fun
  | [d1, d2, d3] => { results := [.lit (.bool false)], args := [d1, d2, d3] }
  | _ => none }
def StackFitsWrongFalsely : Prop := stackFitsRow.holds Try.pinned (OpenSpec.ofChange stackFitsWrong)

/-- 'estraylaw20.StackRefuses': WHATEVER THE INPUT: true; the input reads as it did. -/
def stackRefusesSpec : ChangeSpec := { name := "stackRefuses", fn := fun _ => fun
  | [d1, d2, d3] => { results := [.lit (.bool true)], args := [d1, d2, d3] }
  | _ => none }
def stackRefusesRow : OpenClaim := { program := "ytcijjffhnogdfaa", sum := "e60b36fdd84f6fc45e0444788fc35da83678093b68ae131fc248cc9f9dff85fd", func := "estray/estraylaw20.StackRefuses", spec := "stackRefuses", apart := false }
def StackRefusesSaid : Prop := stackRefusesRow.holds Try.pinned (OpenSpec.ofChange stackRefusesSpec)

/-- ITS FALSE NEIGHBOUR: 'it returns false'. Refute it at one input. -/
def stackRefusesWrong : ChangeSpec := { name := "stackRefuses", fn := fun _ => fun
  | [d1, d2, d3] => { results := [.lit (.bool false)], args := [d1, d2, d3] }
  | _ => none }
def StackRefusesWrongFalsely : Prop := stackRefusesRow.holds Try.pinned (OpenSpec.ofChange stackRefusesWrong)

/-- 'estraylaw20.StackKnown': WHATEVER THE INPUT: true; the input reads as it did. -/
def stackKnownSpec : ChangeSpec := { name := "stackKnown", fn := fun _ => fun
  | [] => { results := [.lit (.bool true)], args := [] }
  | _ => none }
def stackKnownRow : OpenClaim := { program := "ytcijjffhnogdfaa", sum := "e60b36fdd84f6fc45e0444788fc35da83678093b68ae131fc248cc9f9dff85fd", func := "estray/estraylaw20.StackKnown", spec := "stackKnown", apart := false }
def StackKnownSaid : Prop := stackKnownRow.holds Try.pinned (OpenSpec.ofChange stackKnownSpec)

/-- ITS FALSE NEIGHBOUR: 'it returns false'. Refute it at one input. -/
def stackKnownWrong : ChangeSpec := { name := "stackKnown", fn := fun _ => fun
  | [] => { results := [.lit (.bool false)], args := [] }
  | _ => none }
def StackKnownWrongFalsely : Prop := stackKnownRow.holds Try.pinned (OpenSpec.ofChange stackKnownWrong)

/-- 'estraylaw20.StackPlays': WHATEVER THE INPUT: true; the input reads as it did. -/
def stackPlaysSpec : ChangeSpec := { name := "stackPlays", fn := fun _ => fun
  | [d1, d2] => { results := [.lit (.bool true)], args := [d1, d2] }
  | _ => none }
def stackPlaysRow : OpenClaim := { program := "ytcijjffhnogdfaa", sum := "e60b36fdd84f6fc45e0444788fc35da83678093b68ae131fc248cc9f9dff85fd", func := "estray/estraylaw20.StackPlays", spec := "stackPlays", apart := false }
def StackPlaysSaid : Prop := stackPlaysRow.holds Try.pinned (OpenSpec.ofChange stackPlaysSpec)

/-- ITS FALSE NEIGHBOUR: 'it returns false'. Refute it at one input. -/
def stackPlaysWrong : ChangeSpec := { name := "stackPlays", fn := fun _ => fun
  | [d1, d2] => { results := [.lit (.bool false)], args := [d1, d2] }
  | _ => none }
def StackPlaysWrongFalsely : Prop := stackPlaysRow.holds Try.pinned (OpenSpec.ofChange stackPlaysWrong)

/-- 'estraylaw20.StackNil': WHATEVER THE INPUT: true; the input reads as it did. -/
def stackNilSpec : ChangeSpec := { name := "stackNil", fn := fun _ => fun
  | [d] => { results := [.lit (.bool true)], args := [d] }
  | _ => none }
def stackNilRow : OpenClaim := { program := "ytcijjffhnogdfaa", sum := "e60b36fdd84f6fc45e0444788fc35da83678093b68ae131fc248cc9f9dff85fd", func := "estray/estraylaw20.StackNil", spec := "stackNil", apart := false }
def StackNilSaid : Prop := stackNilRow.holds Try.pinned (OpenSpec.ofChange stackNilSpec)

/-- ITS FALSE NEIGHBOUR: 'it returns false'. Refute it at one input. -/
def stackNilWrong : ChangeSpec := { name := "stackNil", fn := fun _ => fun
  | [d] => { results := [.lit (.bool false)], args := [d] }
  | _ => none }
def StackNilWrongFalsely : Prop := stackNilRow.holds Try.pinned (OpenSpec.ofChange stackNilWrong)

/-- 'estraylaw20.StackCopies': WHATEVER THE INPUT: true; the input reads as it did. -/
def stackCopiesSpec : ChangeSpec := { name := "stackCopies", fn := fun _ => fun
  | [d1, d2, d3] => { results := [.lit (.bool true)], args := [d1, d2, d3] }
  | _ => none }
def stackCopiesRow : OpenClaim := { program := "ytcijjffhnogdfaa", sum := "e60b36fdd84f6fc45e0444788fc35da83678093b68ae131fc248cc9f9dff85fd", func := "estray/estraylaw20.StackCopies", spec := "stackCopies", apart := false }
def StackCopiesSaid : Prop := stackCopiesRow.holds Try.pinned (OpenSpec.ofChange stackCopiesSpec)

/-- ITS FALSE NEIGHBOUR: 'it returns false'. Refute it at one input. -/
def stackCopiesWrong : ChangeSpec := { name := "stackCopies", fn := fun _ => fun
  | [d1, d2, d3] => { results := [.lit (.bool false)], args := [d1, d2, d3] }
  | _ => none }
def StackCopiesWrongFalsely : Prop := stackCopiesRow.holds Try.pinned (OpenSpec.ofChange stackCopiesWrong)

/- THE SECOND FORM. 'bulk': how many values and letters a reading holds, each counted each time it is reached (what is shared counts as often as it is met; a slice's spare places count too). A statement '..UptoSaid' is the law's where the arguments, and the package variables that the reading takes, are together of bulk at most 1048576: NARROWER than '..Said'. Prove '..Said' where nothing that the law and all that it calls make is longer than what came in: it says more and counts as full. Else prove '..UptoSaid'. A law counts once. -/
mutual
def uptoBulk {H : Type} : DataW H → Nat
  | .lit (.string bytes) => bytes.length + 1
  | .lit _ => 1
  | .nil => 1
  | .ptr d => uptoBulk d + 1
  | .slice elems spare => uptoBulkAll elems + uptoBulkAll spare + 1
  | .agg parts => uptoBulkAll parts + 1
  | .iface _ d => uptoBulk d + 1
  | .map entries => uptoBulkEntries entries + 1
  | .held _ => 1
def uptoBulkAll {H : Type} : List (DataW H) → Nat
  | [] => 0
  | d :: r => uptoBulk d + uptoBulkAll r
def uptoBulkEntries {H : Type} : List (Lit × DataW H) → Nat
  | [] => 0
  | x :: r => uptoBulkEntry x + uptoBulkEntries r
def uptoBulkEntry {H : Type} : Lit × DataW H → Nat
  | (.string bytes, d) => bytes.length + uptoBulk d + 1
  | (_, d) => uptoBulk d + 1
 end
def uptoSmall : (H : Type) → List (DataW H) → Bool := fun _ ds => decide (uptoBulkAll ds ≤ 1048576)
def OpenSpec.upto (s : _root_.Go.ChangeSpec) : _root_.Go.OpenSpec := { _root_.Go.OpenSpec.ofChange s with cond := some uptoSmall }

/-- 'estraylaw20.StackOrder', WHERE WHAT IT READS IS OF BULK AT MOST 1048576: true; the input reads as it did. -/
def stackOrderUptoRow : OpenClaim := { program := "ytcijjffhnogdfaa", sum := "e60b36fdd84f6fc45e0444788fc35da83678093b68ae131fc248cc9f9dff85fd", func := "estray/estraylaw20.StackOrder", spec := "stackOrder", apart := false, narrowed := true }
def StackOrderUptoSaid : Prop := stackOrderUptoRow.holds Try.pinned (OpenSpec.upto stackOrderSpec)

/-- 'estraylaw20.StackMost', WHERE WHAT IT READS IS OF BULK AT MOST 1048576: true; the input reads as it did. -/
def stackMostUptoRow : OpenClaim := { program := "ytcijjffhnogdfaa", sum := "e60b36fdd84f6fc45e0444788fc35da83678093b68ae131fc248cc9f9dff85fd", func := "estray/estraylaw20.StackMost", spec := "stackMost", apart := false, narrowed := true }
def StackMostUptoSaid : Prop := stackMostUptoRow.holds Try.pinned (OpenSpec.upto stackMostSpec)

/-- 'estraylaw20.StackFits', WHERE WHAT IT READS IS OF BULK AT MOST 1048576: true; the input reads as it did. -/
def stackFitsUptoRow : OpenClaim := { program := "ytcijjffhnogdfaa", sum := "e60b36fdd84f6fc45e0444788fc35da83678093b68ae131fc248cc9f9dff85fd", func := "estray/estraylaw20.StackFits", spec := "stackFits", apart := false, narrowed := true }
def StackFitsUptoSaid : Prop := stackFitsUptoRow.holds Try.pinned (OpenSpec.upto stackFitsSpec)

/-- 'estraylaw20.StackRefuses', WHERE WHAT IT READS IS OF BULK AT MOST 1048576: true; the input reads as it did. -/
def stackRefusesUptoRow : OpenClaim := { program := "ytcijjffhnogdfaa", sum := "e60b36fdd84f6fc45e0444788fc35da83678093b68ae131fc248cc9f9dff85fd", func := "estray/estraylaw20.StackRefuses", spec := "stackRefuses", apart := false, narrowed := true }
def StackRefusesUptoSaid : Prop := stackRefusesUptoRow.holds Try.pinned (OpenSpec.upto stackRefusesSpec)

/-- 'estraylaw20.StackKnown', WHERE WHAT IT READS IS OF BULK AT MOST 1048576: true; the input reads as it did. -/
def stackKnownUptoRow : OpenClaim := { program := "ytcijjffhnogdfaa", sum := "e60b36fdd84f6fc45e0444788fc35da83678093b68ae131fc248cc9f9dff85fd", func := "estray/estraylaw20.StackKnown", spec := "stackKnown", apart := false, narrowed := true }
def StackKnownUptoSaid : Prop := stackKnownUptoRow.holds Try.pinned (OpenSpec.upto stackKnownSpec)

/-- 'estraylaw20.StackPlays', WHERE WHAT IT READS IS OF BULK AT MOST 1048576: true; the input reads as it did. -/
def stackPlaysUptoRow : OpenClaim := { program := "ytcijjffhnogdfaa", sum := "e60b36fdd84f6fc45e0444788fc35da83678093b68ae131fc248cc9f9dff85fd", func := "estray/estraylaw20.StackPlays", spec := "stackPlays", apart := false, narrowed := true }
def StackPlaysUptoSaid : Prop := stackPlaysUptoRow.holds Try.pinned (OpenSpec.upto stackPlaysSpec)

/-- 'estraylaw20.StackNil', WHERE WHAT IT READS IS OF BULK AT MOST 1048576: true; the input reads as it did. -/
def stackNilUptoRow : OpenClaim := { program := "ytcijjffhnogdfaa", sum := "e60b36fdd84f6fc45e0444788fc35da83678093b68ae131fc248cc9f9dff85fd", func := "estray/estraylaw20.StackNil", spec := "stackNil", apart := false, narrowed := true }
def StackNilUptoSaid : Prop := stackNilUptoRow.holds Try.pinned (OpenSpec.upto stackNilSpec)

/-- 'estraylaw20.StackCopies', WHERE WHAT IT READS IS OF BULK AT MOST 1048576: true; the input reads as it did. -/
def stackCopiesUptoRow : OpenClaim := { program := "ytcijjffhnogdfaa", sum := "e60b36fdd84f6fc45e0444788fc35da83678093b68ae131fc248cc9f9dff85fd", func := "estray/estraylaw20.StackCopies", spec := "stackCopies", apart := false, narrowed := true }
def StackCopiesUptoSaid : Prop := stackCopiesUptoRow.holds Try.pinned (OpenSpec.upto stackCopiesSpec)

end Rows
end Go.Proofs.Ytcijjffhnogdfaa
