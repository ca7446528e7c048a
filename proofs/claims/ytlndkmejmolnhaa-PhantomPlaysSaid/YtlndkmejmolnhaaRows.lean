/-
  No cell of these rows narrows 'for every input' (looked for: loops, veiled, ifaces, maps, wideKeys, modest, calm, conditions, laid).
  DERIVED. THE GIVEN ROWS OF THIS SEAT. 6 by the template 'for every input the law returns true; each argument reads behind the call as it read before'; 0 by the template 'total and deterministic' (their statements: YtlndkmejmolnhaaTotals.lean).
  GIVEN WITH THE SEED: the statements are not yours to turn. If you find one false, say at which input.
  Laid BY PROGRAM, IN A SANDBOX (cutbox-rows.mjs): the forced cells as the released guide's own fill.sh prints them over the translation 182760a462204626… (all of the seat's roots in one cut). By AI agents, Wed Nov 11 2026. No macro, syntax, notation, axiom, sorry.
-/
import Derived.Test.YtlndkmejmolnhaaChecked
import GoSem.Claim
import GoSem.ClaimJoined
import GoSem.ClaimMapViews
import Derived.JoinedTies
import Derived.KernelRfl
namespace Go.Proofs.Ytlndkmejmolnhaa
/- THE CELL 'sum', in the pinned program and in every row, IS THE sha256 OF THE DUMP (.gsa) THAT YtlndkmejmolnhaaProg.lean LOADS. Nothing in Lean hashes anything: it is a label: what it is worth is what the hold of that sum in a sandbox is worth. -/
noncomputable def Try.pinned : Pinned := { name := "ytlndkmejmolnhaa", sum := "182760a46220462602de22aec99c3b684c59bb46e873c46bd01f0f8c8051af56", checked := Try.checked }
namespace Rows
def none {H : Type} : Left H := { results := [], args := [] }

/-- 'estraylaw27.PhantomNil': WHATEVER THE INPUT: true; the input reads as it did. -/
def phantomNilSpec : ChangeSpec := { name := "phantomNil", fn := fun _ => fun
  | [d1, d2] => { results := [.lit (.bool true)], args := [d1, d2] }
  | _ => none }
def phantomNilRow : OpenClaim := { program := "ytlndkmejmolnhaa", sum := "182760a46220462602de22aec99c3b684c59bb46e873c46bd01f0f8c8051af56", func := "estray/estraylaw27.PhantomNil", spec := "phantomNil", inPlace := ["maps.clone"], recurses := true, plainKeys := false, apart := false }
def PhantomNilSaid : Prop := phantomNilRow.holds Try.pinned (OpenSpec.ofChange phantomNilSpec)

/-- ITS FALSE NEIGHBOUR: 'it returns false'. Refute it at one input. -/
def phantomNilWrong : ChangeSpec := { name := "phantomNil", fn := fun _ => fun
  | [d1, d2] => { results := [.lit (.bool false)], args := [d1, d2] }
  | _ => none }
def PhantomNilWrongFalsely : Prop := phantomNilRow.holds Try.pinned (OpenSpec.ofChange phantomNilWrong)

/-- 'estraylaw27.PhantomStays': WHATEVER THE INPUT: true; the input reads as it did. -/
def phantomStaysSpec : ChangeSpec := { name := "phantomStays", fn := fun _ => fun
  | [d1, d2, d3, d4] => { results := [.lit (.bool true)], args := [d1, d2, d3, d4] }
  | _ => none }
def phantomStaysRow : OpenClaim := { program := "ytlndkmejmolnhaa", sum := "182760a46220462602de22aec99c3b684c59bb46e873c46bd01f0f8c8051af56", func := "estray/estraylaw27.PhantomStays", spec := "phantomStays", inPlace := ["maps.clone"], recurses := true, plainKeys := false, apart := false }
def PhantomStaysSaid : Prop := phantomStaysRow.holds Try.pinned (OpenSpec.ofChange phantomStaysSpec)

/-- ITS FALSE NEIGHBOUR: 'it returns false'. Refute it at one input. -/
def phantomStaysWrong : ChangeSpec := { name := "phantomStays", fn := fun _ => fun
  | [d1, d2, d3, d4] => { results := [.lit (.bool false)], args := [d1, d2, d3, d4] }
  | _ => none }
def PhantomStaysWrongFalsely : Prop := phantomStaysRow.holds Try.pinned (OpenSpec.ofChange phantomStaysWrong)

/-- 'estraylaw27.PhantomIds': WHATEVER THE INPUT: true; the input reads as it did. -/
def phantomIdsSpec : ChangeSpec := { name := "phantomIds", fn := fun _ => fun
  | [d1, d2] => { results := [.lit (.bool true)], args := [d1, d2] }
  | _ => none }
def phantomIdsRow : OpenClaim := { program := "ytlndkmejmolnhaa", sum := "182760a46220462602de22aec99c3b684c59bb46e873c46bd01f0f8c8051af56", func := "estray/estraylaw27.PhantomIds", spec := "phantomIds", recurses := true, plainKeys := false, apart := false }
def PhantomIdsSaid : Prop := phantomIdsRow.holds Try.pinned (OpenSpec.ofChange phantomIdsSpec)

/-- ITS FALSE NEIGHBOUR: 'it returns false'. Refute it at one input. -/
def phantomIdsWrong : ChangeSpec := { name := "phantomIds", fn := fun _ => fun
  | [d1, d2] => { results := [.lit (.bool false)], args := [d1, d2] }
  | _ => none }
def PhantomIdsWrongFalsely : Prop := phantomIdsRow.holds Try.pinned (OpenSpec.ofChange phantomIdsWrong)

/-- 'estraylaw27.PhantomBoth': WHATEVER THE INPUT: true; the input reads as it did. -/
def phantomBothSpec : ChangeSpec := { name := "phantomBoth", fn := fun _ => fun
  | [d1, d2] => { results := [.lit (.bool true)], args := [d1, d2] }
  | _ => none }
def phantomBothRow : OpenClaim := { program := "ytlndkmejmolnhaa", sum := "182760a46220462602de22aec99c3b684c59bb46e873c46bd01f0f8c8051af56", func := "estray/estraylaw27.PhantomBoth", spec := "phantomBoth", recurses := true, plainKeys := false, apart := false }
def PhantomBothSaid : Prop := phantomBothRow.holds Try.pinned (OpenSpec.ofChange phantomBothSpec)

/-- ITS FALSE NEIGHBOUR: 'it returns false'. Refute it at one input. -/
def phantomBothWrong : ChangeSpec := { name := "phantomBoth", fn := fun _ => fun
  | [d1, d2] => { results := [.lit (.bool false)], args := [d1, d2] }
  | _ => none }
def PhantomBothWrongFalsely : Prop := phantomBothRow.holds Try.pinned (OpenSpec.ofChange phantomBothWrong)

/-- 'estraylaw27.PhantomAgain': WHATEVER THE INPUT: true; the input reads as it did. -/
def phantomAgainSpec : ChangeSpec := { name := "phantomAgain", fn := fun _ => fun
  | [d1, d2, d3, d4] => { results := [.lit (.bool true)], args := [d1, d2, d3, d4] }
  | _ => none }
def phantomAgainRow : OpenClaim := { program := "ytlndkmejmolnhaa", sum := "182760a46220462602de22aec99c3b684c59bb46e873c46bd01f0f8c8051af56", func := "estray/estraylaw27.PhantomAgain", spec := "phantomAgain", recurses := true, plainKeys := false, apart := false }
def PhantomAgainSaid : Prop := phantomAgainRow.holds Try.pinned (OpenSpec.ofChange phantomAgainSpec)

/-- ITS FALSE NEIGHBOUR: 'it returns false'. Refute it at one input. -/
def phantomAgainWrong : ChangeSpec := { name := "phantomAgain", fn := fun _ => fun
  | [d1, d2, d3, d4] => { results := [.lit (.bool false)], args := [d1, d2, d3, d4] }
  | _ => none }
def PhantomAgainWrongFalsely : Prop := phantomAgainRow.holds Try.pinned (OpenSpec.ofChange phantomAgainWrong)

/-- 'estraylaw27.PhantomPlays': WHATEVER THE INPUT: true; the input reads as it did. -/
def phantomPlaysSpec : ChangeSpec := { name := "phantomPlays", fn := fun _ => fun
  | [d1, d2] => { results := [.lit (.bool true)], args := [d1, d2] }
  | _ => none }
def phantomPlaysRow : OpenClaim := { program := "ytlndkmejmolnhaa", sum := "182760a46220462602de22aec99c3b684c59bb46e873c46bd01f0f8c8051af56", func := "estray/estraylaw27.PhantomPlays", spec := "phantomPlays", inPlace := ["maps.clone"], recurses := true, plainKeys := false, apart := false }
def PhantomPlaysSaid : Prop := phantomPlaysRow.holds Try.pinned (OpenSpec.ofChange phantomPlaysSpec)

/-- ITS FALSE NEIGHBOUR: 'it returns false'. Refute it at one input. -/
def phantomPlaysWrong : ChangeSpec := { name := "phantomPlays", fn := fun _ => fun
  | [d1, d2] => { results := [.lit (.bool false)], args := [d1, d2] }
  | _ => none }
def PhantomPlaysWrongFalsely : Prop := phantomPlaysRow.holds Try.pinned (OpenSpec.ofChange phantomPlaysWrong)

/- THE SECOND FORM. 'bulk': how many values and letters a reading holds, each counted each time it is reached (what is shared counts as often as it is met; a slice's spare places count too). A statement '..UptoSaid' is the law's where the arguments, and the package variables that the reading takes, are together of bulk at most 1048576: NARROWER than '..Said'. Prove '..Said' where nothing that the law and all that it calls make is longer than what came in: it says more and counts as full. Else prove '..UptoSaid'. A law counts once. -/
mutual
def uptoBulk {H : Type} : DataW H → Nat
  | .lit (.string bytes) => bytes.length + 1
  | .lit _ => 1
  | .nil => 1
  | .ptr d => uptoBulk d + 1
  | .slice elems spare => uptoBulkAll elems + uptoBulkAll spare + 1
  | .agg parts => uptoBulkAll parts + 1
  | .iface _ d => uptoBulk d + 1
  | .map entries => uptoBulkEntries entries + 1
  | .held _ => 1
def uptoBulkAll {H : Type} : List (DataW H) → Nat
  | [] => 0
  | d :: r => uptoBulk d + uptoBulkAll r
def uptoBulkEntries {H : Type} : List (Lit × DataW H) → Nat
  | [] => 0
  | x :: r => uptoBulkEntry x + uptoBulkEntries r
def uptoBulkEntry {H : Type} : Lit × DataW H → Nat
  | (.string bytes, d) => bytes.length + uptoBulk d + 1
  | (_, d) => uptoBulk d + 1
 end
def uptoSmall : (H : Type) → List (DataW H) → Bool := fun _ ds => decide (uptoBulkAll ds ≤ 1048576)
def OpenSpec.upto (s : _root_.Go.ChangeSpec) : _root_.Go.OpenSpec := { _root_.Go.OpenSpec.ofChange s with cond := some uptoSmall }

/-- 'estraylaw27.PhantomNil', WHERE WHAT IT READS IS OF BULK AT MOST 1048576: true; the input reads as it did. -/
def phantomNilUptoRow : OpenClaim := { program := "ytlndkmejmolnhaa", sum := "182760a46220462602de22aec99c3b684c59bb46e873c46bd01f0f8c8051af56", func := "estray/estraylaw27.PhantomNil", spec := "phantomNil", inPlace := ["maps.clone"], recurses := true, plainKeys := false, apart := false, narrowed := true }
def PhantomNilUptoSaid : Prop := phantomNilUptoRow.holds Try.pinned (OpenSpec.upto phantomNilSpec)

/-- 'estraylaw27.PhantomStays', WHERE WHAT IT READS IS OF BULK AT MOST 1048576: true; the input reads as it did. -/
def phantomStaysUptoRow : OpenClaim := { program := "ytlndkmejmolnhaa", sum := "182760a46220462602de22aec99c3b684c59bb46e873c46bd01f0f8c8051af56", func := "estray/estraylaw27.PhantomStays", spec := "phantomStays", inPlace := ["maps.clone"], recurses := true, plainKeys := false, apart := false, narrowed := true }
def PhantomStaysUptoSaid : Prop := phantomStaysUptoRow.holds Try.pinned (OpenSpec.upto phantomStaysSpec)

/-- 'estraylaw27.PhantomIds', WHERE WHAT IT READS IS OF BULK AT MOST 1048576: true; the input reads as it did. -/
def phantomIdsUptoRow : OpenClaim := { program := "ytlndkmejmolnhaa", sum := "182760a46220462602de22aec99c3b684c59bb46e873c46bd01f0f8c8051af56", func := "estray/estraylaw27.PhantomIds", spec := "phantomIds", recurses := true, plainKeys := false, apart := false, narrowed := true }
def PhantomIdsUptoSaid : Prop := phantomIdsUptoRow.holds Try.pinned (OpenSpec.upto phantomIdsSpec)

/-- 'estraylaw27.PhantomBoth', WHERE WHAT IT READS IS OF BULK AT MOST 1048576: true; the input reads as it did. -/
def phantomBothUptoRow : OpenClaim := { program := "ytlndkmejmolnhaa", sum := "182760a46220462602de22aec99c3b684c59bb46e873c46bd01f0f8c8051af56", func := "estray/estraylaw27.PhantomBoth", spec := "phantomBoth", recurses := true, plainKeys := false, apart := false, narrowed := true }
def PhantomBothUptoSaid : Prop := phantomBothUptoRow.holds Try.pinned (OpenSpec.upto phantomBothSpec)

/-- 'estraylaw27.PhantomAgain', WHERE WHAT IT READS IS OF BULK AT MOST 1048576: true; the input reads as it did. -/
def phantomAgainUptoRow : OpenClaim := { program := "ytlndkmejmolnhaa", sum := "182760a46220462602de22aec99c3b684c59bb46e873c46bd01f0f8c8051af56", func := "estray/estraylaw27.PhantomAgain", spec := "phantomAgain", recurses := true, plainKeys := false, apart := false, narrowed := true }
def PhantomAgainUptoSaid : Prop := phantomAgainUptoRow.holds Try.pinned (OpenSpec.upto phantomAgainSpec)

/-- 'estraylaw27.PhantomPlays', WHERE WHAT IT READS IS OF BULK AT MOST 1048576: true; the input reads as it did. -/
def phantomPlaysUptoRow : OpenClaim := { program := "ytlndkmejmolnhaa", sum := "182760a46220462602de22aec99c3b684c59bb46e873c46bd01f0f8c8051af56", func := "estray/estraylaw27.PhantomPlays", spec := "phantomPlays", inPlace := ["maps.clone"], recurses := true, plainKeys := false, apart := false, narrowed := true }
def PhantomPlaysUptoSaid : Prop := phantomPlaysUptoRow.holds Try.pinned (OpenSpec.upto phantomPlaysSpec)

end Rows
end Go.Proofs.Ytlndkmejmolnhaa
