/-
  No cell of these rows narrows 'for every input' (looked for: loops, veiled, ifaces, maps, wideKeys, modest, calm, conditions, laid).
  DERIVED. THE GIVEN ROWS OF THIS SEAT. 7 by the template 'for every input the law returns true; each argument reads behind the call as it read before'; 0 by the template 'total and deterministic' (their statements: YtldladoccjlojaaTotals.lean).
  GIVEN WITH THE SEED: the statements are not yours to turn. If you find one false, say at which input.
  Laid BY PROGRAM, IN A SANDBOX (cutbox-rows.mjs): the forced cells as the released guide's own fill.sh prints them over the translation 0a412178f143d4ee… (all of the seat's roots in one cut). By AI agents, Wed Nov 11 2026. No macro, syntax, notation, axiom, sorry.
-/
import Derived.Test.YtldladoccjlojaaChecked
import GoSem.Claim
import GoSem.ClaimJoined
import GoSem.ClaimMapViews
import Derived.JoinedTies
import Derived.KernelRfl
namespace Go.Proofs.Ytldladoccjlojaa
/- THE CELL 'sum', in the pinned program and in every row, IS THE sha256 OF THE DUMP (.gsa) THAT YtldladoccjlojaaProg.lean LOADS. Nothing in Lean hashes anything: it is a label: what it is worth is what the hold of that sum in a sandbox is worth. -/
noncomputable def Try.pinned : Pinned := { name := "ytldladoccjlojaa", sum := "0a412178f143d4ee9cf3a5117885c48c2a456e0874f78370c837cda7ef33e938", checked := Try.checked }
namespace Rows
def none {H : Type} : Left H := { results := [], args := [] }

/-- 'estraylaw22.PhaseOrder': WHATEVER THE INPUT: true; the input reads as it did. -/
def phaseOrderSpec : ChangeSpec := { name := "phaseOrder", fn := fun _ => fun
  | [d1, d2] => { results := [.lit (.bool true)], args := [d1, d2] }
  | _ => none }
def phaseOrderRow : OpenClaim := { program := "ytldladoccjlojaa", sum := "0a412178f143d4ee9cf3a5117885c48c2a456e0874f78370c837cda7ef33e938", func := "estray/estraylaw22.PhaseOrder", spec := "phaseOrder", apart := false }
def PhaseOrderSaid : Prop := phaseOrderRow.holds Try.pinned (OpenSpec.ofChange phaseOrderSpec)

/-- ITS FALSE NEIGHBOUR: 'it returns false'. Refute it at one input. -/
def phaseOrderWrong : ChangeSpec := { name := "phaseOrder", fn := fun _ => fun
  | [d1, d2] => { results := [.lit (.bool false)], args := [d1, d2] }
  | _ => none }
def PhaseOrderWrongFalsely : Prop := phaseOrderRow.holds Try.pinned (OpenSpec.ofChange phaseOrderWrong)

/-- 'estraylaw22.PhaseBarriers': WHATEVER THE INPUT: true; the input reads as it did. -/
def phaseBarriersSpec : ChangeSpec := { name := "phaseBarriers", fn := fun _ => fun
  | [d1, d2] => { results := [.lit (.bool true)], args := [d1, d2] }
  | _ => none }
def phaseBarriersRow : OpenClaim := { program := "ytldladoccjlojaa", sum := "0a412178f143d4ee9cf3a5117885c48c2a456e0874f78370c837cda7ef33e938", func := "estray/estraylaw22.PhaseBarriers", spec := "phaseBarriers", apart := false }
def PhaseBarriersSaid : Prop := phaseBarriersRow.holds Try.pinned (OpenSpec.ofChange phaseBarriersSpec)

/-- ITS FALSE NEIGHBOUR: 'it returns false'. Refute it at one input. -/
def phaseBarriersWrong : ChangeSpec := { name := "phaseBarriers", fn := fun _ => fun
  | [d1, d2] => { results := [.lit (.bool false)], args := [d1, d2] }
  | _ => none }
def PhaseBarriersWrongFalsely : Prop := phaseBarriersRow.holds Try.pinned (OpenSpec.ofChange phaseBarriersWrong)

/-- 'estraylaw22.PhaseEnds': WHATEVER THE INPUT: true; the input reads as it did. -/
def phaseEndsSpec : ChangeSpec := { name := "phaseEnds", fn := fun _ => fun
  | [d1, d2, d3] => { results := [.lit (.bool true)], args := [d1, d2, d3] }
  | _ => none }
def phaseEndsRow : OpenClaim := { program := "ytldladoccjlojaa", sum := "0a412178f143d4ee9cf3a5117885c48c2a456e0874f78370c837cda7ef33e938", func := "estray/estraylaw22.PhaseEnds", spec := "phaseEnds", apart := false }
def PhaseEndsSaid : Prop := phaseEndsRow.holds Try.pinned (OpenSpec.ofChange phaseEndsSpec)

/-- ITS FALSE NEIGHBOUR: 'it returns false'. Refute it at one input. -/
def phaseEndsWrong : ChangeSpec := { name := "phaseEnds", fn := fun _ => fun
  | [d1, d2, d3] => { results := [.lit (.bool false)], args := [d1, d2, d3] }
  | _ => none }
def PhaseEndsWrongFalsely : Prop := phaseEndsRow.holds Try.pinned (OpenSpec.ofChange phaseEndsWrong)

/-- 'estraylaw22.PhaseRefuses': WHATEVER THE INPUT: true; the input reads as it did. -/
def phaseRefusesSpec : ChangeSpec := { name := "phaseRefuses", fn := fun _ => fun
  | [d1, d2, d3] => { results := [.lit (.bool true)], args := [d1, d2, d3] }
  | _ => none }
def phaseRefusesRow : OpenClaim := { program := "ytldladoccjlojaa", sum := "0a412178f143d4ee9cf3a5117885c48c2a456e0874f78370c837cda7ef33e938", func := "estray/estraylaw22.PhaseRefuses", spec := "phaseRefuses", apart := false }
def PhaseRefusesSaid : Prop := phaseRefusesRow.holds Try.pinned (OpenSpec.ofChange phaseRefusesSpec)

/-- ITS FALSE NEIGHBOUR: 'it returns false'. Refute it at one input. -/
def phaseRefusesWrong : ChangeSpec := { name := "phaseRefuses", fn := fun _ => fun
  | [d1, d2, d3] => { results := [.lit (.bool false)], args := [d1, d2, d3] }
  | _ => none }
def PhaseRefusesWrongFalsely : Prop := phaseRefusesRow.holds Try.pinned (OpenSpec.ofChange phaseRefusesWrong)

/-- 'estraylaw22.PhasePlays': WHATEVER THE INPUT: true; the input reads as it did. -/
def phasePlaysSpec : ChangeSpec := { name := "phasePlays", fn := fun _ => fun
  | [d1, d2] => { results := [.lit (.bool true)], args := [d1, d2] }
  | _ => none }
def phasePlaysRow : OpenClaim := { program := "ytldladoccjlojaa", sum := "0a412178f143d4ee9cf3a5117885c48c2a456e0874f78370c837cda7ef33e938", func := "estray/estraylaw22.PhasePlays", spec := "phasePlays", apart := false }
def PhasePlaysSaid : Prop := phasePlaysRow.holds Try.pinned (OpenSpec.ofChange phasePlaysSpec)

/-- ITS FALSE NEIGHBOUR: 'it returns false'. Refute it at one input. -/
def phasePlaysWrong : ChangeSpec := { name := "phasePlays", fn := fun _ => fun
  | [d1, d2] => { results := [.lit (.bool false)], args := [d1, d2] }
  | _ => none }
def PhasePlaysWrongFalsely : Prop := phasePlaysRow.holds Try.pinned (OpenSpec.ofChange phasePlaysWrong)

/-- 'estraylaw22.PhaseNil': WHATEVER THE INPUT: true; the input reads as it did. -/
def phaseNilSpec : ChangeSpec := { name := "phaseNil", fn := fun _ => fun
  | [d] => { results := [.lit (.bool true)], args := [d] }
  | _ => none }
def phaseNilRow : OpenClaim := { program := "ytldladoccjlojaa", sum := "0a412178f143d4ee9cf3a5117885c48c2a456e0874f78370c837cda7ef33e938", func := "estray/estraylaw22.PhaseNil", spec := "phaseNil", apart := false }
def PhaseNilSaid : Prop := phaseNilRow.holds Try.pinned (OpenSpec.ofChange phaseNilSpec)

/-- ITS FALSE NEIGHBOUR: 'it returns false'. Refute it at one input. -/
def phaseNilWrong : ChangeSpec := { name := "phaseNil", fn := fun _ => fun
  | [d] => { results := [.lit (.bool false)], args := [d] }
  | _ => none }
def PhaseNilWrongFalsely : Prop := phaseNilRow.holds Try.pinned (OpenSpec.ofChange phaseNilWrong)

/-- 'estraylaw22.PhaseCopies': WHATEVER THE INPUT: true; the input reads as it did. -/
def phaseCopiesSpec : ChangeSpec := { name := "phaseCopies", fn := fun _ => fun
  | [d1, d2, d3] => { results := [.lit (.bool true)], args := [d1, d2, d3] }
  | _ => none }
def phaseCopiesRow : OpenClaim := { program := "ytldladoccjlojaa", sum := "0a412178f143d4ee9cf3a5117885c48c2a456e0874f78370c837cda7ef33e938", func := "estray/estraylaw22.PhaseCopies", spec := "phaseCopies", apart := false }
def PhaseCopiesSaid : Prop := phaseCopiesRow.holds Try.pinned (OpenSpec.ofChange phaseCopiesSpec)

/-- ITS FALSE NEIGHBOUR: 'it returns false'. Refute it at one input. -/
def phaseCopiesWrong : ChangeSpec := { name := "phaseCopies", fn := fun _ => fun
  | [d1, d2, d3] => { results := [.lit (.bool false)], args := [d1, d2, d3] }
  | _ => none }
def PhaseCopiesWrongFalsely : Prop := phaseCopiesRow.holds Try.pinned (OpenSpec.ofChange phaseCopiesWrong)

/- THE SECOND FORM. 'bulk': how many values and letters a reading holds, each counted each time it is reached (what is shared counts as often as it is met; a slice's spare places count too). A statement '..UptoSaid' is the law's where the arguments, and the package variables that the reading takes, are together of bulk at most 1048576: NARROWER than '..Said'. Prove '..Said' where nothing that the law and all that it calls make is longer than what came in: it says more and counts as full. Else prove '..UptoSaid'. A law counts once. -/
mutual
def uptoBulk {H : Type} : DataW H → Nat
  | .lit (.string bytes) => bytes.length + 1
  | .lit _ => 1
  | .nil => 1
  | .ptr d => uptoBulk d + 1
  | .slice elems spare => uptoBulkAll elems + uptoBulkAll spare + 1
  | .agg parts => uptoBulkAll parts + 1
  | .iface _ d => uptoBulk d + 1
  | .map entries => uptoBulkEntries entries + 1
  | .held _ => 1
def uptoBulkAll {H : Type} : List (DataW H) → Nat
  | [] => 0
  | d :: r => uptoBulk d + uptoBulkAll r
def uptoBulkEntries {H : Type} : List (Lit × DataW H) → Nat
  | [] => 0
  | x :: r => uptoBulkEntry x + uptoBulkEntries r
def uptoBulkEntry {H : Type} : Lit × DataW H → Nat
  | (.string bytes, d) => bytes.length + uptoBulk d + 1
  | (_, d) => uptoBulk d + 1
 end
def uptoSmall : (H : Type) → List (DataW H) → Bool := fun _ ds => decide (uptoBulkAll ds ≤ 1048576)
def OpenSpec.upto (s : _root_.Go.ChangeSpec) : _root_.Go.OpenSpec := { _root_.Go.OpenSpec.ofChange s with cond := some uptoSmall }

/-- 'estraylaw22.PhaseOrder', WHERE WHAT IT READS IS OF BULK AT MOST 1048576: true; the input reads as it did. -/
def phaseOrderUptoRow : OpenClaim := { program := "ytldladoccjlojaa", sum := "0a412178f143d4ee9cf3a5117885c48c2a456e0874f78370c837cda7ef33e938", func := "estray/estraylaw22.PhaseOrder", spec := "phaseOrder", apart := false, narrowed := true }
def PhaseOrderUptoSaid : Prop := phaseOrderUptoRow.holds Try.pinned (OpenSpec.upto phaseOrderSpec)

/-- 'estraylaw22.PhaseBarriers', WHERE WHAT IT READS IS OF BULK AT MOST 1048576: true; the input reads as it did. -/
def phaseBarriersUptoRow : OpenClaim := { program := "ytldladoccjlojaa", sum := "0a412178f143d4ee9cf3a5117885c48c2a456e0874f78370c837cda7ef33e938", func := "estray/estraylaw22.PhaseBarriers", spec := "phaseBarriers", apart := false, narrowed := true }
def PhaseBarriersUptoSaid : Prop := phaseBarriersUptoRow.holds Try.pinned (OpenSpec.upto phaseBarriersSpec)

/-- 'estraylaw22.PhaseEnds', WHERE WHAT IT READS IS OF BULK AT MOST 1048576: true; the input reads as it did. -/
def phaseEndsUptoRow : OpenClaim := { program := "ytldladoccjlojaa", sum := "0a412178f143d4ee9cf3a5117885c48c2a456e0874f78370c837cda7ef33e938", func := "estray/estraylaw22.PhaseEnds", spec := "phaseEnds", apart := false, narrowed := true }
def PhaseEndsUptoSaid : Prop := phaseEndsUptoRow.holds Try.pinned (OpenSpec.upto phaseEndsSpec)

/-- 'estraylaw22.PhaseRefuses', WHERE WHAT IT READS IS OF BULK AT MOST 1048576: true; the input reads as it did. -/
def phaseRefusesUptoRow : OpenClaim := { program := "ytldladoccjlojaa", sum := "0a412178f143d4ee9cf3a5117885c48c2a456e0874f78370c837cda7ef33e938", func := "estray/estraylaw22.PhaseRefuses", spec := "phaseRefuses", apart := false, narrowed := true }
def PhaseRefusesUptoSaid : Prop := phaseRefusesUptoRow.holds Try.pinned (OpenSpec.upto phaseRefusesSpec)

/-- 'estraylaw22.PhasePlays', WHERE WHAT IT READS IS OF BULK AT MOST 1048576: true; the input reads as it did. -/
def phasePlaysUptoRow : OpenClaim := { program := "ytldladoccjlojaa", sum := "0a412178f143d4ee9cf3a5117885c48c2a456e0874f78370c837cda7ef33e938", func := "estray/estraylaw22.PhasePlays", spec := "phasePlays", apart := false, narrowed := true }
def PhasePlaysUptoSaid : Prop := phasePlaysUptoRow.holds Try.pinned (OpenSpec.upto phasePlaysSpec)

/-- 'estraylaw22.PhaseNil', WHERE WHAT IT READS IS OF BULK AT MOST 1048576: true; the input reads as it did. -/
def phaseNilUptoRow : OpenClaim := { program := "ytldladoccjlojaa", sum := "0a412178f143d4ee9cf3a5117885c48c2a456e0874f78370c837cda7ef33e938", func := "estray/estraylaw22.PhaseNil", spec := "phaseNil", apart := false, narrowed := true }
def PhaseNilUptoSaid : Prop := phaseNilUptoRow.holds Try.pinned (OpenSpec.upto phaseNilSpec)

/-- 'estraylaw22.PhaseCopies', WHERE WHAT IT READS IS OF BULK AT MOST 1048576: true; the input reads as it did. -/
def phaseCopiesUptoRow : OpenClaim := { program := "ytldladoccjlojaa", sum := "0a412178f143d4ee9cf3a5117885c48c2a456e0874f78370c837cda7ef33e938", func := "estray/estraylaw22.PhaseCopies", spec := "phaseCopies", apart := false, narrowed := true }
def PhaseCopiesUptoSaid : Prop := phaseCopiesUptoRow.holds Try.pinned (OpenSpec.upto phaseCopiesSpec)

end Rows
end Go.Proofs.Ytldladoccjlojaa
