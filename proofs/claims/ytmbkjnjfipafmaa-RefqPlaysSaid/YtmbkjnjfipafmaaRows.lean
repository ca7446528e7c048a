/-
  No cell of these rows narrows 'for every input' (looked for: loops, veiled, ifaces, maps, wideKeys, modest, calm, conditions, laid).
  DERIVED. THE GIVEN ROWS OF THIS SEAT. 7 by the template 'for every input the law returns true; each argument reads behind the call as it read before'; 0 by the template 'total and deterministic' (their statements: YtmbkjnjfipafmaaTotals.lean).
  GIVEN WITH THE SEED: the statements are not yours to turn. If you find one false, say at which input.
  Laid BY PROGRAM, IN A SANDBOX (cutbox-rows.mjs): the forced cells as the released guide's own fill.sh prints them over the translation b0c28bece6c1308a… (all of the seat's roots in one cut). By AI agents, Wed Nov 11 2026. No macro, syntax, notation, axiom, sorry.
-/
import Derived.Test.YtmbkjnjfipafmaaChecked
import GoSem.Claim
import GoSem.ClaimJoined
import GoSem.ClaimMapViews
import Derived.JoinedTies
import Derived.KernelRfl
namespace Go.Proofs.Ytmbkjnjfipafmaa
/- THE CELL 'sum', in the pinned program and in every row, IS THE sha256 OF THE DUMP (.gsa) THAT YtmbkjnjfipafmaaProg.lean LOADS. Nothing in Lean hashes anything: it is a label: what it is worth is what the hold of that sum in a sandbox is worth. -/
noncomputable def Try.pinned : Pinned := { name := "ytmbkjnjfipafmaa", sum := "b0c28bece6c1308a009b64c0749e33542bff2aaebfea18e39feccb5b4c745b6c", checked := Try.checked }
namespace Rows
def none {H : Type} : Left H := { results := [], args := [] }

/-- 'estraylaw30.RefqOnce': WHATEVER THE INPUT: true; the input reads as it did. -/
def refqOnceSpec : ChangeSpec := { name := "refqOnce", fn := fun _ => fun
  | [d1, d2, d3] => { results := [.lit (.bool true)], args := [d1, d2, d3] }
  | _ => none }
def refqOnceRow : OpenClaim := { program := "ytmbkjnjfipafmaa", sum := "b0c28bece6c1308a009b64c0749e33542bff2aaebfea18e39feccb5b4c745b6c", func := "estray/estraylaw30.RefqOnce", spec := "refqOnce", unfollowed := true, recurses := true, plainKeys := false, apart := false }
def RefqOnceSaid : Prop := refqOnceRow.holds Try.pinned (OpenSpec.ofChange refqOnceSpec)

/-- ITS FALSE NEIGHBOUR: 'it returns false'. Refute it at one input. -/
def refqOnceWrong : ChangeSpec := { name := "refqOnce", fn := fun _ => fun
  | [d1, d2, d3] => { results := [.lit (.bool false)], args := [d1, d2, d3] }
  | _ => none }
def RefqOnceWrongFalsely : Prop := refqOnceRow.holds Try.pinned (OpenSpec.ofChange refqOnceWrong)

/-- 'estraylaw30.RefqKnown': WHATEVER THE INPUT: true; the input reads as it did. -/
def refqKnownSpec : ChangeSpec := { name := "refqKnown", fn := fun _ => fun
  | [d1, d2, d3] => { results := [.lit (.bool true)], args := [d1, d2, d3] }
  | _ => none }
def refqKnownRow : OpenClaim := { program := "ytmbkjnjfipafmaa", sum := "b0c28bece6c1308a009b64c0749e33542bff2aaebfea18e39feccb5b4c745b6c", func := "estray/estraylaw30.RefqKnown", spec := "refqKnown", unfollowed := true, recurses := true, plainKeys := false, apart := false }
def RefqKnownSaid : Prop := refqKnownRow.holds Try.pinned (OpenSpec.ofChange refqKnownSpec)

/-- ITS FALSE NEIGHBOUR: 'it returns false'. Refute it at one input. -/
def refqKnownWrong : ChangeSpec := { name := "refqKnown", fn := fun _ => fun
  | [d1, d2, d3] => { results := [.lit (.bool false)], args := [d1, d2, d3] }
  | _ => none }
def RefqKnownWrongFalsely : Prop := refqKnownRow.holds Try.pinned (OpenSpec.ofChange refqKnownWrong)

/-- 'estraylaw30.RefqRoom': WHATEVER THE INPUT: true; the input reads as it did. -/
def refqRoomSpec : ChangeSpec := { name := "refqRoom", fn := fun _ => fun
  | [d1, d2, d3] => { results := [.lit (.bool true)], args := [d1, d2, d3] }
  | _ => none }
def refqRoomRow : OpenClaim := { program := "ytmbkjnjfipafmaa", sum := "b0c28bece6c1308a009b64c0749e33542bff2aaebfea18e39feccb5b4c745b6c", func := "estray/estraylaw30.RefqRoom", spec := "refqRoom", unfollowed := true, recurses := true, plainKeys := false, apart := false }
def RefqRoomSaid : Prop := refqRoomRow.holds Try.pinned (OpenSpec.ofChange refqRoomSpec)

/-- ITS FALSE NEIGHBOUR: 'it returns false'. Refute it at one input. -/
def refqRoomWrong : ChangeSpec := { name := "refqRoom", fn := fun _ => fun
  | [d1, d2, d3] => { results := [.lit (.bool false)], args := [d1, d2, d3] }
  | _ => none }
def RefqRoomWrongFalsely : Prop := refqRoomRow.holds Try.pinned (OpenSpec.ofChange refqRoomWrong)

/-- 'estraylaw30.RefqRefuses': WHATEVER THE INPUT: true; the input reads as it did. -/
def refqRefusesSpec : ChangeSpec := { name := "refqRefuses", fn := fun _ => fun
  | [d1, d2, d3, d4] => { results := [.lit (.bool true)], args := [d1, d2, d3, d4] }
  | _ => none }
def refqRefusesRow : OpenClaim := { program := "ytmbkjnjfipafmaa", sum := "b0c28bece6c1308a009b64c0749e33542bff2aaebfea18e39feccb5b4c745b6c", func := "estray/estraylaw30.RefqRefuses", spec := "refqRefuses", unfollowed := true, recurses := true, plainKeys := false, apart := false }
def RefqRefusesSaid : Prop := refqRefusesRow.holds Try.pinned (OpenSpec.ofChange refqRefusesSpec)

/-- ITS FALSE NEIGHBOUR: 'it returns false'. Refute it at one input. -/
def refqRefusesWrong : ChangeSpec := { name := "refqRefuses", fn := fun _ => fun
  | [d1, d2, d3, d4] => { results := [.lit (.bool false)], args := [d1, d2, d3, d4] }
  | _ => none }
def RefqRefusesWrongFalsely : Prop := refqRefusesRow.holds Try.pinned (OpenSpec.ofChange refqRefusesWrong)

/-- 'estraylaw30.RefqPlays': WHATEVER THE INPUT: true; the input reads as it did. -/
def refqPlaysSpec : ChangeSpec := { name := "refqPlays", fn := fun _ => fun
  | [d1, d2, d3] => { results := [.lit (.bool true)], args := [d1, d2, d3] }
  | _ => none }
def refqPlaysRow : OpenClaim := { program := "ytmbkjnjfipafmaa", sum := "b0c28bece6c1308a009b64c0749e33542bff2aaebfea18e39feccb5b4c745b6c", func := "estray/estraylaw30.RefqPlays", spec := "refqPlays", inPlace := ["maps.clone"], unfollowed := true, recurses := true, plainKeys := false, apart := false }
def RefqPlaysSaid : Prop := refqPlaysRow.holds Try.pinned (OpenSpec.ofChange refqPlaysSpec)

/-- ITS FALSE NEIGHBOUR: 'it returns false'. Refute it at one input. -/
def refqPlaysWrong : ChangeSpec := { name := "refqPlays", fn := fun _ => fun
  | [d1, d2, d3] => { results := [.lit (.bool false)], args := [d1, d2, d3] }
  | _ => none }
def RefqPlaysWrongFalsely : Prop := refqPlaysRow.holds Try.pinned (OpenSpec.ofChange refqPlaysWrong)

/-- 'estraylaw30.RefqNil': WHATEVER THE INPUT: true; the input reads as it did. -/
def refqNilSpec : ChangeSpec := { name := "refqNil", fn := fun _ => fun
  | [d] => { results := [.lit (.bool true)], args := [d] }
  | _ => none }
def refqNilRow : OpenClaim := { program := "ytmbkjnjfipafmaa", sum := "b0c28bece6c1308a009b64c0749e33542bff2aaebfea18e39feccb5b4c745b6c", func := "estray/estraylaw30.RefqNil", spec := "refqNil", inPlace := ["maps.clone"], unfollowed := true, recurses := true, plainKeys := false, apart := false }
def RefqNilSaid : Prop := refqNilRow.holds Try.pinned (OpenSpec.ofChange refqNilSpec)

/-- ITS FALSE NEIGHBOUR: 'it returns false'. Refute it at one input. -/
def refqNilWrong : ChangeSpec := { name := "refqNil", fn := fun _ => fun
  | [d] => { results := [.lit (.bool false)], args := [d] }
  | _ => none }
def RefqNilWrongFalsely : Prop := refqNilRow.holds Try.pinned (OpenSpec.ofChange refqNilWrong)

/-- 'estraylaw30.RefqCopies': WHATEVER THE INPUT: true; the input reads as it did. -/
def refqCopiesSpec : ChangeSpec := { name := "refqCopies", fn := fun _ => fun
  | [d1, d2, d3, d4] => { results := [.lit (.bool true)], args := [d1, d2, d3, d4] }
  | _ => none }
def refqCopiesRow : OpenClaim := { program := "ytmbkjnjfipafmaa", sum := "b0c28bece6c1308a009b64c0749e33542bff2aaebfea18e39feccb5b4c745b6c", func := "estray/estraylaw30.RefqCopies", spec := "refqCopies", inPlace := ["maps.clone"], unfollowed := true, recurses := true, plainKeys := false, apart := false }
def RefqCopiesSaid : Prop := refqCopiesRow.holds Try.pinned (OpenSpec.ofChange refqCopiesSpec)

/-- ITS FALSE NEIGHBOUR: 'it returns false'. Refute it at one input. -/
def refqCopiesWrong : ChangeSpec := { name := "refqCopies", fn := fun _ => fun
  | [d1, d2, d3, d4] => { results := [.lit (.bool false)], args := [d1, d2, d3, d4] }
  | _ => none }
def RefqCopiesWrongFalsely : Prop := refqCopiesRow.holds Try.pinned (OpenSpec.ofChange refqCopiesWrong)

/- THE SECOND FORM. 'bulk': how many values and letters a reading holds, each counted each time it is reached (what is shared counts as often as it is met; a slice's spare places count too). A statement '..UptoSaid' is the law's where the arguments, and the package variables that the reading takes, are together of bulk at most 1048576: NARROWER than '..Said'. Prove '..Said' where nothing that the law and all that it calls make is longer than what came in: it says more and counts as full. Else prove '..UptoSaid'. A law counts once. -/
mutual
def uptoBulk {H : Type} : DataW H → Nat
  | .lit (.string bytes) => bytes.length + 1
  | .lit _ => 1
  | .nil => 1
  | .ptr d => uptoBulk d + 1
  | .slice elems spare => uptoBulkAll elems + uptoBulkAll spare + 1
  | .agg parts => uptoBulkAll parts + 1
  | .iface _ d => uptoBulk d + 1
  | .map entries => uptoBulkEntries entries + 1
  | .held _ => 1
def uptoBulkAll {H : Type} : List (DataW H) → Nat
  | [] => 0
  | d :: r => uptoBulk d + uptoBulkAll r
def uptoBulkEntries {H : Type} : List (Lit × DataW H) → Nat
  | [] => 0
  | x :: r => uptoBulkEntry x + uptoBulkEntries r
def uptoBulkEntry {H : Type} : Lit × DataW H → Nat
  | (.string bytes, d) => bytes.length + uptoBulk d + 1
  | (_, d) => uptoBulk d + 1
 end
def uptoSmall : (H : Type) → List (DataW H) → Bool := fun _ ds => decide (uptoBulkAll ds ≤ 1048576)
def OpenSpec.upto (s : _root_.Go.ChangeSpec) : _root_.Go.OpenSpec := { _root_.Go.OpenSpec.ofChange s with cond := some uptoSmall }

/-- 'estraylaw30.RefqOnce', WHERE WHAT IT READS IS OF BULK AT MOST 1048576: true; the input reads as it did. -/
def refqOnceUptoRow : OpenClaim := { program := "ytmbkjnjfipafmaa", sum := "b0c28bece6c1308a009b64c0749e33542bff2aaebfea18e39feccb5b4c745b6c", func := "estray/estraylaw30.RefqOnce", spec := "refqOnce", unfollowed := true, recurses := true, plainKeys := false, apart := false, narrowed := true }
def RefqOnceUptoSaid : Prop := refqOnceUptoRow.holds Try.pinned (OpenSpec.upto refqOnceSpec)

/-- 'estraylaw30.RefqKnown', WHERE WHAT IT READS IS OF BULK AT MOST 1048576: true; the input reads as it did. -/
def refqKnownUptoRow : OpenClaim := { program := "ytmbkjnjfipafmaa", sum := "b0c28bece6c1308a009b64c0749e33542bff2aaebfea18e39feccb5b4c745b6c", func := "estray/estraylaw30.RefqKnown", spec := "refqKnown", unfollowed := true, recurses := true, plainKeys := false, apart := false, narrowed := true }
def RefqKnownUptoSaid : Prop := refqKnownUptoRow.holds Try.pinned (OpenSpec.upto refqKnownSpec)

/-- 'estraylaw30.RefqRoom', WHERE WHAT IT READS IS OF BULK AT MOST 1048576: true; the input reads as it did. -/
def refqRoomUptoRow : OpenClaim := { program := "ytmbkjnjfipafmaa", sum := "b0c28bece6c1308a009b64c0749e33542bff2aaebfea18e39feccb5b4c745b6c", func := "estray/estraylaw30.RefqRoom", spec := "refqRoom", unfollowed := true, recurses := true, plainKeys := false, apart := false, narrowed := true }
def RefqRoomUptoSaid : Prop := refqRoomUptoRow.holds Try.pinned (OpenSpec.upto refqRoomSpec)

/-- 'estraylaw30.RefqRefuses', WHERE WHAT IT READS IS OF BULK AT MOST 1048576: true; the input reads as it did. -/
def refqRefusesUptoRow : OpenClaim := { program := "ytmbkjnjfipafmaa", sum := "b0c28bece6c1308a009b64c0749e33542bff2aaebfea18e39feccb5b4c745b6c", func := "estray/estraylaw30.RefqRefuses", spec := "refqRefuses", unfollowed := true, recurses := true, plainKeys := false, apart := false, narrowed := true }
def RefqRefusesUptoSaid : Prop := refqRefusesUptoRow.holds Try.pinned (OpenSpec.upto refqRefusesSpec)

/-- 'estraylaw30.RefqPlays', WHERE WHAT IT READS IS OF BULK AT MOST 1048576: true; the input reads as it did. -/
def refqPlaysUptoRow : OpenClaim := { program := "ytmbkjnjfipafmaa", sum := "b0c28bece6c1308a009b64c0749e33542bff2aaebfea18e39feccb5b4c745b6c", func := "estray/estraylaw30.RefqPlays", spec := "refqPlays", inPlace := ["maps.clone"], unfollowed := true, recurses := true, plainKeys := false, apart := false, narrowed := true }
def RefqPlaysUptoSaid : Prop := refqPlaysUptoRow.holds Try.pinned (OpenSpec.upto refqPlaysSpec)

/-- 'estraylaw30.RefqNil', WHERE WHAT IT READS IS OF BULK AT MOST 1048576: true; the input reads as it did. -/
def refqNilUptoRow : OpenClaim := { program := "ytmbkjnjfipafmaa", sum := "b0c28bece6c1308a009b64c0749e33542bff2aaebfea18e39feccb5b4c745b6c", func := "estray/estraylaw30.RefqNil", spec := "refqNil", inPlace := ["maps.clone"], unfollowed := true, recurses := true, plainKeys := false, apart := false, narrowed := true }
def RefqNilUptoSaid : Prop := refqNilUptoRow.holds Try.pinned (OpenSpec.upto refqNilSpec)

/-- 'estraylaw30.RefqCopies', WHERE WHAT IT READS IS OF BULK AT MOST 1048576: true; the input reads as it did. -/
def refqCopiesUptoRow : OpenClaim := { program := "ytmbkjnjfipafmaa", sum := "b0c28bece6c1308a009b64c0749e33542bff2aaebfea18e39feccb5b4c745b6c", func := "estray/estraylaw30.RefqCopies", spec := "refqCopies", inPlace := ["maps.clone"], unfollowed := true, recurses := true, plainKeys := false, apart := false, narrowed := true }
def RefqCopiesUptoSaid : Prop := refqCopiesUptoRow.holds Try.pinned (OpenSpec.upto refqCopiesSpec)

end Rows
end Go.Proofs.Ytmbkjnjfipafmaa
