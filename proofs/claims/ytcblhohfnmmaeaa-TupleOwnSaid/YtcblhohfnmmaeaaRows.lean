/-
  No cell of these rows narrows 'for every input' (looked for: loops, veiled, ifaces, maps, wideKeys, modest, calm, conditions, laid).
  DERIVED. THE GIVEN ROWS OF THIS SEAT. 6 by the template 'for every input the law returns true; each argument reads behind the call as it read before'; 0 by the template 'total and deterministic' (their statements: YtcblhohfnmmaeaaTotals.lean).
  GIVEN WITH THE SEED: the statements are not yours to turn. If you find one false, say at which input.
  Laid BY PROGRAM, IN A SANDBOX (cutbox-rows.mjs): the forced cells as the released guide's own fill.sh prints them over the translation aac71e6e8595babb… (all of the seat's roots in one cut). By AI agents, Wed Nov 11 2026. No macro, syntax, notation, axiom, sorry.
-/
import Derived.Test.YtcblhohfnmmaeaaChecked
import GoSem.Claim
import GoSem.ClaimJoined
import GoSem.ClaimMapViews
import Derived.JoinedTies
import Derived.KernelRfl
namespace Go.Proofs.Ytcblhohfnmmaeaa
/- THE CELL 'sum', in the pinned program and in every row, IS THE sha256 OF THE DUMP (.gsa) THAT YtcblhohfnmmaeaaProg.lean LOADS. Nothing in Lean hashes anything: it is a label: what it is worth is what the hold of that sum in a sandbox is worth. -/
noncomputable def Try.pinned : Pinned := { name := "ytcblhohfnmmaeaa", sum := "aac71e6e8595babbb0320d7631e898913e6aa7b52fdc0b804331f86abcaf6e0a", checked := Try.checked }
namespace Rows
def none {H : Type} : Left H := { results := [], args := [] }

/-- 'vestrylaw04.TupleSorts': WHATEVER THE INPUT: true; the input reads as it did. -/
def tupleSortsSpec : ChangeSpec := { name := "tupleSorts", fn := fun _ => fun
  | [d1, d2] => { results := [.lit (.bool true)], args := [d1, d2] }
  | _ => none }
def tupleSortsRow : OpenClaim := { program := "ytcblhohfnmmaeaa", sum := "aac71e6e8595babbb0320d7631e898913e6aa7b52fdc0b804331f86abcaf6e0a", func := "vestry/vestrylaw04.TupleSorts", spec := "tupleSorts", apart := false }
def TupleSortsSaid : Prop := tupleSortsRow.holds Try.pinned (OpenSpec.ofChange tupleSortsSpec)

/-- ITS FALSE NEIGHBOUR: 'it returns false'. Refute it at one input. -/
def tupleSortsWrong : ChangeSpec := { name := "tupleSorts", fn := fun _ => fun
  | [d1, d2] => { results := [.lit (.bool false)], args := [d1, d2] }
  | _ => none }
def TupleSortsWrongFalsely : Prop := tupleSortsRow.holds Try.pinned (OpenSpec.ofChange tupleSortsWrong)

/-- 'vestrylaw04.TupleCovers': WHATEVER THE INPUT: true; the input reads as it did. -/
def tupleCoversSpec : ChangeSpec := { name := "tupleCovers", fn := fun _ => fun
  | [d1, d2, d3] => { results := [.lit (.bool true)], args := [d1, d2, d3] }
  | _ => none }
def tupleCoversRow : OpenClaim := { program := "ytcblhohfnmmaeaa", sum := "aac71e6e8595babbb0320d7631e898913e6aa7b52fdc0b804331f86abcaf6e0a", func := "vestry/vestrylaw04.TupleCovers", spec := "tupleCovers", apart := false }
def TupleCoversSaid : Prop := tupleCoversRow.holds Try.pinned (OpenSpec.ofChange tupleCoversSpec)

/-- ITS FALSE NEIGHBOUR: 'it returns false'. Refute it at one input. -/
def tupleCoversWrong : ChangeSpec := { name := "tupleCovers", fn := fun _ => fun
  | [d1, d2, d3] => { results := [.lit (.bool false)], args := [d1, d2, d3] }
  | _ => none }
def TupleCoversWrongFalsely : Prop := tupleCoversRow.holds Try.pinned (OpenSpec.ofChange tupleCoversWrong)

/-- 'vestrylaw04.TupleTurns': WHATEVER THE INPUT: true; the input reads as it did. -/
def tupleTurnsSpec : ChangeSpec := { name := "tupleTurns", fn := fun _ => fun
  | [d1, d2, d3] => { results := [.lit (.bool true)], args := [d1, d2, d3] }
  | _ => none }
def tupleTurnsRow : OpenClaim := { program := "ytcblhohfnmmaeaa", sum := "aac71e6e8595babbb0320d7631e898913e6aa7b52fdc0b804331f86abcaf6e0a", func := "vestry/vestrylaw04.TupleTurns", spec := "tupleTurns", apart := false }
def TupleTurnsSaid : Prop := tupleTurnsRow.holds Try.pinned (OpenSpec.ofChange tupleTurnsSpec)

/-- ITS FALSE NEIGHBOUR: 'it returns false'. Refute it at one input. -/
def tupleTurnsWrong : ChangeSpec := { name := "tupleTurns", fn := fun _ => fun
  | [d1, d2, d3] => { results := [.lit (.bool false)], args := [d1, d2, d3] }
  | _ => none }
def TupleTurnsWrongFalsely : Prop := tupleTurnsRow.holds Try.pinned (OpenSpec.ofChange tupleTurnsWrong)

/-- 'vestrylaw04.TupleHeads': WHATEVER THE INPUT: true; the input reads as it did. -/
def tupleHeadsSpec : ChangeSpec := { name := "tupleHeads", fn := fun _ => fun
  | [d1, d2, d3] => { results := [.lit (.bool true)], args := [d1, d2, d3] }
  | _ => none }
def tupleHeadsRow : OpenClaim := { program := "ytcblhohfnmmaeaa", sum := "aac71e6e8595babbb0320d7631e898913e6aa7b52fdc0b804331f86abcaf6e0a", func := "vestry/vestrylaw04.TupleHeads", spec := "tupleHeads", apart := false }
def TupleHeadsSaid : Prop := tupleHeadsRow.holds Try.pinned (OpenSpec.ofChange tupleHeadsSpec)

/-- ITS FALSE NEIGHBOUR: 'it returns false'. Refute it at one input. -/
def tupleHeadsWrong : ChangeSpec := { name := "tupleHeads", fn := fun _ => fun
  | [d1, d2, d3] => { results := [.lit (.bool false)], args := [d1, d2, d3] }
  | _ => none }
def TupleHeadsWrongFalsely : Prop := tupleHeadsRow.holds Try.pinned (OpenSpec.ofChange tupleHeadsWrong)

/-- 'vestrylaw04.TupleOwn': WHATEVER THE INPUT: true; the input reads as it did. -/
def tupleOwnSpec : ChangeSpec := { name := "tupleOwn", fn := fun _ => fun
  | [d1, d2] => { results := [.lit (.bool true)], args := [d1, d2] }
  | _ => none }
def tupleOwnRow : OpenClaim := { program := "ytcblhohfnmmaeaa", sum := "aac71e6e8595babbb0320d7631e898913e6aa7b52fdc0b804331f86abcaf6e0a", func := "vestry/vestrylaw04.TupleOwn", spec := "tupleOwn", apart := false }
def TupleOwnSaid : Prop := tupleOwnRow.holds Try.pinned (OpenSpec.ofChange tupleOwnSpec)

/-- ITS FALSE NEIGHBOUR: 'it returns false'. Refute it at one input. -/
def tupleOwnWrong : ChangeSpec := { name := "tupleOwn", fn := fun _ => fun
  | [d1, d2] => { results := [.lit (.bool false)], args := [d1, d2] }
  | _ => none }
def TupleOwnWrongFalsely : Prop := tupleOwnRow.holds Try.pinned (OpenSpec.ofChange tupleOwnWrong)

/-- 'vestrylaw04.TupleAll': WHATEVER THE INPUT: true; the input reads as it did. -/
def tupleAllSpec : ChangeSpec := { name := "tupleAll", fn := fun _ => fun
  | [d1, d2, d3] => { results := [.lit (.bool true)], args := [d1, d2, d3] }
  | _ => none }
def tupleAllRow : OpenClaim := { program := "ytcblhohfnmmaeaa", sum := "aac71e6e8595babbb0320d7631e898913e6aa7b52fdc0b804331f86abcaf6e0a", func := "vestry/vestrylaw04.TupleAll", spec := "tupleAll", apart := false }
def TupleAllSaid : Prop := tupleAllRow.holds Try.pinned (OpenSpec.ofChange tupleAllSpec)

/-- ITS FALSE NEIGHBOUR: 'it returns false'. Refute it at one input. -/
def tupleAllWrong : ChangeSpec := { name := "tupleAll", fn := fun _ => fun
  | [d1, d2, d3] => { results := [.lit (.bool false)], args := [d1, d2, d3] }
  | _ => none }
def TupleAllWrongFalsely : Prop := tupleAllRow.holds Try.pinned (OpenSpec.ofChange tupleAllWrong)

/- THE SECOND FORM. 'bulk': how many values and letters a reading holds, each counted each time it is reached (what is shared counts as often as it is met; a slice's spare places count too). A statement '..UptoSaid' is the law's where the arguments, and the package variables that the reading takes, are together of bulk at most 1048576: NARROWER than '..Said'. Prove '..Said' where nothing that the law and all that it calls make is longer than what came in: it says more and counts as full. Else prove '..UptoSaid'. A law counts once. -/
mutual
def uptoBulk {H : Type} : DataW H → Nat
  | .lit (.string bytes) => bytes.length + 1
  | .lit _ => 1
  | .nil => 1
  | .ptr d => uptoBulk d + 1
  | .slice elems spare => uptoBulkAll elems + uptoBulkAll spare + 1
  | .agg parts => uptoBulkAll parts + 1
  | .iface _ d => uptoBulk d + 1
  | .map entries => uptoBulkEntries entries + 1
  | .held _ => 1
def uptoBulkAll {H : Type} : List (DataW H) → Nat
  | [] => 0
  | d :: r => uptoBulk d + uptoBulkAll r
def uptoBulkEntries {H : Type} : List (Lit × DataW H) → Nat
  | [] => 0
  | x :: r => uptoBulkEntry x + uptoBulkEntries r
def uptoBulkEntry {H : Type} : Lit × DataW H → Nat
  | (.string bytes, d) => bytes.length + uptoBulk d + 1
  | (_, d) => uptoBulk d + 1
 end
def uptoSmall : (H : Type) → List (DataW H) → Bool := fun _ ds => decide (uptoBulkAll ds ≤ 1048576)
def OpenSpec.upto (s : _root_.Go.ChangeSpec) : _root_.Go.OpenSpec := { _root_.Go.OpenSpec.ofChange s with cond := some uptoSmall }

/-- 'vestrylaw04.TupleSorts', WHERE WHAT IT READS IS OF BULK AT MOST 1048576: true; the input reads as it did. -/
def tupleSortsUptoRow : OpenClaim := { program := "ytcblhohfnmmaeaa", sum := "aac71e6e8595babbb0320d7631e898913e6aa7b52fdc0b804331f86abcaf6e0a", func := "vestry/vestrylaw04.TupleSorts", spec := "tupleSorts", apart := false, narrowed := true }
def TupleSortsUptoSaid : Prop := tupleSortsUptoRow.holds Try.pinned (OpenSpec.upto tupleSortsSpec)

/-- 'vestrylaw04.TupleCovers', WHERE WHAT IT READS IS OF BULK AT MOST 1048576: true; the input reads as it did. -/
def tupleCoversUptoRow : OpenClaim := { program := "ytcblhohfnmmaeaa", sum := "aac71e6e8595babbb0320d7631e898913e6aa7b52fdc0b804331f86abcaf6e0a", func := "vestry/vestrylaw04.TupleCovers", spec := "tupleCovers", apart := false, narrowed := true }
def TupleCoversUptoSaid : Prop := tupleCoversUptoRow.holds Try.pinned (OpenSpec.upto tupleCoversSpec)

/-- 'vestrylaw04.TupleTurns', WHERE WHAT IT READS IS OF BULK AT MOST 1048576: true; the input reads as it did. -/
def tupleTurnsUptoRow : OpenClaim := { program := "ytcblhohfnmmaeaa", sum := "aac71e6e8595babbb0320d7631e898913e6aa7b52fdc0b804331f86abcaf6e0a", func := "vestry/vestrylaw04.TupleTurns", spec := "tupleTurns", apart := false, narrowed := true }
def TupleTurnsUptoSaid : Prop := tupleTurnsUptoRow.holds Try.pinned (OpenSpec.upto tupleTurnsSpec)

/-- 'vestrylaw04.TupleHeads', WHERE WHAT IT READS IS OF BULK AT MOST 1048576: true; the input reads as it did. -/
def tupleHeadsUptoRow : OpenClaim := { program := "ytcblhohfnmmaeaa", sum := "aac71e6e8595babbb0320d7631e898913e6aa7b52fdc0b804331f86abcaf6e0a", func := "vestry/vestrylaw04.TupleHeads", spec := "tupleHeads", apart := false, narrowed := true }
def TupleHeadsUptoSaid : Prop := tupleHeadsUptoRow.holds Try.pinned (OpenSpec.upto tupleHeadsSpec)

/-- 'vestrylaw04.TupleOwn', WHERE WHAT IT READS IS OF BULK AT MOST 1048576: true; the input reads as it did. -/
def tupleOwnUptoRow : OpenClaim := { program := "ytcblhohfnmmaeaa", sum := "aac71e6e8595babbb0320d7631e898913e6aa7b52fdc0b804331f86abcaf6e0a", func := "vestry/vestrylaw04.TupleOwn", spec := "tupleOwn", apart := false, narrowed := true }
def TupleOwnUptoSaid : Prop := tupleOwnUptoRow.holds Try.pinned (OpenSpec.upto tupleOwnSpec)

/-- 'vestrylaw04.TupleAll', WHERE WHAT IT READS IS OF BULK AT MOST 1048576: true; the input reads as it did. -/
def tupleAllUptoRow : OpenClaim := { program := "ytcblhohfnmmaeaa", sum := "aac71e6e8595babbb0320d7631e898913e6aa7b52fdc0b804331f86abcaf6e0a", func := "vestry/vestrylaw04.TupleAll", spec := "tupleAll", apart := false, narrowed := true }
def TupleAllUptoSaid : Prop := tupleAllUptoRow.holds Try.pinned (OpenSpec.upto tupleAllSpec)

end Rows
end Go.Proofs.Ytcblhohfnmmaeaa
