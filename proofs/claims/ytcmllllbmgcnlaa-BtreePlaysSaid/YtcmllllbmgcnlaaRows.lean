/-
  No cell of these rows narrows 'for every input' (looked for: loops, veiled, ifaces, maps, wideKeys, modest, calm, conditions, laid).
  DERIVED. THE GIVEN ROWS OF THIS SEAT. 13 by the template 'for every input the law returns true; each argument reads behind the call as it read before'; 0 by the template 'total and deterministic' (their statements: YtcmllllbmgcnlaaTotals.lean).
  GIVEN WITH THE SEED: the statements are not yours to turn. If you find one false, say at which input.
  Laid BY PROGRAM, IN A SANDBOX (cutbox-rows.mjs): the forced cells as the released guide's own fill.sh prints them over the translation 18c307e159f45a11… (all of the seat's roots in one cut). By AI agents, Wed Nov 11 2026. No macro, syntax, notation, axiom, sorry.
-/
import Derived.Test.YtcmllllbmgcnlaaChecked
import GoSem.Claim
import GoSem.ClaimJoined
import GoSem.ClaimMapViews
import Derived.JoinedTies
import Derived.KernelRfl
namespace Go.Proofs.Ytcmllllbmgcnlaa
/- THE CELL 'sum', in the pinned program and in every row, IS THE sha256 OF THE DUMP (.gsa) THAT YtcmllllbmgcnlaaProg.lean LOADS. Nothing in Lean hashes anything: it is a label: what it is worth is what the hold of that sum in a sandbox is worth. -/
noncomputable def Try.pinned : Pinned := { name := "ytcmllllbmgcnlaa", sum := "18c307e159f45a11bfb89f96c4d9737f7e283ba9f55cb4714aac9a4d4e53526d", checked := Try.checked }
namespace Rows
def none {H : Type} : Left H := { results := [], args := [] }

/-- 'vestrylaw05.BtreeOne': WHATEVER THE INPUT: true; the input reads as it did. -/
def btreeOneSpec : ChangeSpec := { name := "btreeOne", fn := fun _ => fun
  | [d1, d2, d3] => { results := [.lit (.bool true)], args := [d1, d2, d3] }
  | _ => none }
def btreeOneRow : OpenClaim := { program := "ytcmllllbmgcnlaa", sum := "18c307e159f45a11bfb89f96c4d9737f7e283ba9f55cb4714aac9a4d4e53526d", func := "vestry/vestrylaw05.BtreeOne", spec := "btreeOne", inPlace := ["slices.overlaps[[]int]", "slices.overlaps[*vestry/btree.node]"], unfollowed := true, recurses := true, apart := false }
def BtreeOneSaid : Prop := btreeOneRow.holds Try.pinned (OpenSpec.ofChange btreeOneSpec)

/-- ITS FALSE NEIGHBOUR: 'it returns false'. Refute it at one input. -/
def btreeOneWrong : ChangeSpec := { name := "btreeOne", fn := fun _ => fun
  | [d1, d2, d3] => { results := [.lit (.bool false)], args := [d1, d2, d3] }
  | _ => none }
def BtreeOneWrongFalsely : Prop := btreeOneRow.holds Try.pinned (OpenSpec.ofChange btreeOneWrong)

/-- 'vestrylaw05.BtreeOrders': WHATEVER THE INPUT: true; the input reads as it did. -/
def btreeOrdersSpec : ChangeSpec := { name := "btreeOrders", fn := fun _ => fun
  | [d1, d2, d3] => { results := [.lit (.bool true)], args := [d1, d2, d3] }
  | _ => none }
def btreeOrdersRow : OpenClaim := { program := "ytcmllllbmgcnlaa", sum := "18c307e159f45a11bfb89f96c4d9737f7e283ba9f55cb4714aac9a4d4e53526d", func := "vestry/vestrylaw05.BtreeOrders", spec := "btreeOrders", inPlace := ["slices.overlaps[[]int]", "slices.overlaps[*vestry/btree.node]"], unfollowed := true, recurses := true, apart := false }
def BtreeOrdersSaid : Prop := btreeOrdersRow.holds Try.pinned (OpenSpec.ofChange btreeOrdersSpec)

/-- ITS FALSE NEIGHBOUR: 'it returns false'. Refute it at one input. -/
def btreeOrdersWrong : ChangeSpec := { name := "btreeOrders", fn := fun _ => fun
  | [d1, d2, d3] => { results := [.lit (.bool false)], args := [d1, d2, d3] }
  | _ => none }
def BtreeOrdersWrongFalsely : Prop := btreeOrdersRow.holds Try.pinned (OpenSpec.ofChange btreeOrdersWrong)

/-- 'vestrylaw05.BtreeWalks': WHATEVER THE INPUT: true; the input reads as it did. -/
def btreeWalksSpec : ChangeSpec := { name := "btreeWalks", fn := fun _ => fun
  | [d1, d2, d3] => { results := [.lit (.bool true)], args := [d1, d2, d3] }
  | _ => none }
def btreeWalksRow : OpenClaim := { program := "ytcmllllbmgcnlaa", sum := "18c307e159f45a11bfb89f96c4d9737f7e283ba9f55cb4714aac9a4d4e53526d", func := "vestry/vestrylaw05.BtreeWalks", spec := "btreeWalks", inPlace := ["slices.overlaps[[]int]", "slices.overlaps[*vestry/btree.node]"], unfollowed := true, recurses := true, apart := false }
def BtreeWalksSaid : Prop := btreeWalksRow.holds Try.pinned (OpenSpec.ofChange btreeWalksSpec)

/-- ITS FALSE NEIGHBOUR: 'it returns false'. Refute it at one input. -/
def btreeWalksWrong : ChangeSpec := { name := "btreeWalks", fn := fun _ => fun
  | [d1, d2, d3] => { results := [.lit (.bool false)], args := [d1, d2, d3] }
  | _ => none }
def BtreeWalksWrongFalsely : Prop := btreeWalksRow.holds Try.pinned (OpenSpec.ofChange btreeWalksWrong)

/-- 'vestrylaw05.BtreeOwn': WHATEVER THE INPUT: true; the input reads as it did. -/
def btreeOwnSpec : ChangeSpec := { name := "btreeOwn", fn := fun _ => fun
  | [d1, d2] => { results := [.lit (.bool true)], args := [d1, d2] }
  | _ => none }
def btreeOwnRow : OpenClaim := { program := "ytcmllllbmgcnlaa", sum := "18c307e159f45a11bfb89f96c4d9737f7e283ba9f55cb4714aac9a4d4e53526d", func := "vestry/vestrylaw05.BtreeOwn", spec := "btreeOwn", inPlace := ["slices.overlaps[[]int]", "slices.overlaps[*vestry/btree.node]"], unfollowed := true, recurses := true, apart := false }
def BtreeOwnSaid : Prop := btreeOwnRow.holds Try.pinned (OpenSpec.ofChange btreeOwnSpec)

/-- ITS FALSE NEIGHBOUR: 'it returns false'. Refute it at one input. -/
def btreeOwnWrong : ChangeSpec := { name := "btreeOwn", fn := fun _ => fun
  | [d1, d2] => { results := [.lit (.bool false)], args := [d1, d2] }
  | _ => none }
def BtreeOwnWrongFalsely : Prop := btreeOwnRow.holds Try.pinned (OpenSpec.ofChange btreeOwnWrong)

/-- 'vestrylaw05.BtreeRanges': WHATEVER THE INPUT: true; the input reads as it did. -/
def btreeRangesSpec : ChangeSpec := { name := "btreeRanges", fn := fun _ => fun
  | [d1, d2, d3] => { results := [.lit (.bool true)], args := [d1, d2, d3] }
  | _ => none }
def btreeRangesRow : OpenClaim := { program := "ytcmllllbmgcnlaa", sum := "18c307e159f45a11bfb89f96c4d9737f7e283ba9f55cb4714aac9a4d4e53526d", func := "vestry/vestrylaw05.BtreeRanges", spec := "btreeRanges", inPlace := ["slices.overlaps[[]int]", "slices.overlaps[*vestry/btree.node]"], unfollowed := true, recurses := true, apart := false }
def BtreeRangesSaid : Prop := btreeRangesRow.holds Try.pinned (OpenSpec.ofChange btreeRangesSpec)

/-- ITS FALSE NEIGHBOUR: 'it returns false'. Refute it at one input. -/
def btreeRangesWrong : ChangeSpec := { name := "btreeRanges", fn := fun _ => fun
  | [d1, d2, d3] => { results := [.lit (.bool false)], args := [d1, d2, d3] }
  | _ => none }
def BtreeRangesWrongFalsely : Prop := btreeRangesRow.holds Try.pinned (OpenSpec.ofChange btreeRangesWrong)

/-- 'vestrylaw05.BtreePlays': WHATEVER THE INPUT: true; the input reads as it did. -/
def btreePlaysSpec : ChangeSpec := { name := "btreePlays", fn := fun _ => fun
  | [d1, d2, d3] => { results := [.lit (.bool true)], args := [d1, d2, d3] }
  | _ => none }
def btreePlaysRow : OpenClaim := { program := "ytcmllllbmgcnlaa", sum := "18c307e159f45a11bfb89f96c4d9737f7e283ba9f55cb4714aac9a4d4e53526d", func := "vestry/vestrylaw05.BtreePlays", spec := "btreePlays", inPlace := ["slices.overlaps[[]int]", "slices.overlaps[*vestry/btree.node]"], unfollowed := true, recurses := true, apart := false }
def BtreePlaysSaid : Prop := btreePlaysRow.holds Try.pinned (OpenSpec.ofChange btreePlaysSpec)

/-- ITS FALSE NEIGHBOUR: 'it returns false'. Refute it at one input. -/
def btreePlaysWrong : ChangeSpec := { name := "btreePlays", fn := fun _ => fun
  | [d1, d2, d3] => { results := [.lit (.bool false)], args := [d1, d2, d3] }
  | _ => none }
def BtreePlaysWrongFalsely : Prop := btreePlaysRow.holds Try.pinned (OpenSpec.ofChange btreePlaysWrong)

/-- 'vestrylaw05.BtreeNobody': WHATEVER THE INPUT: true; the input reads as it did. -/
def btreeNobodySpec : ChangeSpec := { name := "btreeNobody", fn := fun _ => fun
  | [d1, d2] => { results := [.lit (.bool true)], args := [d1, d2] }
  | _ => none }
def btreeNobodyRow : OpenClaim := { program := "ytcmllllbmgcnlaa", sum := "18c307e159f45a11bfb89f96c4d9737f7e283ba9f55cb4714aac9a4d4e53526d", func := "vestry/vestrylaw05.BtreeNobody", spec := "btreeNobody", inPlace := ["slices.overlaps[[]int]", "slices.overlaps[*vestry/btree.node]"], unfollowed := true, recurses := true, apart := false }
def BtreeNobodySaid : Prop := btreeNobodyRow.holds Try.pinned (OpenSpec.ofChange btreeNobodySpec)

/-- ITS FALSE NEIGHBOUR: 'it returns false'. Refute it at one input. -/
def btreeNobodyWrong : ChangeSpec := { name := "btreeNobody", fn := fun _ => fun
  | [d1, d2] => { results := [.lit (.bool false)], args := [d1, d2] }
  | _ => none }
def BtreeNobodyWrongFalsely : Prop := btreeNobodyRow.holds Try.pinned (OpenSpec.ofChange btreeNobodyWrong)

/-- 'vestrylaw06.ChainLeast': WHATEVER THE INPUT: true; the input reads as it did. -/
def chainLeastSpec : ChangeSpec := { name := "chainLeast", fn := fun _ => fun
  | [d] => { results := [.lit (.bool true)], args := [d] }
  | _ => none }
def chainLeastRow : OpenClaim := { program := "ytcmllllbmgcnlaa", sum := "18c307e159f45a11bfb89f96c4d9737f7e283ba9f55cb4714aac9a4d4e53526d", func := "vestry/vestrylaw06.ChainLeast", spec := "chainLeast", unfollowed := true, recurses := true, apart := false }
def ChainLeastSaid : Prop := chainLeastRow.holds Try.pinned (OpenSpec.ofChange chainLeastSpec)

/-- ITS FALSE NEIGHBOUR: 'it returns false'. Refute it at one input. -/
def chainLeastWrong : ChangeSpec := { name := "chainLeast", fn := fun _ => fun
  | [d] => { results := [.lit (.bool false)], args := [d] }
  | _ => none }
def ChainLeastWrongFalsely : Prop := chainLeastRow.holds Try.pinned (OpenSpec.ofChange chainLeastWrong)

/-- 'vestrylaw06.ChainServes': WHATEVER THE INPUT: true; the input reads as it did. -/
def chainServesSpec : ChangeSpec := { name := "chainServes", fn := fun _ => fun
  | [d1, d2] => { results := [.lit (.bool true)], args := [d1, d2] }
  | _ => none }
def chainServesRow : OpenClaim := { program := "ytcmllllbmgcnlaa", sum := "18c307e159f45a11bfb89f96c4d9737f7e283ba9f55cb4714aac9a4d4e53526d", func := "vestry/vestrylaw06.ChainServes", spec := "chainServes", unfollowed := true, recurses := true, apart := false }
def ChainServesSaid : Prop := chainServesRow.holds Try.pinned (OpenSpec.ofChange chainServesSpec)

/-- ITS FALSE NEIGHBOUR: 'it returns false'. Refute it at one input. -/
def chainServesWrong : ChangeSpec := { name := "chainServes", fn := fun _ => fun
  | [d1, d2] => { results := [.lit (.bool false)], args := [d1, d2] }
  | _ => none }
def ChainServesWrongFalsely : Prop := chainServesRow.holds Try.pinned (OpenSpec.ofChange chainServesWrong)

/-- 'vestrylaw06.ChainPicks': WHATEVER THE INPUT: true; the input reads as it did. -/
def chainPicksSpec : ChangeSpec := { name := "chainPicks", fn := fun _ => fun
  | [d1, d2] => { results := [.lit (.bool true)], args := [d1, d2] }
  | _ => none }
def chainPicksRow : OpenClaim := { program := "ytcmllllbmgcnlaa", sum := "18c307e159f45a11bfb89f96c4d9737f7e283ba9f55cb4714aac9a4d4e53526d", func := "vestry/vestrylaw06.ChainPicks", spec := "chainPicks", unfollowed := true, recurses := true, apart := false }
def ChainPicksSaid : Prop := chainPicksRow.holds Try.pinned (OpenSpec.ofChange chainPicksSpec)

/-- ITS FALSE NEIGHBOUR: 'it returns false'. Refute it at one input. -/
def chainPicksWrong : ChangeSpec := { name := "chainPicks", fn := fun _ => fun
  | [d1, d2] => { results := [.lit (.bool false)], args := [d1, d2] }
  | _ => none }
def ChainPicksWrongFalsely : Prop := chainPicksRow.holds Try.pinned (OpenSpec.ofChange chainPicksWrong)

/-- 'vestrylaw06.ChainApart': WHATEVER THE INPUT: true; the input reads as it did. -/
def chainApartSpec : ChangeSpec := { name := "chainApart", fn := fun _ => fun
  | [d1, d2] => { results := [.lit (.bool true)], args := [d1, d2] }
  | _ => none }
def chainApartRow : OpenClaim := { program := "ytcmllllbmgcnlaa", sum := "18c307e159f45a11bfb89f96c4d9737f7e283ba9f55cb4714aac9a4d4e53526d", func := "vestry/vestrylaw06.ChainApart", spec := "chainApart", unfollowed := true, recurses := true, apart := false }
def ChainApartSaid : Prop := chainApartRow.holds Try.pinned (OpenSpec.ofChange chainApartSpec)

/-- ITS FALSE NEIGHBOUR: 'it returns false'. Refute it at one input. -/
def chainApartWrong : ChangeSpec := { name := "chainApart", fn := fun _ => fun
  | [d1, d2] => { results := [.lit (.bool false)], args := [d1, d2] }
  | _ => none }
def ChainApartWrongFalsely : Prop := chainApartRow.holds Try.pinned (OpenSpec.ofChange chainApartWrong)

/-- 'vestrylaw06.ChainMore': WHATEVER THE INPUT: true; the input reads as it did. -/
def chainMoreSpec : ChangeSpec := { name := "chainMore", fn := fun _ => fun
  | [d1, d2] => { results := [.lit (.bool true)], args := [d1, d2] }
  | _ => none }
def chainMoreRow : OpenClaim := { program := "ytcmllllbmgcnlaa", sum := "18c307e159f45a11bfb89f96c4d9737f7e283ba9f55cb4714aac9a4d4e53526d", func := "vestry/vestrylaw06.ChainMore", spec := "chainMore", unfollowed := true, recurses := true, apart := false }
def ChainMoreSaid : Prop := chainMoreRow.holds Try.pinned (OpenSpec.ofChange chainMoreSpec)

/-- ITS FALSE NEIGHBOUR: 'it returns false'. Refute it at one input. -/
def chainMoreWrong : ChangeSpec := { name := "chainMore", fn := fun _ => fun
  | [d1, d2] => { results := [.lit (.bool false)], args := [d1, d2] }
  | _ => none }
def ChainMoreWrongFalsely : Prop := chainMoreRow.holds Try.pinned (OpenSpec.ofChange chainMoreWrong)

/-- 'vestrylaw06.ChainOwn': WHATEVER THE INPUT: true; the input reads as it did. -/
def chainOwnSpec : ChangeSpec := { name := "chainOwn", fn := fun _ => fun
  | [d1, d2] => { results := [.lit (.bool true)], args := [d1, d2] }
  | _ => none }
def chainOwnRow : OpenClaim := { program := "ytcmllllbmgcnlaa", sum := "18c307e159f45a11bfb89f96c4d9737f7e283ba9f55cb4714aac9a4d4e53526d", func := "vestry/vestrylaw06.ChainOwn", spec := "chainOwn", unfollowed := true, recurses := true, apart := false }
def ChainOwnSaid : Prop := chainOwnRow.holds Try.pinned (OpenSpec.ofChange chainOwnSpec)

/-- ITS FALSE NEIGHBOUR: 'it returns false'. Refute it at one input. -/
def chainOwnWrong : ChangeSpec := { name := "chainOwn", fn := fun _ => fun
  | [d1, d2] => { results := [.lit (.bool false)], args := [d1, d2] }
  | _ => none }
def ChainOwnWrongFalsely : Prop := chainOwnRow.holds Try.pinned (OpenSpec.ofChange chainOwnWrong)

/- THE SECOND FORM. 'bulk': how many values and letters a reading holds, each counted each time it is reached (what is shared counts as often as it is met; a slice's spare places count too). A statement '..UptoSaid' is the law's where the arguments, and the package variables that the reading takes, are together of bulk at most 1048576: NARROWER than '..Said'. Prove '..Said' where nothing that the law and all that it calls make is longer than what came in: it says more and counts as full. Else prove '..UptoSaid'. A law counts once. -/
mutual
def uptoBulk {H : Type} : DataW H → Nat
  | .lit (.string bytes) => bytes.length + 1
  | .lit _ => 1
  | .nil => 1
  | .ptr d => uptoBulk d + 1
  | .slice elems spare => uptoBulkAll elems + uptoBulkAll spare + 1
  | .agg parts => uptoBulkAll parts + 1
  | .iface _ d => uptoBulk d + 1
  | .map entries => uptoBulkEntries entries + 1
  | .held _ => 1
def uptoBulkAll {H : Type} : List (DataW H) → Nat
  | [] => 0
  | d :: r => uptoBulk d + uptoBulkAll r
def uptoBulkEntries {H : Type} : List (Lit × DataW H) → Nat
  | [] => 0
  | x :: r => uptoBulkEntry x + uptoBulkEntries r
def uptoBulkEntry {H : Type} : Lit × DataW H → Nat
  | (.string bytes, d) => bytes.length + uptoBulk d + 1
  | (_, d) => uptoBulk d + 1
 end
def uptoSmall : (H : Type) → List (DataW H) → Bool := fun _ ds => decide (uptoBulkAll ds ≤ 1048576)
def OpenSpec.upto (s : _root_.Go.ChangeSpec) : _root_.Go.OpenSpec := { _root_.Go.OpenSpec.ofChange s with cond := some uptoSmall }

/-- 'vestrylaw05.BtreeOne', WHERE WHAT IT READS IS OF BULK AT MOST 1048576: true; the input reads as it did. -/
def btreeOneUptoRow : OpenClaim := { program := "ytcmllllbmgcnlaa", sum := "18c307e159f45a11bfb89f96c4d9737f7e283ba9f55cb4714aac9a4d4e53526d", func := "vestry/vestrylaw05.BtreeOne", spec := "btreeOne", inPlace := ["slices.overlaps[[]int]", "slices.overlaps[*vestry/btree.node]"], unfollowed := true, recurses := true, apart := false, narrowed := true }
def BtreeOneUptoSaid : Prop := btreeOneUptoRow.holds Try.pinned (OpenSpec.upto btreeOneSpec)

/-- 'vestrylaw05.BtreeOrders', WHERE WHAT IT READS IS OF BULK AT MOST 1048576: true; the input reads as it did. -/
def btreeOrdersUptoRow : OpenClaim := { program := "ytcmllllbmgcnlaa", sum := "18c307e159f45a11bfb89f96c4d9737f7e283ba9f55cb4714aac9a4d4e53526d", func := "vestry/vestrylaw05.BtreeOrders", spec := "btreeOrders", inPlace := ["slices.overlaps[[]int]", "slices.overlaps[*vestry/btree.node]"], unfollowed := true, recurses := true, apart := false, narrowed := true }
def BtreeOrdersUptoSaid : Prop := btreeOrdersUptoRow.holds Try.pinned (OpenSpec.upto btreeOrdersSpec)

/-- 'vestrylaw05.BtreeWalks', WHERE WHAT IT READS IS OF BULK AT MOST 1048576: true; the input reads as it did. -/
def btreeWalksUptoRow : OpenClaim := { program := "ytcmllllbmgcnlaa", sum := "18c307e159f45a11bfb89f96c4d9737f7e283ba9f55cb4714aac9a4d4e53526d", func := "vestry/vestrylaw05.BtreeWalks", spec := "btreeWalks", inPlace := ["slices.overlaps[[]int]", "slices.overlaps[*vestry/btree.node]"], unfollowed := true, recurses := true, apart := false, narrowed := true }
def BtreeWalksUptoSaid : Prop := btreeWalksUptoRow.holds Try.pinned (OpenSpec.upto btreeWalksSpec)

/-- 'vestrylaw05.BtreeOwn', WHERE WHAT IT READS IS OF BULK AT MOST 1048576: true; the input reads as it did. -/
def btreeOwnUptoRow : OpenClaim := { program := "ytcmllllbmgcnlaa", sum := "18c307e159f45a11bfb89f96c4d9737f7e283ba9f55cb4714aac9a4d4e53526d", func := "vestry/vestrylaw05.BtreeOwn", spec := "btreeOwn", inPlace := ["slices.overlaps[[]int]", "slices.overlaps[*vestry/btree.node]"], unfollowed := true, recurses := true, apart := false, narrowed := true }
def BtreeOwnUptoSaid : Prop := btreeOwnUptoRow.holds Try.pinned (OpenSpec.upto btreeOwnSpec)

/-- 'vestrylaw05.BtreeRanges', WHERE WHAT IT READS IS OF BULK AT MOST 1048576: true; the input reads as it did. -/
def btreeRangesUptoRow : OpenClaim := { program := "ytcmllllbmgcnlaa", sum := "18c307e159f45a11bfb89f96c4d9737f7e283ba9f55cb4714aac9a4d4e53526d", func := "vestry/vestrylaw05.BtreeRanges", spec := "btreeRanges", inPlace := ["slices.overlaps[[]int]", "slices.overlaps[*vestry/btree.node]"], unfollowed := true, recurses := true, apart := false, narrowed := true }
def BtreeRangesUptoSaid : Prop := btreeRangesUptoRow.holds Try.pinned (OpenSpec.upto btreeRangesSpec)

/-- 'vestrylaw05.BtreePlays', WHERE WHAT IT READS IS OF BULK AT MOST 1048576: true; the input reads as it did. -/
def btreePlaysUptoRow : OpenClaim := { program := "ytcmllllbmgcnlaa", sum := "18c307e159f45a11bfb89f96c4d9737f7e283ba9f55cb4714aac9a4d4e53526d", func := "vestry/vestrylaw05.BtreePlays", spec := "btreePlays", inPlace := ["slices.overlaps[[]int]", "slices.overlaps[*vestry/btree.node]"], unfollowed := true, recurses := true, apart := false, narrowed := true }
def BtreePlaysUptoSaid : Prop := btreePlaysUptoRow.holds Try.pinned (OpenSpec.upto btreePlaysSpec)

/-- 'vestrylaw05.BtreeNobody', WHERE WHAT IT READS IS OF BULK AT MOST 1048576: true; the input reads as it did. -/
def btreeNobodyUptoRow : OpenClaim := { program := "ytcmllllbmgcnlaa", sum := "18c307e159f45a11bfb89f96c4d9737f7e283ba9f55cb4714aac9a4d4e53526d", func := "vestry/vestrylaw05.BtreeNobody", spec := "btreeNobody", inPlace := ["slices.overlaps[[]int]", "slices.overlaps[*vestry/btree.node]"], unfollowed := true, recurses := true, apart := false, narrowed := true }
def BtreeNobodyUptoSaid : Prop := btreeNobodyUptoRow.holds Try.pinned (OpenSpec.upto btreeNobodySpec)

/-- 'vestrylaw06.ChainLeast', WHERE WHAT IT READS IS OF BULK AT MOST 1048576: true; the input reads as it did. -/
def chainLeastUptoRow : OpenClaim := { program := "ytcmllllbmgcnlaa", sum := "18c307e159f45a11bfb89f96c4d9737f7e283ba9f55cb4714aac9a4d4e53526d", func := "vestry/vestrylaw06.ChainLeast", spec := "chainLeast", unfollowed := true, recurses := true, apart := false, narrowed := true }
def ChainLeastUptoSaid : Prop := chainLeastUptoRow.holds Try.pinned (OpenSpec.upto chainLeastSpec)

/-- 'vestrylaw06.ChainServes', WHERE WHAT IT READS IS OF BULK AT MOST 1048576: true; the input reads as it did. -/
def chainServesUptoRow : OpenClaim := { program := "ytcmllllbmgcnlaa", sum := "18c307e159f45a11bfb89f96c4d9737f7e283ba9f55cb4714aac9a4d4e53526d", func := "vestry/vestrylaw06.ChainServes", spec := "chainServes", unfollowed := true, recurses := true, apart := false, narrowed := true }
def ChainServesUptoSaid : Prop := chainServesUptoRow.holds Try.pinned (OpenSpec.upto chainServesSpec)

/-- 'vestrylaw06.ChainPicks', WHERE WHAT IT READS IS OF BULK AT MOST 1048576: true; the input reads as it did. -/
def chainPicksUptoRow : OpenClaim := { program := "ytcmllllbmgcnlaa", sum := "18c307e159f45a11bfb89f96c4d9737f7e283ba9f55cb4714aac9a4d4e53526d", func := "vestry/vestrylaw06.ChainPicks", spec := "chainPicks", unfollowed := true, recurses := true, apart := false, narrowed := true }
def ChainPicksUptoSaid : Prop := chainPicksUptoRow.holds Try.pinned (OpenSpec.upto chainPicksSpec)

/-- 'vestrylaw06.ChainApart', WHERE WHAT IT READS IS OF BULK AT MOST 1048576: true; the input reads as it did. -/
def chainApartUptoRow : OpenClaim := { program := "ytcmllllbmgcnlaa", sum := "18c307e159f45a11bfb89f96c4d9737f7e283ba9f55cb4714aac9a4d4e53526d", func := "vestry/vestrylaw06.ChainApart", spec := "chainApart", unfollowed := true, recurses := true, apart := false, narrowed := true }
def ChainApartUptoSaid : Prop := chainApartUptoRow.holds Try.pinned (OpenSpec.upto chainApartSpec)

/-- 'vestrylaw06.ChainMore', WHERE WHAT IT READS IS OF BULK AT MOST 1048576: true; the input reads as it did. -/
def chainMoreUptoRow : OpenClaim := { program := "ytcmllllbmgcnlaa", sum := "18c307e159f45a11bfb89f96c4d9737f7e283ba9f55cb4714aac9a4d4e53526d", func := "vestry/vestrylaw06.ChainMore", spec := "chainMore", unfollowed := true, recurses := true, apart := false, narrowed := true }
def ChainMoreUptoSaid : Prop := chainMoreUptoRow.holds Try.pinned (OpenSpec.upto chainMoreSpec)

/-- 'vestrylaw06.ChainOwn', WHERE WHAT IT READS IS OF BULK AT MOST 1048576: true; the input reads as it did. -/
def chainOwnUptoRow : OpenClaim := { program := "ytcmllllbmgcnlaa", sum := "18c307e159f45a11bfb89f96c4d9737f7e283ba9f55cb4714aac9a4d4e53526d", func := "vestry/vestrylaw06.ChainOwn", spec := "chainOwn", unfollowed := true, recurses := true, apart := false, narrowed := true }
def ChainOwnUptoSaid : Prop := chainOwnUptoRow.holds Try.pinned (OpenSpec.upto chainOwnSpec)

end Rows
end Go.Proofs.Ytcmllllbmgcnlaa
