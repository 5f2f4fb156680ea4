/-
  No cell of these rows narrows 'for every input' (looked for: loops, veiled, ifaces, maps, wideKeys, modest, calm, conditions, laid).
  DERIVED. THE GIVEN ROWS OF THIS SEAT. 8 by the template 'for every input the law returns true; each argument reads behind the call as it read before'; 0 by the template 'total and deterministic' (their statements: YtcmllllbmgcnlaaGreatTotals.lean).
  GIVEN WITH THE SEED: the statements are not yours to turn. If you find one false, say at which input.
  Laid BY PROGRAM, IN A SANDBOX (cutbox-rows.mjs): the forced cells as the released guide's own fill.sh prints them over the translation c4c6047c6138b80e… (all of the seat's roots in one cut). By AI agents, Wed Nov 11 2026. No macro, syntax, notation, axiom, sorry.
-/
import Derived.Test.YtcmllllbmgcnlaaGreatChecked
import GoSem.Claim
import GoSem.ClaimJoined
import GoSem.ClaimMapViews
import Derived.JoinedTies
import Derived.KernelRfl
namespace Go.Proofs.YtcmllllbmgcnlaaGreat
/- THE CELL 'sum', in the pinned program and in every row, IS THE sha256 OF THE DUMP (.gsa) THAT YtcmllllbmgcnlaaGreatProg.lean LOADS. Nothing in Lean hashes anything: it is a label: what it is worth is what the hold of that sum in a sandbox is worth. -/
noncomputable def Tryz.pinned : Pinned := { name := "ytcmllllbmgcnlaagreat", sum := "c4c6047c6138b80eea90047f1bb6d4d3b9858c16b1708f69e6d7a0d40b111bc9", checked := Tryz.checked }
namespace Rows
def none {H : Type} : Left H := { results := [], args := [] }

/-- 'vestrylaw07.RelRefuses': WHATEVER THE INPUT: true; the input reads as it did. -/
def relRefusesSpec : ChangeSpec := { name := "relRefuses", fn := fun _ => fun
  | [d1, d2, d3] => { results := [.lit (.bool true)], args := [d1, d2, d3] }
  | _ => none }
def relRefusesRow : OpenClaim := { program := "ytcmllllbmgcnlaagreat", sum := "c4c6047c6138b80eea90047f1bb6d4d3b9858c16b1708f69e6d7a0d40b111bc9", func := "vestry/vestrylaw07.RelRefuses", spec := "relRefuses", inPlace := ["slices.overlaps[[]int]", "slices.overlaps[*vestry/btree.node]"], unfollowed := true, recurses := true, plainKeys := false, apart := false }
def RelRefusesSaid : Prop := relRefusesRow.holds Tryz.pinned (OpenSpec.ofChange relRefusesSpec)

/-- ITS FALSE NEIGHBOUR: 'it returns false'. Refute it at one input. -/
def relRefusesWrong : ChangeSpec := { name := "relRefuses", fn := fun _ => fun
  | [d1, d2, d3] => { results := [.lit (.bool false)], args := [d1, d2, d3] }
  | _ => none }
def RelRefusesWrongFalsely : Prop := relRefusesRow.holds Tryz.pinned (OpenSpec.ofChange relRefusesWrong)

/-- 'vestrylaw07.RelNotes': WHATEVER THE INPUT: true; the input reads as it did. -/
def relNotesSpec : ChangeSpec := { name := "relNotes", fn := fun _ => fun
  | [d1, d2, d3] => { results := [.lit (.bool true)], args := [d1, d2, d3] }
  | _ => none }
def relNotesRow : OpenClaim := { program := "ytcmllllbmgcnlaagreat", sum := "c4c6047c6138b80eea90047f1bb6d4d3b9858c16b1708f69e6d7a0d40b111bc9", func := "vestry/vestrylaw07.RelNotes", spec := "relNotes", inPlace := ["slices.overlaps[[]int]", "slices.overlaps[*vestry/btree.node]"], unfollowed := true, recurses := true, plainKeys := false, apart := false }
def RelNotesSaid : Prop := relNotesRow.holds Tryz.pinned (OpenSpec.ofChange relNotesSpec)

/-- ITS FALSE NEIGHBOUR: 'it returns false'. Refute it at one input. -/
def relNotesWrong : ChangeSpec := { name := "relNotes", fn := fun _ => fun
  | [d1, d2, d3] => { results := [.lit (.bool false)], args := [d1, d2, d3] }
  | _ => none }
def RelNotesWrongFalsely : Prop := relNotesRow.holds Tryz.pinned (OpenSpec.ofChange relNotesWrong)

/-- 'vestrylaw07.RelMade': WHATEVER THE INPUT: true; the input reads as it did. -/
def relMadeSpec : ChangeSpec := { name := "relMade", fn := fun _ => fun
  | [d1, d2, d3] => { results := [.lit (.bool true)], args := [d1, d2, d3] }
  | _ => none }
def relMadeRow : OpenClaim := { program := "ytcmllllbmgcnlaagreat", sum := "c4c6047c6138b80eea90047f1bb6d4d3b9858c16b1708f69e6d7a0d40b111bc9", func := "vestry/vestrylaw07.RelMade", spec := "relMade", inPlace := ["slices.overlaps[[]int]", "slices.overlaps[*vestry/btree.node]"], unfollowed := true, recurses := true, plainKeys := false, apart := false }
def RelMadeSaid : Prop := relMadeRow.holds Tryz.pinned (OpenSpec.ofChange relMadeSpec)

/-- ITS FALSE NEIGHBOUR: 'it returns false'. Refute it at one input. -/
def relMadeWrong : ChangeSpec := { name := "relMade", fn := fun _ => fun
  | [d1, d2, d3] => { results := [.lit (.bool false)], args := [d1, d2, d3] }
  | _ => none }
def RelMadeWrongFalsely : Prop := relMadeRow.holds Tryz.pinned (OpenSpec.ofChange relMadeWrong)

/-- 'vestrylaw07.RelBest': WHATEVER THE INPUT: true; the input reads as it did. -/
def relBestSpec : ChangeSpec := { name := "relBest", fn := fun _ => fun
  | [d1, d2] => { results := [.lit (.bool true)], args := [d1, d2] }
  | _ => none }
def relBestRow : OpenClaim := { program := "ytcmllllbmgcnlaagreat", sum := "c4c6047c6138b80eea90047f1bb6d4d3b9858c16b1708f69e6d7a0d40b111bc9", func := "vestry/vestrylaw07.RelBest", spec := "relBest", inPlace := ["slices.overlaps[[]int]", "slices.overlaps[*vestry/btree.node]"], unfollowed := true, recurses := true, plainKeys := false, apart := false }
def RelBestSaid : Prop := relBestRow.holds Tryz.pinned (OpenSpec.ofChange relBestSpec)

/-- ITS FALSE NEIGHBOUR: 'it returns false'. Refute it at one input. -/
def relBestWrong : ChangeSpec := { name := "relBest", fn := fun _ => fun
  | [d1, d2] => { results := [.lit (.bool false)], args := [d1, d2] }
  | _ => none }
def RelBestWrongFalsely : Prop := relBestRow.holds Tryz.pinned (OpenSpec.ofChange relBestWrong)

/-- 'vestrylaw07.RelFinds': WHATEVER THE INPUT: true; the input reads as it did. -/
def relFindsSpec : ChangeSpec := { name := "relFinds", fn := fun _ => fun
  | [d1, d2, d3] => { results := [.lit (.bool true)], args := [d1, d2, d3] }
  | _ => none }
def relFindsRow : OpenClaim := { program := "ytcmllllbmgcnlaagreat", sum := "c4c6047c6138b80eea90047f1bb6d4d3b9858c16b1708f69e6d7a0d40b111bc9", func := "vestry/vestrylaw07.RelFinds", spec := "relFinds", inPlace := ["slices.overlaps[[]int]", "slices.overlaps[*vestry/btree.node]"], unfollowed := true, recurses := true, plainKeys := false, apart := false }
def RelFindsSaid : Prop := relFindsRow.holds Tryz.pinned (OpenSpec.ofChange relFindsSpec)

/-- ITS FALSE NEIGHBOUR: 'it returns false'. Refute it at one input. -/
def relFindsWrong : ChangeSpec := { name := "relFinds", fn := fun _ => fun
  | [d1, d2, d3] => { results := [.lit (.bool false)], args := [d1, d2, d3] }
  | _ => none }
def RelFindsWrongFalsely : Prop := relFindsRow.holds Tryz.pinned (OpenSpec.ofChange relFindsWrong)

/-- 'vestrylaw07.RelOwn': WHATEVER THE INPUT: true; the input reads as it did. -/
def relOwnSpec : ChangeSpec := { name := "relOwn", fn := fun _ => fun
  | [d1, d2] => { results := [.lit (.bool true)], args := [d1, d2] }
  | _ => none }
def relOwnRow : OpenClaim := { program := "ytcmllllbmgcnlaagreat", sum := "c4c6047c6138b80eea90047f1bb6d4d3b9858c16b1708f69e6d7a0d40b111bc9", func := "vestry/vestrylaw07.RelOwn", spec := "relOwn", inPlace := ["slices.overlaps[[]int]", "slices.overlaps[*vestry/btree.node]"], unfollowed := true, recurses := true, plainKeys := false, apart := false }
def RelOwnSaid : Prop := relOwnRow.holds Tryz.pinned (OpenSpec.ofChange relOwnSpec)

/-- ITS FALSE NEIGHBOUR: 'it returns false'. Refute it at one input. -/
def relOwnWrong : ChangeSpec := { name := "relOwn", fn := fun _ => fun
  | [d1, d2] => { results := [.lit (.bool false)], args := [d1, d2] }
  | _ => none }
def RelOwnWrongFalsely : Prop := relOwnRow.holds Tryz.pinned (OpenSpec.ofChange relOwnWrong)

/-- 'vestrylaw07.RelNobody': WHATEVER THE INPUT: true; the input reads as it did. -/
def relNobodySpec : ChangeSpec := { name := "relNobody", fn := fun _ => fun
  | [d1, d2] => { results := [.lit (.bool true)], args := [d1, d2] }
  | _ => none }
def relNobodyRow : OpenClaim := { program := "ytcmllllbmgcnlaagreat", sum := "c4c6047c6138b80eea90047f1bb6d4d3b9858c16b1708f69e6d7a0d40b111bc9", func := "vestry/vestrylaw07.RelNobody", spec := "relNobody", inPlace := ["slices.overlaps[[]int]", "slices.overlaps[*vestry/btree.node]"], unfollowed := true, recurses := true, plainKeys := false, apart := false }
def RelNobodySaid : Prop := relNobodyRow.holds Tryz.pinned (OpenSpec.ofChange relNobodySpec)

/-- ITS FALSE NEIGHBOUR: 'it returns false'. Refute it at one input. -/
def relNobodyWrong : ChangeSpec := { name := "relNobody", fn := fun _ => fun
  | [d1, d2] => { results := [.lit (.bool false)], args := [d1, d2] }
  | _ => none }
def RelNobodyWrongFalsely : Prop := relNobodyRow.holds Tryz.pinned (OpenSpec.ofChange relNobodyWrong)

/-- 'vestrylaw07.RelPlays': WHATEVER THE INPUT: true; the input reads as it did. -/
def relPlaysSpec : ChangeSpec := { name := "relPlays", fn := fun _ => fun
  | [d1, d2, d3] => { results := [.lit (.bool true)], args := [d1, d2, d3] }
  | _ => none }
def relPlaysRow : OpenClaim := { program := "ytcmllllbmgcnlaagreat", sum := "c4c6047c6138b80eea90047f1bb6d4d3b9858c16b1708f69e6d7a0d40b111bc9", func := "vestry/vestrylaw07.RelPlays", spec := "relPlays", inPlace := ["slices.overlaps[[]int]", "slices.overlaps[*vestry/btree.node]"], unfollowed := true, recurses := true, plainKeys := false, apart := false }
def RelPlaysSaid : Prop := relPlaysRow.holds Tryz.pinned (OpenSpec.ofChange relPlaysSpec)

/-- ITS FALSE NEIGHBOUR: 'it returns false'. Refute it at one input. -/
def relPlaysWrong : ChangeSpec := { name := "relPlays", fn := fun _ => fun
  | [d1, d2, d3] => { results := [.lit (.bool false)], args := [d1, d2, d3] }
  | _ => none }
def RelPlaysWrongFalsely : Prop := relPlaysRow.holds Tryz.pinned (OpenSpec.ofChange relPlaysWrong)

/- THE SECOND FORM. 'bulk': how many values and letters a reading holds, each counted each time it is reached (what is shared counts as often as it is met; a slice's spare places count too). A statement '..UptoSaid' is the law's where the arguments, and the package variables that the reading takes, are together of bulk at most 1048576: NARROWER than '..Said'. Prove '..Said' where nothing that the law and all that it calls make is longer than what came in: it says more and counts as full. Else prove '..UptoSaid'. A law counts once. -/
mutual
def uptoBulk {H : Type} : DataW H → Nat
  | .lit (.string bytes) => bytes.length + 1
  | .lit _ => 1
  | .nil => 1
  | .ptr d => uptoBulk d + 1
  | .slice elems spare => uptoBulkAll elems + uptoBulkAll spare + 1
  | .agg parts => uptoBulkAll parts + 1
  | .iface _ d => uptoBulk d + 1
  | .map entries => uptoBulkEntries entries + 1
  | .held _ => 1
def uptoBulkAll {H : Type} : List (DataW H) → Nat
  | [] => 0
  | d :: r => uptoBulk d + uptoBulkAll r
def uptoBulkEntries {H : Type} : List (Lit × DataW H) → Nat
  | [] => 0
  | x :: r => uptoBulkEntry x + uptoBulkEntries r
def uptoBulkEntry {H : Type} : Lit × DataW H → Nat
  | (.string bytes, d) => bytes.length + uptoBulk d + 1
  | (_, d) => uptoBulk d + 1
 end
def uptoSmall : (H : Type) → List (DataW H) → Bool := fun _ ds => decide (uptoBulkAll ds ≤ 1048576)
def OpenSpec.upto (s : _root_.Go.ChangeSpec) : _root_.Go.OpenSpec := { _root_.Go.OpenSpec.ofChange s with cond := some uptoSmall }

/-- 'vestrylaw07.RelRefuses', WHERE WHAT IT READS IS OF BULK AT MOST 1048576: true; the input reads as it did. -/
def relRefusesUptoRow : OpenClaim := { program := "ytcmllllbmgcnlaagreat", sum := "c4c6047c6138b80eea90047f1bb6d4d3b9858c16b1708f69e6d7a0d40b111bc9", func := "vestry/vestrylaw07.RelRefuses", spec := "relRefuses", inPlace := ["slices.overlaps[[]int]", "slices.overlaps[*vestry/btree.node]"], unfollowed := true, recurses := true, plainKeys := false, apart := false, narrowed := true }
def RelRefusesUptoSaid : Prop := relRefusesUptoRow.holds Tryz.pinned (OpenSpec.upto relRefusesSpec)

/-- 'vestrylaw07.RelNotes', WHERE WHAT IT READS IS OF BULK AT MOST 1048576: true; the input reads as it did. -/
def relNotesUptoRow : OpenClaim := { program := "ytcmllllbmgcnlaagreat", sum := "c4c6047c6138b80eea90047f1bb6d4d3b9858c16b1708f69e6d7a0d40b111bc9", func := "vestry/vestrylaw07.RelNotes", spec := "relNotes", inPlace := ["slices.overlaps[[]int]", "slices.overlaps[*vestry/btree.node]"], unfollowed := true, recurses := true, plainKeys := false, apart := false, narrowed := true }
def RelNotesUptoSaid : Prop := relNotesUptoRow.holds Tryz.pinned (OpenSpec.upto relNotesSpec)

/-- 'vestrylaw07.RelMade', WHERE WHAT IT READS IS OF BULK AT MOST 1048576: true; the input reads as it did. -/
def relMadeUptoRow : OpenClaim := { program := "ytcmllllbmgcnlaagreat", sum := "c4c6047c6138b80eea90047f1bb6d4d3b9858c16b1708f69e6d7a0d40b111bc9", func := "vestry/vestrylaw07.RelMade", spec := "relMade", inPlace := ["slices.overlaps[[]int]", "slices.overlaps[*vestry/btree.node]"], unfollowed := true, recurses := true, plainKeys := false, apart := false, narrowed := true }
def RelMadeUptoSaid : Prop := relMadeUptoRow.holds Tryz.pinned (OpenSpec.upto relMadeSpec)

/-- 'vestrylaw07.RelBest', WHERE WHAT IT READS IS OF BULK AT MOST 1048576: true; the input reads as it did. -/
def relBestUptoRow : OpenClaim := { program := "ytcmllllbmgcnlaagreat", sum := "c4c6047c6138b80eea90047f1bb6d4d3b9858c16b1708f69e6d7a0d40b111bc9", func := "vestry/vestrylaw07.RelBest", spec := "relBest", inPlace := ["slices.overlaps[[]int]", "slices.overlaps[*vestry/btree.node]"], unfollowed := true, recurses := true, plainKeys := false, apart := false, narrowed := true }
def RelBestUptoSaid : Prop := relBestUptoRow.holds Tryz.pinned (OpenSpec.upto relBestSpec)

/-- 'vestrylaw07.RelFinds', WHERE WHAT IT READS IS OF BULK AT MOST 1048576: true; the input reads as it did. -/
def relFindsUptoRow : OpenClaim := { program := "ytcmllllbmgcnlaagreat", sum := "c4c6047c6138b80eea90047f1bb6d4d3b9858c16b1708f69e6d7a0d40b111bc9", func := "vestry/vestrylaw07.RelFinds", spec := "relFinds", inPlace := ["slices.overlaps[[]int]", "slices.overlaps[*vestry/btree.node]"], unfollowed := true, recurses := true, plainKeys := false, apart := false, narrowed := true }
def RelFindsUptoSaid : Prop := relFindsUptoRow.holds Tryz.pinned (OpenSpec.upto relFindsSpec)

/-- 'vestrylaw07.RelOwn', WHERE WHAT IT READS IS OF BULK AT MOST 1048576: true; the input reads as it did. -/
def relOwnUptoRow : OpenClaim := { program := "ytcmllllbmgcnlaagreat", sum := "c4c6047c6138b80eea90047f1bb6d4d3b9858c16b1708f69e6d7a0d40b111bc9", func := "vestry/vestrylaw07.RelOwn", spec := "relOwn", inPlace := ["slices.overlaps[[]int]", "slices.overlaps[*vestry/btree.node]"], unfollowed := true, recurses := true, plainKeys := false, apart := false, narrowed := true }
def RelOwnUptoSaid : Prop := relOwnUptoRow.holds Tryz.pinned (OpenSpec.upto relOwnSpec)

/-- 'vestrylaw07.RelNobody', WHERE WHAT IT READS IS OF BULK AT MOST 1048576: true; the input reads as it did. -/
def relNobodyUptoRow : OpenClaim := { program := "ytcmllllbmgcnlaagreat", sum := "c4c6047c6138b80eea90047f1bb6d4d3b9858c16b1708f69e6d7a0d40b111bc9", func := "vestry/vestrylaw07.RelNobody", spec := "relNobody", inPlace := ["slices.overlaps[[]int]", "slices.overlaps[*vestry/btree.node]"], unfollowed := true, recurses := true, plainKeys := false, apart := false, narrowed := true }
def RelNobodyUptoSaid : Prop := relNobodyUptoRow.holds Tryz.pinned (OpenSpec.upto relNobodySpec)

/-- 'vestrylaw07.RelPlays', WHERE WHAT IT READS IS OF BULK AT MOST 1048576: true; the input reads as it did. -/
def relPlaysUptoRow : OpenClaim := { program := "ytcmllllbmgcnlaagreat", sum := "c4c6047c6138b80eea90047f1bb6d4d3b9858c16b1708f69e6d7a0d40b111bc9", func := "vestry/vestrylaw07.RelPlays", spec := "relPlays", inPlace := ["slices.overlaps[[]int]", "slices.overlaps[*vestry/btree.node]"], unfollowed := true, recurses := true, plainKeys := false, apart := false, narrowed := true }
def RelPlaysUptoSaid : Prop := relPlaysUptoRow.holds Tryz.pinned (OpenSpec.upto relPlaysSpec)

end Rows
end Go.Proofs.YtcmllllbmgcnlaaGreat
