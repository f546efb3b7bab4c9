/-
  No cell of these rows narrows 'for every input' (looked for: loops, veiled, ifaces, maps, wideKeys, modest, calm, conditions, laid).
  DERIVED. THE GIVEN ROWS OF THIS SEAT. 12 by the template 'for every input the law returns true; each argument reads behind the call as it read before'; 0 by the template 'total and deterministic' (their statements: YtekmnlagkoelcaaTotals.lean).
  GIVEN WITH THE SEED: the statements are not yours to turn. If you find one false, say at which input.
  Laid BY PROGRAM, IN A SANDBOX (cutbox-rows.mjs): the forced cells as the released guide's own fill.sh prints them over the translation f2ef21890373f392… (all of the seat's roots in one cut). By AI agents, Wed Nov 11 2026. No macro, syntax, notation, axiom, sorry.
-/
import Derived.Test.YtekmnlagkoelcaaChecked
import GoSem.Claim
import GoSem.ClaimJoined
import GoSem.ClaimMapViews
import Derived.JoinedTies
import Derived.KernelRfl
namespace Go.Proofs.Ytekmnlagkoelcaa
/- THE CELL 'sum', in the pinned program and in every row, IS THE sha256 OF THE DUMP (.gsa) THAT YtekmnlagkoelcaaProg.lean LOADS. Nothing in Lean hashes anything: it is a label: what it is worth is what the hold of that sum in a sandbox is worth. -/
noncomputable def Try.pinned : Pinned := { name := "ytekmnlagkoelcaa", sum := "f2ef21890373f392f0389708f92d2e525d1fbb07d33e17bd78ee56160ad1b65e", checked := Try.checked }
namespace Rows
def none {H : Type} : Left H := { results := [], args := [] }

/-- 'laws.FnExactBoxOf': WHATEVER THE INPUT: true; the input reads as it did. -/
def fnExactBoxOfSpec : ChangeSpec := { name := "fnExactBoxOf", fn := fun _ => fun
  | [d] => { results := [.lit (.bool true)], args := [d] }
  | _ => none }
def fnExactBoxOfRow : OpenClaim := { program := "ytekmnlagkoelcaa", sum := "f2ef21890373f392f0389708f92d2e525d1fbb07d33e17bd78ee56160ad1b65e", func := "loop.example/g00409/laws.FnExactBoxOf", spec := "fnExactBoxOf", unfollowed := true, recurses := true, apart := false }
def FnExactBoxOfSaid : Prop := fnExactBoxOfRow.holds Try.pinned (OpenSpec.ofChange fnExactBoxOfSpec)

/-- ITS FALSE NEIGHBOUR: 'it returns false'. Refute it at one input. -/
def fnExactBoxOfWrong : ChangeSpec := { name := "fnExactBoxOf", fn := fun _ => fun
  | [d] => { results := [.lit (.bool false)], args := [d] }
  | _ => none }
def FnExactBoxOfWrongFalsely : Prop := fnExactBoxOfRow.holds Try.pinned (OpenSpec.ofChange fnExactBoxOfWrong)

/-- 'laws.FnExactSplitWay': WHATEVER THE INPUT: true; the input reads as it did. -/
def fnExactSplitWaySpec : ChangeSpec := { name := "fnExactSplitWay", fn := fun _ => fun
  | [d1, d2, d3] => { results := [.lit (.bool true)], args := [d1, d2, d3] }
  | _ => none }
def fnExactSplitWayRow : OpenClaim := { program := "ytekmnlagkoelcaa", sum := "f2ef21890373f392f0389708f92d2e525d1fbb07d33e17bd78ee56160ad1b65e", func := "loop.example/g00409/laws.FnExactSplitWay", spec := "fnExactSplitWay", unfollowed := true, recurses := true, apart := false }
def FnExactSplitWaySaid : Prop := fnExactSplitWayRow.holds Try.pinned (OpenSpec.ofChange fnExactSplitWaySpec)

/-- ITS FALSE NEIGHBOUR: 'it returns false'. Refute it at one input. -/
def fnExactSplitWayWrong : ChangeSpec := { name := "fnExactSplitWay", fn := fun _ => fun
  | [d1, d2, d3] => { results := [.lit (.bool false)], args := [d1, d2, d3] }
  | _ => none }
def FnExactSplitWayWrongFalsely : Prop := fnExactSplitWayRow.holds Try.pinned (OpenSpec.ofChange fnExactSplitWayWrong)

/-- 'laws.FnExactMovePts': WHATEVER THE INPUT: true; the input reads as it did. -/
def fnExactMovePtsSpec : ChangeSpec := { name := "fnExactMovePts", fn := fun _ => fun
  | [d1, d2] => { results := [.lit (.bool true)], args := [d1, d2] }
  | _ => none }
def fnExactMovePtsRow : OpenClaim := { program := "ytekmnlagkoelcaa", sum := "f2ef21890373f392f0389708f92d2e525d1fbb07d33e17bd78ee56160ad1b65e", func := "loop.example/g00409/laws.FnExactMovePts", spec := "fnExactMovePts", unfollowed := true, recurses := true, apart := false }
def FnExactMovePtsSaid : Prop := fnExactMovePtsRow.holds Try.pinned (OpenSpec.ofChange fnExactMovePtsSpec)

/-- ITS FALSE NEIGHBOUR: 'it returns false'. Refute it at one input. -/
def fnExactMovePtsWrong : ChangeSpec := { name := "fnExactMovePts", fn := fun _ => fun
  | [d1, d2] => { results := [.lit (.bool false)], args := [d1, d2] }
  | _ => none }
def FnExactMovePtsWrongFalsely : Prop := fnExactMovePtsRow.holds Try.pinned (OpenSpec.ofChange fnExactMovePtsWrong)

/-- 'laws.FnExactOnWay': WHATEVER THE INPUT: true; the input reads as it did. -/
def fnExactOnWaySpec : ChangeSpec := { name := "fnExactOnWay", fn := fun _ => fun
  | [d1, d2] => { results := [.lit (.bool true)], args := [d1, d2] }
  | _ => none }
def fnExactOnWayRow : OpenClaim := { program := "ytekmnlagkoelcaa", sum := "f2ef21890373f392f0389708f92d2e525d1fbb07d33e17bd78ee56160ad1b65e", func := "loop.example/g00409/laws.FnExactOnWay", spec := "fnExactOnWay", unfollowed := true, recurses := true, apart := false }
def FnExactOnWaySaid : Prop := fnExactOnWayRow.holds Try.pinned (OpenSpec.ofChange fnExactOnWaySpec)

/-- ITS FALSE NEIGHBOUR: 'it returns false'. Refute it at one input. -/
def fnExactOnWayWrong : ChangeSpec := { name := "fnExactOnWay", fn := fun _ => fun
  | [d1, d2] => { results := [.lit (.bool false)], args := [d1, d2] }
  | _ => none }
def FnExactOnWayWrongFalsely : Prop := fnExactOnWayRow.holds Try.pinned (OpenSpec.ofChange fnExactOnWayWrong)

/-- 'laws.FnExactTurnAll': WHATEVER THE INPUT: true; the input reads as it did. -/
def fnExactTurnAllSpec : ChangeSpec := { name := "fnExactTurnAll", fn := fun _ => fun
  | [d] => { results := [.lit (.bool true)], args := [d] }
  | _ => none }
def fnExactTurnAllRow : OpenClaim := { program := "ytekmnlagkoelcaa", sum := "f2ef21890373f392f0389708f92d2e525d1fbb07d33e17bd78ee56160ad1b65e", func := "loop.example/g00409/laws.FnExactTurnAll", spec := "fnExactTurnAll", unfollowed := true, recurses := true, apart := false }
def FnExactTurnAllSaid : Prop := fnExactTurnAllRow.holds Try.pinned (OpenSpec.ofChange fnExactTurnAllSpec)

/-- ITS FALSE NEIGHBOUR: 'it returns false'. Refute it at one input. -/
def fnExactTurnAllWrong : ChangeSpec := { name := "fnExactTurnAll", fn := fun _ => fun
  | [d] => { results := [.lit (.bool false)], args := [d] }
  | _ => none }
def FnExactTurnAllWrongFalsely : Prop := fnExactTurnAllRow.holds Try.pinned (OpenSpec.ofChange fnExactTurnAllWrong)

/-- 'laws.FnExactBorderPoints': WHATEVER THE INPUT: true; the input reads as it did. -/
def fnExactBorderPointsSpec : ChangeSpec := { name := "fnExactBorderPoints", fn := fun _ => fun
  | [d] => { results := [.lit (.bool true)], args := [d] }
  | _ => none }
def fnExactBorderPointsRow : OpenClaim := { program := "ytekmnlagkoelcaa", sum := "f2ef21890373f392f0389708f92d2e525d1fbb07d33e17bd78ee56160ad1b65e", func := "loop.example/g00409/laws.FnExactBorderPoints", spec := "fnExactBorderPoints", unfollowed := true, recurses := true, apart := false }
def FnExactBorderPointsSaid : Prop := fnExactBorderPointsRow.holds Try.pinned (OpenSpec.ofChange fnExactBorderPointsSpec)

/-- ITS FALSE NEIGHBOUR: 'it returns false'. Refute it at one input. -/
def fnExactBorderPointsWrong : ChangeSpec := { name := "fnExactBorderPoints", fn := fun _ => fun
  | [d] => { results := [.lit (.bool false)], args := [d] }
  | _ => none }
def FnExactBorderPointsWrongFalsely : Prop := fnExactBorderPointsRow.holds Try.pinned (OpenSpec.ofChange fnExactBorderPointsWrong)

/-- 'laws.FnExactCrossingsAt': WHATEVER THE INPUT: true; the input reads as it did. -/
def fnExactCrossingsAtSpec : ChangeSpec := { name := "fnExactCrossingsAt", fn := fun _ => fun
  | [d1, d2] => { results := [.lit (.bool true)], args := [d1, d2] }
  | _ => none }
def fnExactCrossingsAtRow : OpenClaim := { program := "ytekmnlagkoelcaa", sum := "f2ef21890373f392f0389708f92d2e525d1fbb07d33e17bd78ee56160ad1b65e", func := "loop.example/g00409/laws.FnExactCrossingsAt", spec := "fnExactCrossingsAt", unfollowed := true, recurses := true, apart := false }
def FnExactCrossingsAtSaid : Prop := fnExactCrossingsAtRow.holds Try.pinned (OpenSpec.ofChange fnExactCrossingsAtSpec)

/-- ITS FALSE NEIGHBOUR: 'it returns false'. Refute it at one input. -/
def fnExactCrossingsAtWrong : ChangeSpec := { name := "fnExactCrossingsAt", fn := fun _ => fun
  | [d1, d2] => { results := [.lit (.bool false)], args := [d1, d2] }
  | _ => none }
def FnExactCrossingsAtWrongFalsely : Prop := fnExactCrossingsAtRow.holds Try.pinned (OpenSpec.ofChange fnExactCrossingsAtWrong)

/-- 'laws.FnExactWindingAt': WHATEVER THE INPUT: true; the input reads as it did. -/
def fnExactWindingAtSpec : ChangeSpec := { name := "fnExactWindingAt", fn := fun _ => fun
  | [d1, d2] => { results := [.lit (.bool true)], args := [d1, d2] }
  | _ => none }
def fnExactWindingAtRow : OpenClaim := { program := "ytekmnlagkoelcaa", sum := "f2ef21890373f392f0389708f92d2e525d1fbb07d33e17bd78ee56160ad1b65e", func := "loop.example/g00409/laws.FnExactWindingAt", spec := "fnExactWindingAt", unfollowed := true, recurses := true, apart := false }
def FnExactWindingAtSaid : Prop := fnExactWindingAtRow.holds Try.pinned (OpenSpec.ofChange fnExactWindingAtSpec)

/-- ITS FALSE NEIGHBOUR: 'it returns false'. Refute it at one input. -/
def fnExactWindingAtWrong : ChangeSpec := { name := "fnExactWindingAt", fn := fun _ => fun
  | [d1, d2] => { results := [.lit (.bool false)], args := [d1, d2] }
  | _ => none }
def FnExactWindingAtWrongFalsely : Prop := fnExactWindingAtRow.holds Try.pinned (OpenSpec.ofChange fnExactWindingAtWrong)

/-- 'laws.FnExactIsSimple': WHATEVER THE INPUT: true; the input reads as it did. -/
def fnExactIsSimpleSpec : ChangeSpec := { name := "fnExactIsSimple", fn := fun _ => fun
  | [d] => { results := [.lit (.bool true)], args := [d] }
  | _ => none }
def fnExactIsSimpleRow : OpenClaim := { program := "ytekmnlagkoelcaa", sum := "f2ef21890373f392f0389708f92d2e525d1fbb07d33e17bd78ee56160ad1b65e", func := "loop.example/g00409/laws.FnExactIsSimple", spec := "fnExactIsSimple", unfollowed := true, recurses := true, apart := false }
def FnExactIsSimpleSaid : Prop := fnExactIsSimpleRow.holds Try.pinned (OpenSpec.ofChange fnExactIsSimpleSpec)

/-- ITS FALSE NEIGHBOUR: 'it returns false'. Refute it at one input. -/
def fnExactIsSimpleWrong : ChangeSpec := { name := "fnExactIsSimple", fn := fun _ => fun
  | [d] => { results := [.lit (.bool false)], args := [d] }
  | _ => none }
def FnExactIsSimpleWrongFalsely : Prop := fnExactIsSimpleRow.holds Try.pinned (OpenSpec.ofChange fnExactIsSimpleWrong)

/-- 'laws.FnExactInside': WHATEVER THE INPUT: true; the input reads as it did. -/
def fnExactInsideSpec : ChangeSpec := { name := "fnExactInside", fn := fun _ => fun
  | [d1, d2, d3] => { results := [.lit (.bool true)], args := [d1, d2, d3] }
  | _ => none }
def fnExactInsideRow : OpenClaim := { program := "ytekmnlagkoelcaa", sum := "f2ef21890373f392f0389708f92d2e525d1fbb07d33e17bd78ee56160ad1b65e", func := "loop.example/g00409/laws.FnExactInside", spec := "fnExactInside", unfollowed := true, recurses := true, apart := false }
def FnExactInsideSaid : Prop := fnExactInsideRow.holds Try.pinned (OpenSpec.ofChange fnExactInsideSpec)

/-- ITS FALSE NEIGHBOUR: 'it returns false'. Refute it at one input. -/
def fnExactInsideWrong : ChangeSpec := { name := "fnExactInside", fn := fun _ => fun
  | [d1, d2, d3] => { results := [.lit (.bool false)], args := [d1, d2, d3] }
  | _ => none }
def FnExactInsideWrongFalsely : Prop := fnExactInsideRow.holds Try.pinned (OpenSpec.ofChange fnExactInsideWrong)

/-- 'laws.FnExactWindingSum': WHATEVER THE INPUT: true; the input reads as it did. -/
def fnExactWindingSumSpec : ChangeSpec := { name := "fnExactWindingSum", fn := fun _ => fun
  | [d] => { results := [.lit (.bool true)], args := [d] }
  | _ => none }
def fnExactWindingSumRow : OpenClaim := { program := "ytekmnlagkoelcaa", sum := "f2ef21890373f392f0389708f92d2e525d1fbb07d33e17bd78ee56160ad1b65e", func := "loop.example/g00409/laws.FnExactWindingSum", spec := "fnExactWindingSum", unfollowed := true, recurses := true, apart := false }
def FnExactWindingSumSaid : Prop := fnExactWindingSumRow.holds Try.pinned (OpenSpec.ofChange fnExactWindingSumSpec)

/-- ITS FALSE NEIGHBOUR: 'it returns false'. Refute it at one input. -/
def fnExactWindingSumWrong : ChangeSpec := { name := "fnExactWindingSum", fn := fun _ => fun
  | [d] => { results := [.lit (.bool false)], args := [d] }
  | _ => none }
def FnExactWindingSumWrongFalsely : Prop := fnExactWindingSumRow.holds Try.pinned (OpenSpec.ofChange fnExactWindingSumWrong)

/-- 'laws.FnExactInnerPoints': WHATEVER THE INPUT: true; the input reads as it did. -/
def fnExactInnerPointsSpec : ChangeSpec := { name := "fnExactInnerPoints", fn := fun _ => fun
  | [d] => { results := [.lit (.bool true)], args := [d] }
  | _ => none }
def fnExactInnerPointsRow : OpenClaim := { program := "ytekmnlagkoelcaa", sum := "f2ef21890373f392f0389708f92d2e525d1fbb07d33e17bd78ee56160ad1b65e", func := "loop.example/g00409/laws.FnExactInnerPoints", spec := "fnExactInnerPoints", unfollowed := true, recurses := true, apart := false }
def FnExactInnerPointsSaid : Prop := fnExactInnerPointsRow.holds Try.pinned (OpenSpec.ofChange fnExactInnerPointsSpec)

/-- ITS FALSE NEIGHBOUR: 'it returns false'. Refute it at one input. -/
def fnExactInnerPointsWrong : ChangeSpec := { name := "fnExactInnerPoints", fn := fun _ => fun
  | [d] => { results := [.lit (.bool false)], args := [d] }
  | _ => none }
def FnExactInnerPointsWrongFalsely : Prop := fnExactInnerPointsRow.holds Try.pinned (OpenSpec.ofChange fnExactInnerPointsWrong)

/- THE SECOND FORM. 'bulk': how many values and letters a reading holds, each counted each time it is reached (what is shared counts as often as it is met; a slice's spare places count too). A statement '..UptoSaid' is the law's where the arguments, and the package variables that the reading takes, are together of bulk at most 1048576: NARROWER than '..Said'. Prove '..Said' where nothing that the law and all that it calls make is longer than what came in: it says more and counts as full. Else prove '..UptoSaid'. A law counts once. -/
mutual
def uptoBulk {H : Type} : DataW H → Nat
  | .lit (.string bytes) => bytes.length + 1
  | .lit _ => 1
  | .nil => 1
  | .ptr d => uptoBulk d + 1
  | .slice elems spare => uptoBulkAll elems + uptoBulkAll spare + 1
  | .agg parts => uptoBulkAll parts + 1
  | .iface _ d => uptoBulk d + 1
  | .map entries => uptoBulkEntries entries + 1
  | .held _ => 1
def uptoBulkAll {H : Type} : List (DataW H) → Nat
  | [] => 0
  | d :: r => uptoBulk d + uptoBulkAll r
def uptoBulkEntries {H : Type} : List (Lit × DataW H) → Nat
  | [] => 0
  | x :: r => uptoBulkEntry x + uptoBulkEntries r
def uptoBulkEntry {H : Type} : Lit × DataW H → Nat
  | (.string bytes, d) => bytes.length + uptoBulk d + 1
  | (_, d) => uptoBulk d + 1
 end
def uptoSmall : (H : Type) → List (DataW H) → Bool := fun _ ds => decide (uptoBulkAll ds ≤ 1048576)
def OpenSpec.upto (s : _root_.Go.ChangeSpec) : _root_.Go.OpenSpec := { _root_.Go.OpenSpec.ofChange s with cond := some uptoSmall }

/-- 'laws.FnExactBoxOf', WHERE WHAT IT READS IS OF BULK AT MOST 1048576: true; the input reads as it did. -/
def fnExactBoxOfUptoRow : OpenClaim := { program := "ytekmnlagkoelcaa", sum := "f2ef21890373f392f0389708f92d2e525d1fbb07d33e17bd78ee56160ad1b65e", func := "loop.example/g00409/laws.FnExactBoxOf", spec := "fnExactBoxOf", unfollowed := true, recurses := true, apart := false, narrowed := true }
def FnExactBoxOfUptoSaid : Prop := fnExactBoxOfUptoRow.holds Try.pinned (OpenSpec.upto fnExactBoxOfSpec)

/-- 'laws.FnExactSplitWay', WHERE WHAT IT READS IS OF BULK AT MOST 1048576: true; the input reads as it did. -/
def fnExactSplitWayUptoRow : OpenClaim := { program := "ytekmnlagkoelcaa", sum := "f2ef21890373f392f0389708f92d2e525d1fbb07d33e17bd78ee56160ad1b65e", func := "loop.example/g00409/laws.FnExactSplitWay", spec := "fnExactSplitWay", unfollowed := true, recurses := true, apart := false, narrowed := true }
def FnExactSplitWayUptoSaid : Prop := fnExactSplitWayUptoRow.holds Try.pinned (OpenSpec.upto fnExactSplitWaySpec)

/-- 'laws.FnExactMovePts', WHERE WHAT IT READS IS OF BULK AT MOST 1048576: true; the input reads as it did. -/
def fnExactMovePtsUptoRow : OpenClaim := { program := "ytekmnlagkoelcaa", sum := "f2ef21890373f392f0389708f92d2e525d1fbb07d33e17bd78ee56160ad1b65e", func := "loop.example/g00409/laws.FnExactMovePts", spec := "fnExactMovePts", unfollowed := true, recurses := true, apart := false, narrowed := true }
def FnExactMovePtsUptoSaid : Prop := fnExactMovePtsUptoRow.holds Try.pinned (OpenSpec.upto fnExactMovePtsSpec)

/-- 'laws.FnExactOnWay', WHERE WHAT IT READS IS OF BULK AT MOST 1048576: true; the input reads as it did. -/
def fnExactOnWayUptoRow : OpenClaim := { program := "ytekmnlagkoelcaa", sum := "f2ef21890373f392f0389708f92d2e525d1fbb07d33e17bd78ee56160ad1b65e", func := "loop.example/g00409/laws.FnExactOnWay", spec := "fnExactOnWay", unfollowed := true, recurses := true, apart := false, narrowed := true }
def FnExactOnWayUptoSaid : Prop := fnExactOnWayUptoRow.holds Try.pinned (OpenSpec.upto fnExactOnWaySpec)

/-- 'laws.FnExactTurnAll', WHERE WHAT IT READS IS OF BULK AT MOST 1048576: true; the input reads as it did. -/
def fnExactTurnAllUptoRow : OpenClaim := { program := "ytekmnlagkoelcaa", sum := "f2ef21890373f392f0389708f92d2e525d1fbb07d33e17bd78ee56160ad1b65e", func := "loop.example/g00409/laws.FnExactTurnAll", spec := "fnExactTurnAll", unfollowed := true, recurses := true, apart := false, narrowed := true }
def FnExactTurnAllUptoSaid : Prop := fnExactTurnAllUptoRow.holds Try.pinned (OpenSpec.upto fnExactTurnAllSpec)

/-- 'laws.FnExactBorderPoints', WHERE WHAT IT READS IS OF BULK AT MOST 1048576: true; the input reads as it did. -/
def fnExactBorderPointsUptoRow : OpenClaim := { program := "ytekmnlagkoelcaa", sum := "f2ef21890373f392f0389708f92d2e525d1fbb07d33e17bd78ee56160ad1b65e", func := "loop.example/g00409/laws.FnExactBorderPoints", spec := "fnExactBorderPoints", unfollowed := true, recurses := true, apart := false, narrowed := true }
def FnExactBorderPointsUptoSaid : Prop := fnExactBorderPointsUptoRow.holds Try.pinned (OpenSpec.upto fnExactBorderPointsSpec)

/-- 'laws.FnExactCrossingsAt', WHERE WHAT IT READS IS OF BULK AT MOST 1048576: true; the input reads as it did. -/
def fnExactCrossingsAtUptoRow : OpenClaim := { program := "ytekmnlagkoelcaa", sum := "f2ef21890373f392f0389708f92d2e525d1fbb07d33e17bd78ee56160ad1b65e", func := "loop.example/g00409/laws.FnExactCrossingsAt", spec := "fnExactCrossingsAt", unfollowed := true, recurses := true, apart := false, narrowed := true }
def FnExactCrossingsAtUptoSaid : Prop := fnExactCrossingsAtUptoRow.holds Try.pinned (OpenSpec.upto fnExactCrossingsAtSpec)

/-- 'laws.FnExactWindingAt', WHERE WHAT IT READS IS OF BULK AT MOST 1048576: true; the input reads as it did. -/
def fnExactWindingAtUptoRow : OpenClaim := { program := "ytekmnlagkoelcaa", sum := "f2ef21890373f392f0389708f92d2e525d1fbb07d33e17bd78ee56160ad1b65e", func := "loop.example/g00409/laws.FnExactWindingAt", spec := "fnExactWindingAt", unfollowed := true, recurses := true, apart := false, narrowed := true }
def FnExactWindingAtUptoSaid : Prop := fnExactWindingAtUptoRow.holds Try.pinned (OpenSpec.upto fnExactWindingAtSpec)

/-- 'laws.FnExactIsSimple', WHERE WHAT IT READS IS OF BULK AT MOST 1048576: true; the input reads as it did. -/
def fnExactIsSimpleUptoRow : OpenClaim := { program := "ytekmnlagkoelcaa", sum := "f2ef21890373f392f0389708f92d2e525d1fbb07d33e17bd78ee56160ad1b65e", func := "loop.example/g00409/laws.FnExactIsSimple", spec := "fnExactIsSimple", unfollowed := true, recurses := true, apart := false, narrowed := true }
def FnExactIsSimpleUptoSaid : Prop := fnExactIsSimpleUptoRow.holds Try.pinned (OpenSpec.upto fnExactIsSimpleSpec)

/-- 'laws.FnExactInside', WHERE WHAT IT READS IS OF BULK AT MOST 1048576: true; the input reads as it did. -/
def fnExactInsideUptoRow : OpenClaim := { program := "ytekmnlagkoelcaa", sum := "f2ef21890373f392f0389708f92d2e525d1fbb07d33e17bd78ee56160ad1b65e", func := "loop.example/g00409/laws.FnExactInside", spec := "fnExactInside", unfollowed := true, recurses := true, apart := false, narrowed := true }
def FnExactInsideUptoSaid : Prop := fnExactInsideUptoRow.holds Try.pinned (OpenSpec.upto fnExactInsideSpec)

/-- 'laws.FnExactWindingSum', WHERE WHAT IT READS IS OF BULK AT MOST 1048576: true; the input reads as it did. -/
def fnExactWindingSumUptoRow : OpenClaim := { program := "ytekmnlagkoelcaa", sum := "f2ef21890373f392f0389708f92d2e525d1fbb07d33e17bd78ee56160ad1b65e", func := "loop.example/g00409/laws.FnExactWindingSum", spec := "fnExactWindingSum", unfollowed := true, recurses := true, apart := false, narrowed := true }
def FnExactWindingSumUptoSaid : Prop := fnExactWindingSumUptoRow.holds Try.pinned (OpenSpec.upto fnExactWindingSumSpec)

/-- 'laws.FnExactInnerPoints', WHERE WHAT IT READS IS OF BULK AT MOST 1048576: true; the input reads as it did. -/
def fnExactInnerPointsUptoRow : OpenClaim := { program := "ytekmnlagkoelcaa", sum := "f2ef21890373f392f0389708f92d2e525d1fbb07d33e17bd78ee56160ad1b65e", func := "loop.example/g00409/laws.FnExactInnerPoints", spec := "fnExactInnerPoints", unfollowed := true, recurses := true, apart := false, narrowed := true }
def FnExactInnerPointsUptoSaid : Prop := fnExactInnerPointsUptoRow.holds Try.pinned (OpenSpec.upto fnExactInnerPointsSpec)

end Rows
end Go.Proofs.Ytekmnlagkoelcaa
