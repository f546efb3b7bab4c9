/-
  No cell of these rows narrows 'for every input' (looked for: loops, veiled, ifaces, maps, wideKeys, modest, calm, conditions, laid).
  DERIVED. THE GIVEN ROWS OF THIS SEAT. 12 by the template 'for every input the law returns true; each argument reads behind the call as it read before'; 0 by the template 'total and deterministic' (their statements: YtlmclblniflifaaTotals.lean).
  GIVEN WITH THE SEED: the statements are not yours to turn. If you find one false, say at which input.
  Laid BY PROGRAM, IN A SANDBOX (cutbox-rows.mjs): the forced cells as the released guide's own fill.sh prints them over the translation e07a19e0894faec9… (all of the seat's roots in one cut). By AI agents, Wed Nov 11 2026. No macro, syntax, notation, axiom, sorry.
-/
import Derived.Test.YtlmclblniflifaaChecked
import GoSem.Claim
import GoSem.ClaimJoined
import GoSem.ClaimMapViews
import Derived.JoinedTies
import Derived.KernelRfl
namespace Go.Proofs.Ytlmclblniflifaa
/- THE CELL 'sum', in the pinned program and in every row, IS THE sha256 OF THE DUMP (.gsa) THAT YtlmclblniflifaaProg.lean LOADS. Nothing in Lean hashes anything: it is a label: what it is worth is what the hold of that sum in a sandbox is worth. -/
noncomputable def Try.pinned : Pinned := { name := "ytlmclblniflifaa", sum := "e07a19e0894faec9251f3225b2a8e472d5c078267b4fee94e783955621905049", checked := Try.checked }
namespace Rows
def none {H : Type} : Left H := { results := [], args := [] }

/-- 'laws.FnExactGoodPt': WHATEVER THE INPUT: true; the input reads as it did. -/
def fnExactGoodPtSpec : ChangeSpec := { name := "fnExactGoodPt", fn := fun _ => fun
  | [d] => { results := [.lit (.bool true)], args := [d] }
  | _ => none }
def fnExactGoodPtRow : OpenClaim := { program := "ytlmclblniflifaa", sum := "e07a19e0894faec9251f3225b2a8e472d5c078267b4fee94e783955621905049", func := "loop.example/g00409/laws.FnExactGoodPt", spec := "fnExactGoodPt", apart := false }
def FnExactGoodPtSaid : Prop := fnExactGoodPtRow.holds Try.pinned (OpenSpec.ofChange fnExactGoodPtSpec)

/-- ITS FALSE NEIGHBOUR: 'it returns false'. Refute it at one input. -/
def fnExactGoodPtWrong : ChangeSpec := { name := "fnExactGoodPt", fn := fun _ => fun
  | [d] => { results := [.lit (.bool false)], args := [d] }
  | _ => none }
def FnExactGoodPtWrongFalsely : Prop := fnExactGoodPtRow.holds Try.pinned (OpenSpec.ofChange fnExactGoodPtWrong)

/-- 'laws.FnExactGoodWindow': WHATEVER THE INPUT: true; the input reads as it did. -/
def fnExactGoodWindowSpec : ChangeSpec := { name := "fnExactGoodWindow", fn := fun _ => fun
  | [d] => { results := [.lit (.bool true)], args := [d] }
  | _ => none }
def fnExactGoodWindowRow : OpenClaim := { program := "ytlmclblniflifaa", sum := "e07a19e0894faec9251f3225b2a8e472d5c078267b4fee94e783955621905049", func := "loop.example/g00409/laws.FnExactGoodWindow", spec := "fnExactGoodWindow", apart := false }
def FnExactGoodWindowSaid : Prop := fnExactGoodWindowRow.holds Try.pinned (OpenSpec.ofChange fnExactGoodWindowSpec)

/-- ITS FALSE NEIGHBOUR: 'it returns false'. Refute it at one input. -/
def fnExactGoodWindowWrong : ChangeSpec := { name := "fnExactGoodWindow", fn := fun _ => fun
  | [d] => { results := [.lit (.bool false)], args := [d] }
  | _ => none }
def FnExactGoodWindowWrongFalsely : Prop := fnExactGoodWindowRow.holds Try.pinned (OpenSpec.ofChange fnExactGoodWindowWrong)

/-- 'laws.FnExactGcdInt': WHATEVER THE INPUT: true; the input reads as it did. -/
def fnExactGcdIntSpec : ChangeSpec := { name := "fnExactGcdInt", fn := fun _ => fun
  | [d1, d2] => { results := [.lit (.bool true)], args := [d1, d2] }
  | _ => none }
def fnExactGcdIntRow : OpenClaim := { program := "ytlmclblniflifaa", sum := "e07a19e0894faec9251f3225b2a8e472d5c078267b4fee94e783955621905049", func := "loop.example/g00409/laws.FnExactGcdInt", spec := "fnExactGcdInt", apart := false }
def FnExactGcdIntSaid : Prop := fnExactGcdIntRow.holds Try.pinned (OpenSpec.ofChange fnExactGcdIntSpec)

/-- ITS FALSE NEIGHBOUR: 'it returns false'. Refute it at one input. -/
def fnExactGcdIntWrong : ChangeSpec := { name := "fnExactGcdInt", fn := fun _ => fun
  | [d1, d2] => { results := [.lit (.bool false)], args := [d1, d2] }
  | _ => none }
def FnExactGcdIntWrongFalsely : Prop := fnExactGcdIntRow.holds Try.pinned (OpenSpec.ofChange fnExactGcdIntWrong)

/-- 'laws.FnExactOnSegment': WHATEVER THE INPUT: true; the input reads as it did. -/
def fnExactOnSegmentSpec : ChangeSpec := { name := "fnExactOnSegment", fn := fun _ => fun
  | [d1, d2, d3] => { results := [.lit (.bool true)], args := [d1, d2, d3] }
  | _ => none }
def fnExactOnSegmentRow : OpenClaim := { program := "ytlmclblniflifaa", sum := "e07a19e0894faec9251f3225b2a8e472d5c078267b4fee94e783955621905049", func := "loop.example/g00409/laws.FnExactOnSegment", spec := "fnExactOnSegment", unfollowed := true, recurses := true, apart := false }
def FnExactOnSegmentSaid : Prop := fnExactOnSegmentRow.holds Try.pinned (OpenSpec.ofChange fnExactOnSegmentSpec)

/-- ITS FALSE NEIGHBOUR: 'it returns false'. Refute it at one input. -/
def fnExactOnSegmentWrong : ChangeSpec := { name := "fnExactOnSegment", fn := fun _ => fun
  | [d1, d2, d3] => { results := [.lit (.bool false)], args := [d1, d2, d3] }
  | _ => none }
def FnExactOnSegmentWrongFalsely : Prop := fnExactOnSegmentRow.holds Try.pinned (OpenSpec.ofChange fnExactOnSegmentWrong)

/-- 'laws.FnExactOrient': WHATEVER THE INPUT: true; the input reads as it did. -/
def fnExactOrientSpec : ChangeSpec := { name := "fnExactOrient", fn := fun _ => fun
  | [d1, d2, d3] => { results := [.lit (.bool true)], args := [d1, d2, d3] }
  | _ => none }
def fnExactOrientRow : OpenClaim := { program := "ytlmclblniflifaa", sum := "e07a19e0894faec9251f3225b2a8e472d5c078267b4fee94e783955621905049", func := "loop.example/g00409/laws.FnExactOrient", spec := "fnExactOrient", unfollowed := true, recurses := true, apart := false }
def FnExactOrientSaid : Prop := fnExactOrientRow.holds Try.pinned (OpenSpec.ofChange fnExactOrientSpec)

/-- ITS FALSE NEIGHBOUR: 'it returns false'. Refute it at one input. -/
def fnExactOrientWrong : ChangeSpec := { name := "fnExactOrient", fn := fun _ => fun
  | [d1, d2, d3] => { results := [.lit (.bool false)], args := [d1, d2, d3] }
  | _ => none }
def FnExactOrientWrongFalsely : Prop := fnExactOrientRow.holds Try.pinned (OpenSpec.ofChange fnExactOrientWrong)

/-- 'laws.FnExactLessPt': WHATEVER THE INPUT: true; the input reads as it did. -/
def fnExactLessPtSpec : ChangeSpec := { name := "fnExactLessPt", fn := fun _ => fun
  | [d1, d2] => { results := [.lit (.bool true)], args := [d1, d2] }
  | _ => none }
def fnExactLessPtRow : OpenClaim := { program := "ytlmclblniflifaa", sum := "e07a19e0894faec9251f3225b2a8e472d5c078267b4fee94e783955621905049", func := "loop.example/g00409/laws.FnExactLessPt", spec := "fnExactLessPt", unfollowed := true, recurses := true, apart := false }
def FnExactLessPtSaid : Prop := fnExactLessPtRow.holds Try.pinned (OpenSpec.ofChange fnExactLessPtSpec)

/-- ITS FALSE NEIGHBOUR: 'it returns false'. Refute it at one input. -/
def fnExactLessPtWrong : ChangeSpec := { name := "fnExactLessPt", fn := fun _ => fun
  | [d1, d2] => { results := [.lit (.bool false)], args := [d1, d2] }
  | _ => none }
def FnExactLessPtWrongFalsely : Prop := fnExactLessPtRow.holds Try.pinned (OpenSpec.ofChange fnExactLessPtWrong)

/-- 'laws.FnExactInTriangle': WHATEVER THE INPUT: true; the input reads as it did. -/
def fnExactInTriangleSpec : ChangeSpec := { name := "fnExactInTriangle", fn := fun _ => fun
  | [d1, d2, d3, d4] => { results := [.lit (.bool true)], args := [d1, d2, d3, d4] }
  | _ => none }
def fnExactInTriangleRow : OpenClaim := { program := "ytlmclblniflifaa", sum := "e07a19e0894faec9251f3225b2a8e472d5c078267b4fee94e783955621905049", func := "loop.example/g00409/laws.FnExactInTriangle", spec := "fnExactInTriangle", unfollowed := true, recurses := true, apart := false }
def FnExactInTriangleSaid : Prop := fnExactInTriangleRow.holds Try.pinned (OpenSpec.ofChange fnExactInTriangleSpec)

/-- ITS FALSE NEIGHBOUR: 'it returns false'. Refute it at one input. -/
def fnExactInTriangleWrong : ChangeSpec := { name := "fnExactInTriangle", fn := fun _ => fun
  | [d1, d2, d3, d4] => { results := [.lit (.bool false)], args := [d1, d2, d3, d4] }
  | _ => none }
def FnExactInTriangleWrongFalsely : Prop := fnExactInTriangleRow.holds Try.pinned (OpenSpec.ofChange fnExactInTriangleWrong)

/-- 'laws.FnExactSegmentsMeet': WHATEVER THE INPUT: true; the input reads as it did. -/
def fnExactSegmentsMeetSpec : ChangeSpec := { name := "fnExactSegmentsMeet", fn := fun _ => fun
  | [d1, d2, d3, d4] => { results := [.lit (.bool true)], args := [d1, d2, d3, d4] }
  | _ => none }
def fnExactSegmentsMeetRow : OpenClaim := { program := "ytlmclblniflifaa", sum := "e07a19e0894faec9251f3225b2a8e472d5c078267b4fee94e783955621905049", func := "loop.example/g00409/laws.FnExactSegmentsMeet", spec := "fnExactSegmentsMeet", unfollowed := true, recurses := true, apart := false }
def FnExactSegmentsMeetSaid : Prop := fnExactSegmentsMeetRow.holds Try.pinned (OpenSpec.ofChange fnExactSegmentsMeetSpec)

/-- ITS FALSE NEIGHBOUR: 'it returns false'. Refute it at one input. -/
def fnExactSegmentsMeetWrong : ChangeSpec := { name := "fnExactSegmentsMeet", fn := fun _ => fun
  | [d1, d2, d3, d4] => { results := [.lit (.bool false)], args := [d1, d2, d3, d4] }
  | _ => none }
def FnExactSegmentsMeetWrongFalsely : Prop := fnExactSegmentsMeetRow.holds Try.pinned (OpenSpec.ofChange fnExactSegmentsMeetWrong)

/-- 'laws.FnExactWidestIn': WHATEVER THE INPUT: true; the input reads as it did. -/
def fnExactWidestInSpec : ChangeSpec := { name := "fnExactWidestIn", fn := fun _ => fun
  | [d] => { results := [.lit (.bool true)], args := [d] }
  | _ => none }
def fnExactWidestInRow : OpenClaim := { program := "ytlmclblniflifaa", sum := "e07a19e0894faec9251f3225b2a8e472d5c078267b4fee94e783955621905049", func := "loop.example/g00409/laws.FnExactWidestIn", spec := "fnExactWidestIn", unfollowed := true, recurses := true, apart := false }
def FnExactWidestInSaid : Prop := fnExactWidestInRow.holds Try.pinned (OpenSpec.ofChange fnExactWidestInSpec)

/-- ITS FALSE NEIGHBOUR: 'it returns false'. Refute it at one input. -/
def fnExactWidestInWrong : ChangeSpec := { name := "fnExactWidestIn", fn := fun _ => fun
  | [d] => { results := [.lit (.bool false)], args := [d] }
  | _ => none }
def FnExactWidestInWrongFalsely : Prop := fnExactWidestInRow.holds Try.pinned (OpenSpec.ofChange fnExactWidestInWrong)

/-- 'laws.FnExactSees': WHATEVER THE INPUT: true; the input reads as it did. -/
def fnExactSeesSpec : ChangeSpec := { name := "fnExactSees", fn := fun _ => fun
  | [d1, d2, d3] => { results := [.lit (.bool true)], args := [d1, d2, d3] }
  | _ => none }
def fnExactSeesRow : OpenClaim := { program := "ytlmclblniflifaa", sum := "e07a19e0894faec9251f3225b2a8e472d5c078267b4fee94e783955621905049", func := "loop.example/g00409/laws.FnExactSees", spec := "fnExactSees", unfollowed := true, recurses := true, apart := false }
def FnExactSeesSaid : Prop := fnExactSeesRow.holds Try.pinned (OpenSpec.ofChange fnExactSeesSpec)

/-- ITS FALSE NEIGHBOUR: 'it returns false'. Refute it at one input. -/
def fnExactSeesWrong : ChangeSpec := { name := "fnExactSees", fn := fun _ => fun
  | [d1, d2, d3] => { results := [.lit (.bool false)], args := [d1, d2, d3] }
  | _ => none }
def FnExactSeesWrongFalsely : Prop := fnExactSeesRow.holds Try.pinned (OpenSpec.ofChange fnExactSeesWrong)

/-- 'laws.FnExactAreaTwice': WHATEVER THE INPUT: true; the input reads as it did. -/
def fnExactAreaTwiceSpec : ChangeSpec := { name := "fnExactAreaTwice", fn := fun _ => fun
  | [d] => { results := [.lit (.bool true)], args := [d] }
  | _ => none }
def fnExactAreaTwiceRow : OpenClaim := { program := "ytlmclblniflifaa", sum := "e07a19e0894faec9251f3225b2a8e472d5c078267b4fee94e783955621905049", func := "loop.example/g00409/laws.FnExactAreaTwice", spec := "fnExactAreaTwice", unfollowed := true, recurses := true, apart := false }
def FnExactAreaTwiceSaid : Prop := fnExactAreaTwiceRow.holds Try.pinned (OpenSpec.ofChange fnExactAreaTwiceSpec)

/-- ITS FALSE NEIGHBOUR: 'it returns false'. Refute it at one input. -/
def fnExactAreaTwiceWrong : ChangeSpec := { name := "fnExactAreaTwice", fn := fun _ => fun
  | [d] => { results := [.lit (.bool false)], args := [d] }
  | _ => none }
def FnExactAreaTwiceWrongFalsely : Prop := fnExactAreaTwiceRow.holds Try.pinned (OpenSpec.ofChange fnExactAreaTwiceWrong)

/-- 'laws.FnExactCropOf': WHATEVER THE INPUT: true; the input reads as it did. -/
def fnExactCropOfSpec : ChangeSpec := { name := "fnExactCropOf", fn := fun _ => fun
  | [d1, d2, d3] => { results := [.lit (.bool true)], args := [d1, d2, d3] }
  | _ => none }
def fnExactCropOfRow : OpenClaim := { program := "ytlmclblniflifaa", sum := "e07a19e0894faec9251f3225b2a8e472d5c078267b4fee94e783955621905049", func := "loop.example/g00409/laws.FnExactCropOf", spec := "fnExactCropOf", unfollowed := true, recurses := true, apart := false }
def FnExactCropOfSaid : Prop := fnExactCropOfRow.holds Try.pinned (OpenSpec.ofChange fnExactCropOfSpec)

/-- ITS FALSE NEIGHBOUR: 'it returns false'. Refute it at one input. -/
def fnExactCropOfWrong : ChangeSpec := { name := "fnExactCropOf", fn := fun _ => fun
  | [d1, d2, d3] => { results := [.lit (.bool false)], args := [d1, d2, d3] }
  | _ => none }
def FnExactCropOfWrongFalsely : Prop := fnExactCropOfRow.holds Try.pinned (OpenSpec.ofChange fnExactCropOfWrong)

/- THE SECOND FORM. 'bulk': how many values and letters a reading holds, each counted each time it is reached (what is shared counts as often as it is met; a slice's spare places count too). A statement '..UptoSaid' is the law's where the arguments, and the package variables that the reading takes, are together of bulk at most 1048576: NARROWER than '..Said'. Prove '..Said' where nothing that the law and all that it calls make is longer than what came in: it says more and counts as full. Else prove '..UptoSaid'. A law counts once. -/
mutual
def uptoBulk {H : Type} : DataW H → Nat
  | .lit (.string bytes) => bytes.length + 1
  | .lit _ => 1
  | .nil => 1
  | .ptr d => uptoBulk d + 1
  | .slice elems spare => uptoBulkAll elems + uptoBulkAll spare + 1
  | .agg parts => uptoBulkAll parts + 1
  | .iface _ d => uptoBulk d + 1
  | .map entries => uptoBulkEntries entries + 1
  | .held _ => 1
def uptoBulkAll {H : Type} : List (DataW H) → Nat
  | [] => 0
  | d :: r => uptoBulk d + uptoBulkAll r
def uptoBulkEntries {H : Type} : List (Lit × DataW H) → Nat
  | [] => 0
  | x :: r => uptoBulkEntry x + uptoBulkEntries r
def uptoBulkEntry {H : Type} : Lit × DataW H → Nat
  | (.string bytes, d) => bytes.length + uptoBulk d + 1
  | (_, d) => uptoBulk d + 1
 end
def uptoSmall : (H : Type) → List (DataW H) → Bool := fun _ ds => decide (uptoBulkAll ds ≤ 1048576)
def OpenSpec.upto (s : _root_.Go.ChangeSpec) : _root_.Go.OpenSpec := { _root_.Go.OpenSpec.ofChange s with cond := some uptoSmall }

/-- 'laws.FnExactGoodPt', WHERE WHAT IT READS IS OF BULK AT MOST 1048576: true; the input reads as it did. -/
def fnExactGoodPtUptoRow : OpenClaim := { program := "ytlmclblniflifaa", sum := "e07a19e0894faec9251f3225b2a8e472d5c078267b4fee94e783955621905049", func := "loop.example/g00409/laws.FnExactGoodPt", spec := "fnExactGoodPt", apart := false, narrowed := true }
def FnExactGoodPtUptoSaid : Prop := fnExactGoodPtUptoRow.holds Try.pinned (OpenSpec.upto fnExactGoodPtSpec)

/-- 'laws.FnExactGoodWindow', WHERE WHAT IT READS IS OF BULK AT MOST 1048576: true; the input reads as it did. -/
def fnExactGoodWindowUptoRow : OpenClaim := { program := "ytlmclblniflifaa", sum := "e07a19e0894faec9251f3225b2a8e472d5c078267b4fee94e783955621905049", func := "loop.example/g00409/laws.FnExactGoodWindow", spec := "fnExactGoodWindow", apart := false, narrowed := true }
def FnExactGoodWindowUptoSaid : Prop := fnExactGoodWindowUptoRow.holds Try.pinned (OpenSpec.upto fnExactGoodWindowSpec)

/-- 'laws.FnExactGcdInt', WHERE WHAT IT READS IS OF BULK AT MOST 1048576: true; the input reads as it did. -/
def fnExactGcdIntUptoRow : OpenClaim := { program := "ytlmclblniflifaa", sum := "e07a19e0894faec9251f3225b2a8e472d5c078267b4fee94e783955621905049", func := "loop.example/g00409/laws.FnExactGcdInt", spec := "fnExactGcdInt", apart := false, narrowed := true }
def FnExactGcdIntUptoSaid : Prop := fnExactGcdIntUptoRow.holds Try.pinned (OpenSpec.upto fnExactGcdIntSpec)

/-- 'laws.FnExactOnSegment', WHERE WHAT IT READS IS OF BULK AT MOST 1048576: true; the input reads as it did. -/
def fnExactOnSegmentUptoRow : OpenClaim := { program := "ytlmclblniflifaa", sum := "e07a19e0894faec9251f3225b2a8e472d5c078267b4fee94e783955621905049", func := "loop.example/g00409/laws.FnExactOnSegment", spec := "fnExactOnSegment", unfollowed := true, recurses := true, apart := false, narrowed := true }
def FnExactOnSegmentUptoSaid : Prop := fnExactOnSegmentUptoRow.holds Try.pinned (OpenSpec.upto fnExactOnSegmentSpec)

/-- 'laws.FnExactOrient', WHERE WHAT IT READS IS OF BULK AT MOST 1048576: true; the input reads as it did. -/
def fnExactOrientUptoRow : OpenClaim := { program := "ytlmclblniflifaa", sum := "e07a19e0894faec9251f3225b2a8e472d5c078267b4fee94e783955621905049", func := "loop.example/g00409/laws.FnExactOrient", spec := "fnExactOrient", unfollowed := true, recurses := true, apart := false, narrowed := true }
def FnExactOrientUptoSaid : Prop := fnExactOrientUptoRow.holds Try.pinned (OpenSpec.upto fnExactOrientSpec)

/-- 'laws.FnExactLessPt', WHERE WHAT IT READS IS OF BULK AT MOST 1048576: true; the input reads as it did. -/
def fnExactLessPtUptoRow : OpenClaim := { program := "ytlmclblniflifaa", sum := "e07a19e0894faec9251f3225b2a8e472d5c078267b4fee94e783955621905049", func := "loop.example/g00409/laws.FnExactLessPt", spec := "fnExactLessPt", unfollowed := true, recurses := true, apart := false, narrowed := true }
def FnExactLessPtUptoSaid : Prop := fnExactLessPtUptoRow.holds Try.pinned (OpenSpec.upto fnExactLessPtSpec)

/-- 'laws.FnExactInTriangle', WHERE WHAT IT READS IS OF BULK AT MOST 1048576: true; the input reads as it did. -/
def fnExactInTriangleUptoRow : OpenClaim := { program := "ytlmclblniflifaa", sum := "e07a19e0894faec9251f3225b2a8e472d5c078267b4fee94e783955621905049", func := "loop.example/g00409/laws.FnExactInTriangle", spec := "fnExactInTriangle", unfollowed := true, recurses := true, apart := false, narrowed := true }
def FnExactInTriangleUptoSaid : Prop := fnExactInTriangleUptoRow.holds Try.pinned (OpenSpec.upto fnExactInTriangleSpec)

/-- 'laws.FnExactSegmentsMeet', WHERE WHAT IT READS IS OF BULK AT MOST 1048576: true; the input reads as it did. -/
def fnExactSegmentsMeetUptoRow : OpenClaim := { program := "ytlmclblniflifaa", sum := "e07a19e0894faec9251f3225b2a8e472d5c078267b4fee94e783955621905049", func := "loop.example/g00409/laws.FnExactSegmentsMeet", spec := "fnExactSegmentsMeet", unfollowed := true, recurses := true, apart := false, narrowed := true }
def FnExactSegmentsMeetUptoSaid : Prop := fnExactSegmentsMeetUptoRow.holds Try.pinned (OpenSpec.upto fnExactSegmentsMeetSpec)

/-- 'laws.FnExactWidestIn', WHERE WHAT IT READS IS OF BULK AT MOST 1048576: true; the input reads as it did. -/
def fnExactWidestInUptoRow : OpenClaim := { program := "ytlmclblniflifaa", sum := "e07a19e0894faec9251f3225b2a8e472d5c078267b4fee94e783955621905049", func := "loop.example/g00409/laws.FnExactWidestIn", spec := "fnExactWidestIn", unfollowed := true, recurses := true, apart := false, narrowed := true }
def FnExactWidestInUptoSaid : Prop := fnExactWidestInUptoRow.holds Try.pinned (OpenSpec.upto fnExactWidestInSpec)

/-- 'laws.FnExactSees', WHERE WHAT IT READS IS OF BULK AT MOST 1048576: true; the input reads as it did. -/
def fnExactSeesUptoRow : OpenClaim := { program := "ytlmclblniflifaa", sum := "e07a19e0894faec9251f3225b2a8e472d5c078267b4fee94e783955621905049", func := "loop.example/g00409/laws.FnExactSees", spec := "fnExactSees", unfollowed := true, recurses := true, apart := false, narrowed := true }
def FnExactSeesUptoSaid : Prop := fnExactSeesUptoRow.holds Try.pinned (OpenSpec.upto fnExactSeesSpec)

/-- 'laws.FnExactAreaTwice', WHERE WHAT IT READS IS OF BULK AT MOST 1048576: true; the input reads as it did. -/
def fnExactAreaTwiceUptoRow : OpenClaim := { program := "ytlmclblniflifaa", sum := "e07a19e0894faec9251f3225b2a8e472d5c078267b4fee94e783955621905049", func := "loop.example/g00409/laws.FnExactAreaTwice", spec := "fnExactAreaTwice", unfollowed := true, recurses := true, apart := false, narrowed := true }
def FnExactAreaTwiceUptoSaid : Prop := fnExactAreaTwiceUptoRow.holds Try.pinned (OpenSpec.upto fnExactAreaTwiceSpec)

/-- 'laws.FnExactCropOf', WHERE WHAT IT READS IS OF BULK AT MOST 1048576: true; the input reads as it did. -/
def fnExactCropOfUptoRow : OpenClaim := { program := "ytlmclblniflifaa", sum := "e07a19e0894faec9251f3225b2a8e472d5c078267b4fee94e783955621905049", func := "loop.example/g00409/laws.FnExactCropOf", spec := "fnExactCropOf", unfollowed := true, recurses := true, apart := false, narrowed := true }
def FnExactCropOfUptoSaid : Prop := fnExactCropOfUptoRow.holds Try.pinned (OpenSpec.upto fnExactCropOfSpec)

end Rows
end Go.Proofs.Ytlmclblniflifaa
