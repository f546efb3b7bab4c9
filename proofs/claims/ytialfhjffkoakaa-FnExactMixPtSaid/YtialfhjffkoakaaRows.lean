/-
  No cell of these rows narrows 'for every input' (looked for: loops, veiled, ifaces, maps, wideKeys, modest, calm, conditions, laid).
  DERIVED. THE GIVEN ROWS OF THIS SEAT. 6 by the template 'for every input the law returns true; each argument reads behind the call as it read before'; 0 by the template 'total and deterministic' (their statements: YtialfhjffkoakaaTotals.lean).
  GIVEN WITH THE SEED: the statements are not yours to turn. If you find one false, say at which input.
  Laid BY PROGRAM, IN A SANDBOX (cutbox-rows.mjs): the forced cells as the released guide's own fill.sh prints them over the translation 8e79ddcaef1e3a82… (all of the seat's roots in one cut). By AI agents, Wed Nov 11 2026. No macro, syntax, notation, axiom, sorry.
-/
import Derived.Test.YtialfhjffkoakaaChecked
import GoSem.Claim
import GoSem.ClaimJoined
import GoSem.ClaimMapViews
import Derived.JoinedTies
import Derived.KernelRfl
namespace Go.Proofs.Ytialfhjffkoakaa
/- THE CELL 'sum', in the pinned program and in every row, IS THE sha256 OF THE DUMP (.gsa) THAT YtialfhjffkoakaaProg.lean LOADS. Nothing in Lean hashes anything: it is a label: what it is worth is what the hold of that sum in a sandbox is worth. -/
noncomputable def Try.pinned : Pinned := { name := "ytialfhjffkoakaa", sum := "8e79ddcaef1e3a82aaafcfa318e1bbc02f9e6177346b0b7bc6d40ba853aafbf9", checked := Try.checked }
namespace Rows
def none {H : Type} : Left H := { results := [], args := [] }

/-- 'laws.FnExactSumOf': WHATEVER THE INPUT: true; the input reads as it did. -/
def fnExactSumOfSpec : ChangeSpec := { name := "fnExactSumOf", fn := fun _ => fun
  | [d] => { results := [.lit (.bool true)], args := [d] }
  | _ => none }
def fnExactSumOfRow : OpenClaim := { program := "ytialfhjffkoakaa", sum := "8e79ddcaef1e3a82aaafcfa318e1bbc02f9e6177346b0b7bc6d40ba853aafbf9", func := "loop.example/g00409/laws.FnExactSumOf", spec := "fnExactSumOf", unfollowed := true, recurses := true, apart := false }
def FnExactSumOfSaid : Prop := fnExactSumOfRow.holds Try.pinned (OpenSpec.ofChange fnExactSumOfSpec)

/-- ITS FALSE NEIGHBOUR: 'it returns false'. Refute it at one input. -/
def fnExactSumOfWrong : ChangeSpec := { name := "fnExactSumOf", fn := fun _ => fun
  | [d] => { results := [.lit (.bool false)], args := [d] }
  | _ => none }
def FnExactSumOfWrongFalsely : Prop := fnExactSumOfRow.holds Try.pinned (OpenSpec.ofChange fnExactSumOfWrong)

/-- 'laws.FnExactMixPt': WHATEVER THE INPUT: true; the input reads as it did. -/
def fnExactMixPtSpec : ChangeSpec := { name := "fnExactMixPt", fn := fun _ => fun
  | [d1, d2, d3] => { results := [.lit (.bool true)], args := [d1, d2, d3] }
  | _ => none }
def fnExactMixPtRow : OpenClaim := { program := "ytialfhjffkoakaa", sum := "8e79ddcaef1e3a82aaafcfa318e1bbc02f9e6177346b0b7bc6d40ba853aafbf9", func := "loop.example/g00409/laws.FnExactMixPt", spec := "fnExactMixPt", unfollowed := true, recurses := true, apart := false }
def FnExactMixPtSaid : Prop := fnExactMixPtRow.holds Try.pinned (OpenSpec.ofChange fnExactMixPtSpec)

/-- ITS FALSE NEIGHBOUR: 'it returns false'. Refute it at one input. -/
def fnExactMixPtWrong : ChangeSpec := { name := "fnExactMixPt", fn := fun _ => fun
  | [d1, d2, d3] => { results := [.lit (.bool false)], args := [d1, d2, d3] }
  | _ => none }
def FnExactMixPtWrongFalsely : Prop := fnExactMixPtRow.holds Try.pinned (OpenSpec.ofChange fnExactMixPtWrong)

/-- 'laws.FnExactCurveOf': WHATEVER THE INPUT: true; the input reads as it did. -/
def fnExactCurveOfSpec : ChangeSpec := { name := "fnExactCurveOf", fn := fun _ => fun
  | [d] => { results := [.lit (.bool true)], args := [d] }
  | _ => none }
def fnExactCurveOfRow : OpenClaim := { program := "ytialfhjffkoakaa", sum := "8e79ddcaef1e3a82aaafcfa318e1bbc02f9e6177346b0b7bc6d40ba853aafbf9", func := "loop.example/g00409/laws.FnExactCurveOf", spec := "fnExactCurveOf", unfollowed := true, recurses := true, apart := false }
def FnExactCurveOfSaid : Prop := fnExactCurveOfRow.holds Try.pinned (OpenSpec.ofChange fnExactCurveOfSpec)

/-- ITS FALSE NEIGHBOUR: 'it returns false'. Refute it at one input. -/
def fnExactCurveOfWrong : ChangeSpec := { name := "fnExactCurveOf", fn := fun _ => fun
  | [d] => { results := [.lit (.bool false)], args := [d] }
  | _ => none }
def FnExactCurveOfWrongFalsely : Prop := fnExactCurveOfRow.holds Try.pinned (OpenSpec.ofChange fnExactCurveOfWrong)

/-- 'laws.FnExactRingOf': WHATEVER THE INPUT: true; the input reads as it did. -/
def fnExactRingOfSpec : ChangeSpec := { name := "fnExactRingOf", fn := fun _ => fun
  | [d] => { results := [.lit (.bool true)], args := [d] }
  | _ => none }
def fnExactRingOfRow : OpenClaim := { program := "ytialfhjffkoakaa", sum := "8e79ddcaef1e3a82aaafcfa318e1bbc02f9e6177346b0b7bc6d40ba853aafbf9", func := "loop.example/g00409/laws.FnExactRingOf", spec := "fnExactRingOf", unfollowed := true, recurses := true, apart := false }
def FnExactRingOfSaid : Prop := fnExactRingOfRow.holds Try.pinned (OpenSpec.ofChange fnExactRingOfSpec)

/-- ITS FALSE NEIGHBOUR: 'it returns false'. Refute it at one input. -/
def fnExactRingOfWrong : ChangeSpec := { name := "fnExactRingOf", fn := fun _ => fun
  | [d] => { results := [.lit (.bool false)], args := [d] }
  | _ => none }
def FnExactRingOfWrongFalsely : Prop := fnExactRingOfRow.holds Try.pinned (OpenSpec.ofChange fnExactRingOfWrong)

/-- 'laws.FnExactFlipRing': WHATEVER THE INPUT: true; the input reads as it did. -/
def fnExactFlipRingSpec : ChangeSpec := { name := "fnExactFlipRing", fn := fun _ => fun
  | [d] => { results := [.lit (.bool true)], args := [d] }
  | _ => none }
def fnExactFlipRingRow : OpenClaim := { program := "ytialfhjffkoakaa", sum := "8e79ddcaef1e3a82aaafcfa318e1bbc02f9e6177346b0b7bc6d40ba853aafbf9", func := "loop.example/g00409/laws.FnExactFlipRing", spec := "fnExactFlipRing", unfollowed := true, recurses := true, apart := false }
def FnExactFlipRingSaid : Prop := fnExactFlipRingRow.holds Try.pinned (OpenSpec.ofChange fnExactFlipRingSpec)

/-- ITS FALSE NEIGHBOUR: 'it returns false'. Refute it at one input. -/
def fnExactFlipRingWrong : ChangeSpec := { name := "fnExactFlipRing", fn := fun _ => fun
  | [d] => { results := [.lit (.bool false)], args := [d] }
  | _ => none }
def FnExactFlipRingWrongFalsely : Prop := fnExactFlipRingRow.holds Try.pinned (OpenSpec.ofChange fnExactFlipRingWrong)

/-- 'laws.FnExactReverseCurve': WHATEVER THE INPUT: true; the input reads as it did. -/
def fnExactReverseCurveSpec : ChangeSpec := { name := "fnExactReverseCurve", fn := fun _ => fun
  | [d] => { results := [.lit (.bool true)], args := [d] }
  | _ => none }
def fnExactReverseCurveRow : OpenClaim := { program := "ytialfhjffkoakaa", sum := "8e79ddcaef1e3a82aaafcfa318e1bbc02f9e6177346b0b7bc6d40ba853aafbf9", func := "loop.example/g00409/laws.FnExactReverseCurve", spec := "fnExactReverseCurve", unfollowed := true, recurses := true, apart := false }
def FnExactReverseCurveSaid : Prop := fnExactReverseCurveRow.holds Try.pinned (OpenSpec.ofChange fnExactReverseCurveSpec)

/-- ITS FALSE NEIGHBOUR: 'it returns false'. Refute it at one input. -/
def fnExactReverseCurveWrong : ChangeSpec := { name := "fnExactReverseCurve", fn := fun _ => fun
  | [d] => { results := [.lit (.bool false)], args := [d] }
  | _ => none }
def FnExactReverseCurveWrongFalsely : Prop := fnExactReverseCurveRow.holds Try.pinned (OpenSpec.ofChange fnExactReverseCurveWrong)

/- THE SECOND FORM. 'bulk': how many values and letters a reading holds, each counted each time it is reached (what is shared counts as often as it is met; a slice's spare places count too). A statement '..UptoSaid' is the law's where the arguments, and the package variables that the reading takes, are together of bulk at most 1048576: NARROWER than '..Said'. Prove '..Said' where nothing that the law and all that it calls make is longer than what came in: it says more and counts as full. Else prove '..UptoSaid'. A law counts once. -/
mutual
def uptoBulk {H : Type} : DataW H → Nat
  | .lit (.string bytes) => bytes.length + 1
  | .lit _ => 1
  | .nil => 1
  | .ptr d => uptoBulk d + 1
  | .slice elems spare => uptoBulkAll elems + uptoBulkAll spare + 1
  | .agg parts => uptoBulkAll parts + 1
  | .iface _ d => uptoBulk d + 1
  | .map entries => uptoBulkEntries entries + 1
  | .held _ => 1
def uptoBulkAll {H : Type} : List (DataW H) → Nat
  | [] => 0
  | d :: r => uptoBulk d + uptoBulkAll r
def uptoBulkEntries {H : Type} : List (Lit × DataW H) → Nat
  | [] => 0
  | x :: r => uptoBulkEntry x + uptoBulkEntries r
def uptoBulkEntry {H : Type} : Lit × DataW H → Nat
  | (.string bytes, d) => bytes.length + uptoBulk d + 1
  | (_, d) => uptoBulk d + 1
 end
def uptoSmall : (H : Type) → List (DataW H) → Bool := fun _ ds => decide (uptoBulkAll ds ≤ 1048576)
def OpenSpec.upto (s : _root_.Go.ChangeSpec) : _root_.Go.OpenSpec := { _root_.Go.OpenSpec.ofChange s with cond := some uptoSmall }

/-- 'laws.FnExactSumOf', WHERE WHAT IT READS IS OF BULK AT MOST 1048576: true; the input reads as it did. -/
def fnExactSumOfUptoRow : OpenClaim := { program := "ytialfhjffkoakaa", sum := "8e79ddcaef1e3a82aaafcfa318e1bbc02f9e6177346b0b7bc6d40ba853aafbf9", func := "loop.example/g00409/laws.FnExactSumOf", spec := "fnExactSumOf", unfollowed := true, recurses := true, apart := false, narrowed := true }
def FnExactSumOfUptoSaid : Prop := fnExactSumOfUptoRow.holds Try.pinned (OpenSpec.upto fnExactSumOfSpec)

/-- 'laws.FnExactMixPt', WHERE WHAT IT READS IS OF BULK AT MOST 1048576: true; the input reads as it did. -/
def fnExactMixPtUptoRow : OpenClaim := { program := "ytialfhjffkoakaa", sum := "8e79ddcaef1e3a82aaafcfa318e1bbc02f9e6177346b0b7bc6d40ba853aafbf9", func := "loop.example/g00409/laws.FnExactMixPt", spec := "fnExactMixPt", unfollowed := true, recurses := true, apart := false, narrowed := true }
def FnExactMixPtUptoSaid : Prop := fnExactMixPtUptoRow.holds Try.pinned (OpenSpec.upto fnExactMixPtSpec)

/-- 'laws.FnExactCurveOf', WHERE WHAT IT READS IS OF BULK AT MOST 1048576: true; the input reads as it did. -/
def fnExactCurveOfUptoRow : OpenClaim := { program := "ytialfhjffkoakaa", sum := "8e79ddcaef1e3a82aaafcfa318e1bbc02f9e6177346b0b7bc6d40ba853aafbf9", func := "loop.example/g00409/laws.FnExactCurveOf", spec := "fnExactCurveOf", unfollowed := true, recurses := true, apart := false, narrowed := true }
def FnExactCurveOfUptoSaid : Prop := fnExactCurveOfUptoRow.holds Try.pinned (OpenSpec.upto fnExactCurveOfSpec)

/-- 'laws.FnExactRingOf', WHERE WHAT IT READS IS OF BULK AT MOST 1048576: true; the input reads as it did. -/
def fnExactRingOfUptoRow : OpenClaim := { program := "ytialfhjffkoakaa", sum := "8e79ddcaef1e3a82aaafcfa318e1bbc02f9e6177346b0b7bc6d40ba853aafbf9", func := "loop.example/g00409/laws.FnExactRingOf", spec := "fnExactRingOf", unfollowed := true, recurses := true, apart := false, narrowed := true }
def FnExactRingOfUptoSaid : Prop := fnExactRingOfUptoRow.holds Try.pinned (OpenSpec.upto fnExactRingOfSpec)

/-- 'laws.FnExactFlipRing', WHERE WHAT IT READS IS OF BULK AT MOST 1048576: true; the input reads as it did. -/
def fnExactFlipRingUptoRow : OpenClaim := { program := "ytialfhjffkoakaa", sum := "8e79ddcaef1e3a82aaafcfa318e1bbc02f9e6177346b0b7bc6d40ba853aafbf9", func := "loop.example/g00409/laws.FnExactFlipRing", spec := "fnExactFlipRing", unfollowed := true, recurses := true, apart := false, narrowed := true }
def FnExactFlipRingUptoSaid : Prop := fnExactFlipRingUptoRow.holds Try.pinned (OpenSpec.upto fnExactFlipRingSpec)

/-- 'laws.FnExactReverseCurve', WHERE WHAT IT READS IS OF BULK AT MOST 1048576: true; the input reads as it did. -/
def fnExactReverseCurveUptoRow : OpenClaim := { program := "ytialfhjffkoakaa", sum := "8e79ddcaef1e3a82aaafcfa318e1bbc02f9e6177346b0b7bc6d40ba853aafbf9", func := "loop.example/g00409/laws.FnExactReverseCurve", spec := "fnExactReverseCurve", unfollowed := true, recurses := true, apart := false, narrowed := true }
def FnExactReverseCurveUptoSaid : Prop := fnExactReverseCurveUptoRow.holds Try.pinned (OpenSpec.upto fnExactReverseCurveSpec)

end Rows
end Go.Proofs.Ytialfhjffkoakaa
