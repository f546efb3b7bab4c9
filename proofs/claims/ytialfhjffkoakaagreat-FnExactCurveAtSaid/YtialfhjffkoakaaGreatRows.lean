/-
  No cell of these rows narrows 'for every input' (looked for: loops, veiled, ifaces, maps, wideKeys, modest, calm, conditions, laid).
  DERIVED. THE GIVEN ROWS OF THIS SEAT. 6 by the template 'for every input the law returns true; each argument reads behind the call as it read before'; 0 by the template 'total and deterministic' (their statements: YtialfhjffkoakaaGreatTotals.lean).
  GIVEN WITH THE SEED: the statements are not yours to turn. If you find one false, say at which input.
  Laid BY PROGRAM, IN A SANDBOX (cutbox-rows.mjs): the forced cells as the released guide's own fill.sh prints them over the translation 193ee9424f64a6dc… (all of the seat's roots in one cut). By AI agents, Wed Nov 11 2026. No macro, syntax, notation, axiom, sorry.
-/
import Derived.Test.YtialfhjffkoakaaGreatChecked
import GoSem.Claim
import GoSem.ClaimJoined
import GoSem.ClaimMapViews
import Derived.JoinedTies
import Derived.KernelRfl
namespace Go.Proofs.YtialfhjffkoakaaGreat
/- THE CELL 'sum', in the pinned program and in every row, IS THE sha256 OF THE DUMP (.gsa) THAT YtialfhjffkoakaaGreatProg.lean LOADS. Nothing in Lean hashes anything: it is a label: what it is worth is what the hold of that sum in a sandbox is worth. -/
noncomputable def Tryz.pinned : Pinned := { name := "ytialfhjffkoakaagreat", sum := "193ee9424f64a6dcc34bc7d8dbf859b92bdf49799341089bb752d86e4e799115", checked := Tryz.checked }
namespace Rows
def none {H : Type} : Left H := { results := [], args := [] }

/-- 'laws.FnExactRingArea': WHATEVER THE INPUT: true; the input reads as it did. -/
def fnExactRingAreaSpec : ChangeSpec := { name := "fnExactRingArea", fn := fun _ => fun
  | [d] => { results := [.lit (.bool true)], args := [d] }
  | _ => none }
def fnExactRingAreaRow : OpenClaim := { program := "ytialfhjffkoakaagreat", sum := "193ee9424f64a6dcc34bc7d8dbf859b92bdf49799341089bb752d86e4e799115", func := "loop.example/g00409/laws.FnExactRingArea", spec := "fnExactRingArea", unfollowed := true, recurses := true, apart := false }
def FnExactRingAreaSaid : Prop := fnExactRingAreaRow.holds Tryz.pinned (OpenSpec.ofChange fnExactRingAreaSpec)

/-- ITS FALSE NEIGHBOUR: 'it returns false'. Refute it at one input. -/
def fnExactRingAreaWrong : ChangeSpec := { name := "fnExactRingArea", fn := fun _ => fun
  | [d] => { results := [.lit (.bool false)], args := [d] }
  | _ => none }
def FnExactRingAreaWrongFalsely : Prop := fnExactRingAreaRow.holds Tryz.pinned (OpenSpec.ofChange fnExactRingAreaWrong)

/-- 'laws.FnExactCurveAt': WHATEVER THE INPUT: true; the input reads as it did. -/
def fnExactCurveAtSpec : ChangeSpec := { name := "fnExactCurveAt", fn := fun _ => fun
  | [d1, d2] => { results := [.lit (.bool true)], args := [d1, d2] }
  | _ => none }
def fnExactCurveAtRow : OpenClaim := { program := "ytialfhjffkoakaagreat", sum := "193ee9424f64a6dcc34bc7d8dbf859b92bdf49799341089bb752d86e4e799115", func := "loop.example/g00409/laws.FnExactCurveAt", spec := "fnExactCurveAt", unfollowed := true, recurses := true, apart := false }
def FnExactCurveAtSaid : Prop := fnExactCurveAtRow.holds Tryz.pinned (OpenSpec.ofChange fnExactCurveAtSpec)

/-- ITS FALSE NEIGHBOUR: 'it returns false'. Refute it at one input. -/
def fnExactCurveAtWrong : ChangeSpec := { name := "fnExactCurveAt", fn := fun _ => fun
  | [d1, d2] => { results := [.lit (.bool false)], args := [d1, d2] }
  | _ => none }
def FnExactCurveAtWrongFalsely : Prop := fnExactCurveAtRow.holds Tryz.pinned (OpenSpec.ofChange fnExactCurveAtWrong)

/-- 'laws.FnExactSweepOf': WHATEVER THE INPUT: true; the input reads as it did. -/
def fnExactSweepOfSpec : ChangeSpec := { name := "fnExactSweepOf", fn := fun _ => fun
  | [d] => { results := [.lit (.bool true)], args := [d] }
  | _ => none }
def fnExactSweepOfRow : OpenClaim := { program := "ytialfhjffkoakaagreat", sum := "193ee9424f64a6dcc34bc7d8dbf859b92bdf49799341089bb752d86e4e799115", func := "loop.example/g00409/laws.FnExactSweepOf", spec := "fnExactSweepOf", unfollowed := true, recurses := true, apart := false }
def FnExactSweepOfSaid : Prop := fnExactSweepOfRow.holds Tryz.pinned (OpenSpec.ofChange fnExactSweepOfSpec)

/-- ITS FALSE NEIGHBOUR: 'it returns false'. Refute it at one input. -/
def fnExactSweepOfWrong : ChangeSpec := { name := "fnExactSweepOf", fn := fun _ => fun
  | [d] => { results := [.lit (.bool false)], args := [d] }
  | _ => none }
def FnExactSweepOfWrongFalsely : Prop := fnExactSweepOfRow.holds Tryz.pinned (OpenSpec.ofChange fnExactSweepOfWrong)

/-- 'laws.FnExactRaiseCurve': WHATEVER THE INPUT: true; the input reads as it did. -/
def fnExactRaiseCurveSpec : ChangeSpec := { name := "fnExactRaiseCurve", fn := fun _ => fun
  | [d] => { results := [.lit (.bool true)], args := [d] }
  | _ => none }
def fnExactRaiseCurveRow : OpenClaim := { program := "ytialfhjffkoakaagreat", sum := "193ee9424f64a6dcc34bc7d8dbf859b92bdf49799341089bb752d86e4e799115", func := "loop.example/g00409/laws.FnExactRaiseCurve", spec := "fnExactRaiseCurve", unfollowed := true, recurses := true, apart := false }
def FnExactRaiseCurveSaid : Prop := fnExactRaiseCurveRow.holds Tryz.pinned (OpenSpec.ofChange fnExactRaiseCurveSpec)

/-- ITS FALSE NEIGHBOUR: 'it returns false'. Refute it at one input. -/
def fnExactRaiseCurveWrong : ChangeSpec := { name := "fnExactRaiseCurve", fn := fun _ => fun
  | [d] => { results := [.lit (.bool false)], args := [d] }
  | _ => none }
def FnExactRaiseCurveWrongFalsely : Prop := fnExactRaiseCurveRow.holds Tryz.pinned (OpenSpec.ofChange fnExactRaiseCurveWrong)

/-- 'laws.FnExactPowersOf': WHATEVER THE INPUT: true; the input reads as it did. -/
def fnExactPowersOfSpec : ChangeSpec := { name := "fnExactPowersOf", fn := fun _ => fun
  | [d] => { results := [.lit (.bool true)], args := [d] }
  | _ => none }
def fnExactPowersOfRow : OpenClaim := { program := "ytialfhjffkoakaagreat", sum := "193ee9424f64a6dcc34bc7d8dbf859b92bdf49799341089bb752d86e4e799115", func := "loop.example/g00409/laws.FnExactPowersOf", spec := "fnExactPowersOf", unfollowed := true, recurses := true, apart := false }
def FnExactPowersOfSaid : Prop := fnExactPowersOfRow.holds Tryz.pinned (OpenSpec.ofChange fnExactPowersOfSpec)

/-- ITS FALSE NEIGHBOUR: 'it returns false'. Refute it at one input. -/
def fnExactPowersOfWrong : ChangeSpec := { name := "fnExactPowersOf", fn := fun _ => fun
  | [d] => { results := [.lit (.bool false)], args := [d] }
  | _ => none }
def FnExactPowersOfWrongFalsely : Prop := fnExactPowersOfRow.holds Tryz.pinned (OpenSpec.ofChange fnExactPowersOfWrong)

/-- 'laws.FnExactClipHigh': WHATEVER THE INPUT: true; the input reads as it did. -/
def fnExactClipHighSpec : ChangeSpec := { name := "fnExactClipHigh", fn := fun _ => fun
  | [d1, d2, d3] => { results := [.lit (.bool true)], args := [d1, d2, d3] }
  | _ => none }
def fnExactClipHighRow : OpenClaim := { program := "ytialfhjffkoakaagreat", sum := "193ee9424f64a6dcc34bc7d8dbf859b92bdf49799341089bb752d86e4e799115", func := "loop.example/g00409/laws.FnExactClipHigh", spec := "fnExactClipHigh", unfollowed := true, recurses := true, apart := false }
def FnExactClipHighSaid : Prop := fnExactClipHighRow.holds Tryz.pinned (OpenSpec.ofChange fnExactClipHighSpec)

/-- ITS FALSE NEIGHBOUR: 'it returns false'. Refute it at one input. -/
def fnExactClipHighWrong : ChangeSpec := { name := "fnExactClipHigh", fn := fun _ => fun
  | [d1, d2, d3] => { results := [.lit (.bool false)], args := [d1, d2, d3] }
  | _ => none }
def FnExactClipHighWrongFalsely : Prop := fnExactClipHighRow.holds Tryz.pinned (OpenSpec.ofChange fnExactClipHighWrong)

/- THE SECOND FORM. 'bulk': how many values and letters a reading holds, each counted each time it is reached (what is shared counts as often as it is met; a slice's spare places count too). A statement '..UptoSaid' is the law's where the arguments, and the package variables that the reading takes, are together of bulk at most 1048576: NARROWER than '..Said'. Prove '..Said' where nothing that the law and all that it calls make is longer than what came in: it says more and counts as full. Else prove '..UptoSaid'. A law counts once. -/
mutual
def uptoBulk {H : Type} : DataW H → Nat
  | .lit (.string bytes) => bytes.length + 1
  | .lit _ => 1
  | .nil => 1
  | .ptr d => uptoBulk d + 1
  | .slice elems spare => uptoBulkAll elems + uptoBulkAll spare + 1
  | .agg parts => uptoBulkAll parts + 1
  | .iface _ d => uptoBulk d + 1
  | .map entries => uptoBulkEntries entries + 1
  | .held _ => 1
def uptoBulkAll {H : Type} : List (DataW H) → Nat
  | [] => 0
  | d :: r => uptoBulk d + uptoBulkAll r
def uptoBulkEntries {H : Type} : List (Lit × DataW H) → Nat
  | [] => 0
  | x :: r => uptoBulkEntry x + uptoBulkEntries r
def uptoBulkEntry {H : Type} : Lit × DataW H → Nat
  | (.string bytes, d) => bytes.length + uptoBulk d + 1
  | (_, d) => uptoBulk d + 1
 end
def uptoSmall : (H : Type) → List (DataW H) → Bool := fun _ ds => decide (uptoBulkAll ds ≤ 1048576)
def OpenSpec.upto (s : _root_.Go.ChangeSpec) : _root_.Go.OpenSpec := { _root_.Go.OpenSpec.ofChange s with cond := some uptoSmall }

/-- 'laws.FnExactRingArea', WHERE WHAT IT READS IS OF BULK AT MOST 1048576: true; the input reads as it did. -/
def fnExactRingAreaUptoRow : OpenClaim := { program := "ytialfhjffkoakaagreat", sum := "193ee9424f64a6dcc34bc7d8dbf859b92bdf49799341089bb752d86e4e799115", func := "loop.example/g00409/laws.FnExactRingArea", spec := "fnExactRingArea", unfollowed := true, recurses := true, apart := false, narrowed := true }
def FnExactRingAreaUptoSaid : Prop := fnExactRingAreaUptoRow.holds Tryz.pinned (OpenSpec.upto fnExactRingAreaSpec)

/-- 'laws.FnExactCurveAt', WHERE WHAT IT READS IS OF BULK AT MOST 1048576: true; the input reads as it did. -/
def fnExactCurveAtUptoRow : OpenClaim := { program := "ytialfhjffkoakaagreat", sum := "193ee9424f64a6dcc34bc7d8dbf859b92bdf49799341089bb752d86e4e799115", func := "loop.example/g00409/laws.FnExactCurveAt", spec := "fnExactCurveAt", unfollowed := true, recurses := true, apart := false, narrowed := true }
def FnExactCurveAtUptoSaid : Prop := fnExactCurveAtUptoRow.holds Tryz.pinned (OpenSpec.upto fnExactCurveAtSpec)

/-- 'laws.FnExactSweepOf', WHERE WHAT IT READS IS OF BULK AT MOST 1048576: true; the input reads as it did. -/
def fnExactSweepOfUptoRow : OpenClaim := { program := "ytialfhjffkoakaagreat", sum := "193ee9424f64a6dcc34bc7d8dbf859b92bdf49799341089bb752d86e4e799115", func := "loop.example/g00409/laws.FnExactSweepOf", spec := "fnExactSweepOf", unfollowed := true, recurses := true, apart := false, narrowed := true }
def FnExactSweepOfUptoSaid : Prop := fnExactSweepOfUptoRow.holds Tryz.pinned (OpenSpec.upto fnExactSweepOfSpec)

/-- 'laws.FnExactRaiseCurve', WHERE WHAT IT READS IS OF BULK AT MOST 1048576: true; the input reads as it did. -/
def fnExactRaiseCurveUptoRow : OpenClaim := { program := "ytialfhjffkoakaagreat", sum := "193ee9424f64a6dcc34bc7d8dbf859b92bdf49799341089bb752d86e4e799115", func := "loop.example/g00409/laws.FnExactRaiseCurve", spec := "fnExactRaiseCurve", unfollowed := true, recurses := true, apart := false, narrowed := true }
def FnExactRaiseCurveUptoSaid : Prop := fnExactRaiseCurveUptoRow.holds Tryz.pinned (OpenSpec.upto fnExactRaiseCurveSpec)

/-- 'laws.FnExactPowersOf', WHERE WHAT IT READS IS OF BULK AT MOST 1048576: true; the input reads as it did. -/
def fnExactPowersOfUptoRow : OpenClaim := { program := "ytialfhjffkoakaagreat", sum := "193ee9424f64a6dcc34bc7d8dbf859b92bdf49799341089bb752d86e4e799115", func := "loop.example/g00409/laws.FnExactPowersOf", spec := "fnExactPowersOf", unfollowed := true, recurses := true, apart := false, narrowed := true }
def FnExactPowersOfUptoSaid : Prop := fnExactPowersOfUptoRow.holds Tryz.pinned (OpenSpec.upto fnExactPowersOfSpec)

/-- 'laws.FnExactClipHigh', WHERE WHAT IT READS IS OF BULK AT MOST 1048576: true; the input reads as it did. -/
def fnExactClipHighUptoRow : OpenClaim := { program := "ytialfhjffkoakaagreat", sum := "193ee9424f64a6dcc34bc7d8dbf859b92bdf49799341089bb752d86e4e799115", func := "loop.example/g00409/laws.FnExactClipHigh", spec := "fnExactClipHigh", unfollowed := true, recurses := true, apart := false, narrowed := true }
def FnExactClipHighUptoSaid : Prop := fnExactClipHighUptoRow.holds Tryz.pinned (OpenSpec.upto fnExactClipHighSpec)

end Rows
end Go.Proofs.YtialfhjffkoakaaGreat
