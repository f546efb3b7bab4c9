/-
  No cell of these rows narrows 'for every input' (looked for: loops, veiled, ifaces, maps, wideKeys, modest, calm, conditions, laid).
  DERIVED. THE GIVEN ROWS OF THIS SEAT. 3 by the template 'for every input the law returns true; each argument reads behind the call as it read before'; 0 by the template 'total and deterministic' (their statements: YthhjkchpbfahnaaTotals.lean).
  GIVEN WITH THE SEED: the statements are not yours to turn. If you find one false, say at which input.
  Laid BY PROGRAM, IN A SANDBOX (cutbox-rows.mjs): the forced cells as the released guide's own fill.sh prints them over the translation f9cf4159ca41c99d… (all of the seat's roots in one cut). By AI agents, Wed Nov 11 2026. No macro, syntax, notation, axiom, sorry.
-/
import Derived.Test.YthhjkchpbfahnaaChecked
import GoSem.Claim
import GoSem.ClaimJoined
import GoSem.ClaimMapViews
import Derived.JoinedTies
import Derived.KernelRfl
namespace Go.Proofs.Ythhjkchpbfahnaa
/- THE CELL 'sum', in the pinned program and in every row, IS THE sha256 OF THE DUMP (.gsa) THAT YthhjkchpbfahnaaProg.lean LOADS. Nothing in Lean hashes anything: it is a label: what it is worth is what the hold of that sum in a sandbox is worth. -/
noncomputable def Try.pinned : Pinned := { name := "ythhjkchpbfahnaa", sum := "f9cf4159ca41c99d446a830e3a6857755cb00c79e137d83e51c65f43f76e0792", checked := Try.checked }
namespace Rows
def none {H : Type} : Left H := { results := [], args := [] }

/-- 'laws.FnExactGoodRing': WHATEVER THE INPUT: true; the input reads as it did. -/
def fnExactGoodRingSpec : ChangeSpec := { name := "fnExactGoodRing", fn := fun _ => fun
  | [d] => { results := [.lit (.bool true)], args := [d] }
  | _ => none }
def fnExactGoodRingRow : OpenClaim := { program := "ythhjkchpbfahnaa", sum := "f9cf4159ca41c99d446a830e3a6857755cb00c79e137d83e51c65f43f76e0792", func := "loop.example/g00409/laws.FnExactGoodRing", spec := "fnExactGoodRing", unfollowed := true, recurses := true, apart := false }
def FnExactGoodRingSaid : Prop := fnExactGoodRingRow.holds Try.pinned (OpenSpec.ofChange fnExactGoodRingSpec)

/-- ITS FALSE NEIGHBOUR: 'it returns false'. Refute it at one input. -/
def fnExactGoodRingWrong : ChangeSpec := { name := "fnExactGoodRing", fn := fun _ => fun
  | [d] => { results := [.lit (.bool false)], args := [d] }
  | _ => none }
def FnExactGoodRingWrongFalsely : Prop := fnExactGoodRingRow.holds Try.pinned (OpenSpec.ofChange fnExactGoodRingWrong)

/-- 'laws.FnExactGoodCurve': WHATEVER THE INPUT: true; the input reads as it did. -/
def fnExactGoodCurveSpec : ChangeSpec := { name := "fnExactGoodCurve", fn := fun _ => fun
  | [d] => { results := [.lit (.bool true)], args := [d] }
  | _ => none }
def fnExactGoodCurveRow : OpenClaim := { program := "ythhjkchpbfahnaa", sum := "f9cf4159ca41c99d446a830e3a6857755cb00c79e137d83e51c65f43f76e0792", func := "loop.example/g00409/laws.FnExactGoodCurve", spec := "fnExactGoodCurve", unfollowed := true, recurses := true, apart := false }
def FnExactGoodCurveSaid : Prop := fnExactGoodCurveRow.holds Try.pinned (OpenSpec.ofChange fnExactGoodCurveSpec)

/-- ITS FALSE NEIGHBOUR: 'it returns false'. Refute it at one input. -/
def fnExactGoodCurveWrong : ChangeSpec := { name := "fnExactGoodCurve", fn := fun _ => fun
  | [d] => { results := [.lit (.bool false)], args := [d] }
  | _ => none }
def FnExactGoodCurveWrongFalsely : Prop := fnExactGoodCurveRow.holds Try.pinned (OpenSpec.ofChange fnExactGoodCurveWrong)

/-- 'laws.FnExactByteOf': WHATEVER THE INPUT: true; the input reads as it did. -/
def fnExactByteOfSpec : ChangeSpec := { name := "fnExactByteOf", fn := fun _ => fun
  | [d] => { results := [.lit (.bool true)], args := [d] }
  | _ => none }
def fnExactByteOfRow : OpenClaim := { program := "ythhjkchpbfahnaa", sum := "f9cf4159ca41c99d446a830e3a6857755cb00c79e137d83e51c65f43f76e0792", func := "loop.example/g00409/laws.FnExactByteOf", spec := "fnExactByteOf", unfollowed := true, recurses := true, apart := false }
def FnExactByteOfSaid : Prop := fnExactByteOfRow.holds Try.pinned (OpenSpec.ofChange fnExactByteOfSpec)

/-- ITS FALSE NEIGHBOUR: 'it returns false'. Refute it at one input. -/
def fnExactByteOfWrong : ChangeSpec := { name := "fnExactByteOf", fn := fun _ => fun
  | [d] => { results := [.lit (.bool false)], args := [d] }
  | _ => none }
def FnExactByteOfWrongFalsely : Prop := fnExactByteOfRow.holds Try.pinned (OpenSpec.ofChange fnExactByteOfWrong)

/- THE SECOND FORM. 'bulk': how many values and letters a reading holds, each counted each time it is reached (what is shared counts as often as it is met; a slice's spare places count too). A statement '..UptoSaid' is the law's where the arguments, and the package variables that the reading takes, are together of bulk at most 1048576: NARROWER than '..Said'. Prove '..Said' where nothing that the law and all that it calls make is longer than what came in: it says more and counts as full. Else prove '..UptoSaid'. A law counts once. -/
mutual
def uptoBulk {H : Type} : DataW H → Nat
  | .lit (.string bytes) => bytes.length + 1
  | .lit _ => 1
  | .nil => 1
  | .ptr d => uptoBulk d + 1
  | .slice elems spare => uptoBulkAll elems + uptoBulkAll spare + 1
  | .agg parts => uptoBulkAll parts + 1
  | .iface _ d => uptoBulk d + 1
  | .map entries => uptoBulkEntries entries + 1
  | .held _ => 1
def uptoBulkAll {H : Type} : List (DataW H) → Nat
  | [] => 0
  | d :: r => uptoBulk d + uptoBulkAll r
def uptoBulkEntries {H : Type} : List (Lit × DataW H) → Nat
  | [] => 0
  | x :: r => uptoBulkEntry x + uptoBulkEntries r
def uptoBulkEntry {H : Type} : Lit × DataW H → Nat
  | (.string bytes, d) => bytes.length + uptoBulk d + 1
  | (_, d) => uptoBulk d + 1
 end
def uptoSmall : (H : Type) → List (DataW H) → Bool := fun _ ds => decide (uptoBulkAll ds ≤ 1048576)
def OpenSpec.upto (s : _root_.Go.ChangeSpec) : _root_.Go.OpenSpec := { _root_.Go.OpenSpec.ofChange s with cond := some uptoSmall }

/-- 'laws.FnExactGoodRing', WHERE WHAT IT READS IS OF BULK AT MOST 1048576: true; the input reads as it did. -/
def fnExactGoodRingUptoRow : OpenClaim := { program := "ythhjkchpbfahnaa", sum := "f9cf4159ca41c99d446a830e3a6857755cb00c79e137d83e51c65f43f76e0792", func := "loop.example/g00409/laws.FnExactGoodRing", spec := "fnExactGoodRing", unfollowed := true, recurses := true, apart := false, narrowed := true }
def FnExactGoodRingUptoSaid : Prop := fnExactGoodRingUptoRow.holds Try.pinned (OpenSpec.upto fnExactGoodRingSpec)

/-- 'laws.FnExactGoodCurve', WHERE WHAT IT READS IS OF BULK AT MOST 1048576: true; the input reads as it did. -/
def fnExactGoodCurveUptoRow : OpenClaim := { program := "ythhjkchpbfahnaa", sum := "f9cf4159ca41c99d446a830e3a6857755cb00c79e137d83e51c65f43f76e0792", func := "loop.example/g00409/laws.FnExactGoodCurve", spec := "fnExactGoodCurve", unfollowed := true, recurses := true, apart := false, narrowed := true }
def FnExactGoodCurveUptoSaid : Prop := fnExactGoodCurveUptoRow.holds Try.pinned (OpenSpec.upto fnExactGoodCurveSpec)

/-- 'laws.FnExactByteOf', WHERE WHAT IT READS IS OF BULK AT MOST 1048576: true; the input reads as it did. -/
def fnExactByteOfUptoRow : OpenClaim := { program := "ythhjkchpbfahnaa", sum := "f9cf4159ca41c99d446a830e3a6857755cb00c79e137d83e51c65f43f76e0792", func := "loop.example/g00409/laws.FnExactByteOf", spec := "fnExactByteOf", unfollowed := true, recurses := true, apart := false, narrowed := true }
def FnExactByteOfUptoSaid : Prop := fnExactByteOfUptoRow.holds Try.pinned (OpenSpec.upto fnExactByteOfSpec)

end Rows
end Go.Proofs.Ythhjkchpbfahnaa
