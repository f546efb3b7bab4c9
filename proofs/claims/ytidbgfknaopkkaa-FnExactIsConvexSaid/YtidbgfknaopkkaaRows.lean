/-
  No cell of these rows narrows 'for every input' (looked for: loops, veiled, ifaces, maps, wideKeys, modest, calm, conditions, laid).
  DERIVED. THE GIVEN ROWS OF THIS SEAT. 10 by the template 'for every input the law returns true; each argument reads behind the call as it read before'; 0 by the template 'total and deterministic' (their statements: YtidbgfknaopkkaaTotals.lean).
  GIVEN WITH THE SEED: the statements are not yours to turn. If you find one false, say at which input.
  Laid BY PROGRAM, IN A SANDBOX (cutbox-rows.mjs): the forced cells as the released guide's own fill.sh prints them over the translation 72bf2c14b3802069… (all of the seat's roots in one cut). By AI agents, Wed Nov 11 2026. No macro, syntax, notation, axiom, sorry.
-/
import Derived.Test.YtidbgfknaopkkaaChecked
import GoSem.Claim
import GoSem.ClaimJoined
import GoSem.ClaimMapViews
import Derived.JoinedTies
import Derived.KernelRfl
namespace Go.Proofs.Ytidbgfknaopkkaa
/- THE CELL 'sum', in the pinned program and in every row, IS THE sha256 OF THE DUMP (.gsa) THAT YtidbgfknaopkkaaProg.lean LOADS. Nothing in Lean hashes anything: it is a label: what it is worth is what the hold of that sum in a sandbox is worth. -/
noncomputable def Try.pinned : Pinned := { name := "ytidbgfknaopkkaa", sum := "72bf2c14b38020695d442292498307cf13e985509dd89f7dd350c6c3a5c9057e", checked := Try.checked }
namespace Rows
def none {H : Type} : Left H := { results := [], args := [] }

/-- 'laws.FnExactIsTriangulation': WHATEVER THE INPUT: true; the input reads as it did. -/
def fnExactIsTriangulationSpec : ChangeSpec := { name := "fnExactIsTriangulation", fn := fun _ => fun
  | [d1, d2] => { results := [.lit (.bool true)], args := [d1, d2] }
  | _ => none }
def fnExactIsTriangulationRow : OpenClaim := { program := "ytidbgfknaopkkaa", sum := "72bf2c14b38020695d442292498307cf13e985509dd89f7dd350c6c3a5c9057e", func := "loop.example/g00409/laws.FnExactIsTriangulation", spec := "fnExactIsTriangulation", unfollowed := true, recurses := true, apart := false }
def FnExactIsTriangulationSaid : Prop := fnExactIsTriangulationRow.holds Try.pinned (OpenSpec.ofChange fnExactIsTriangulationSpec)

/-- ITS FALSE NEIGHBOUR: 'it returns false'. Refute it at one input. -/
def fnExactIsTriangulationWrong : ChangeSpec := { name := "fnExactIsTriangulation", fn := fun _ => fun
  | [d1, d2] => { results := [.lit (.bool false)], args := [d1, d2] }
  | _ => none }
def FnExactIsTriangulationWrongFalsely : Prop := fnExactIsTriangulationRow.holds Try.pinned (OpenSpec.ofChange fnExactIsTriangulationWrong)

/-- 'laws.FnExactEarsOf': WHATEVER THE INPUT: true; the input reads as it did. -/
def fnExactEarsOfSpec : ChangeSpec := { name := "fnExactEarsOf", fn := fun _ => fun
  | [d] => { results := [.lit (.bool true)], args := [d] }
  | _ => none }
def fnExactEarsOfRow : OpenClaim := { program := "ytidbgfknaopkkaa", sum := "72bf2c14b38020695d442292498307cf13e985509dd89f7dd350c6c3a5c9057e", func := "loop.example/g00409/laws.FnExactEarsOf", spec := "fnExactEarsOf", unfollowed := true, recurses := true, apart := false }
def FnExactEarsOfSaid : Prop := fnExactEarsOfRow.holds Try.pinned (OpenSpec.ofChange fnExactEarsOfSpec)

/-- ITS FALSE NEIGHBOUR: 'it returns false'. Refute it at one input. -/
def fnExactEarsOfWrong : ChangeSpec := { name := "fnExactEarsOf", fn := fun _ => fun
  | [d] => { results := [.lit (.bool false)], args := [d] }
  | _ => none }
def FnExactEarsOfWrongFalsely : Prop := fnExactEarsOfRow.holds Try.pinned (OpenSpec.ofChange fnExactEarsOfWrong)

/-- 'laws.FnExactTriangulate': WHATEVER THE INPUT: true; the input reads as it did. -/
def fnExactTriangulateSpec : ChangeSpec := { name := "fnExactTriangulate", fn := fun _ => fun
  | [d] => { results := [.lit (.bool true)], args := [d] }
  | _ => none }
def fnExactTriangulateRow : OpenClaim := { program := "ytidbgfknaopkkaa", sum := "72bf2c14b38020695d442292498307cf13e985509dd89f7dd350c6c3a5c9057e", func := "loop.example/g00409/laws.FnExactTriangulate", spec := "fnExactTriangulate", unfollowed := true, recurses := true, apart := false }
def FnExactTriangulateSaid : Prop := fnExactTriangulateRow.holds Try.pinned (OpenSpec.ofChange fnExactTriangulateSpec)

/-- ITS FALSE NEIGHBOUR: 'it returns false'. Refute it at one input. -/
def fnExactTriangulateWrong : ChangeSpec := { name := "fnExactTriangulate", fn := fun _ => fun
  | [d] => { results := [.lit (.bool false)], args := [d] }
  | _ => none }
def FnExactTriangulateWrongFalsely : Prop := fnExactTriangulateRow.holds Try.pinned (OpenSpec.ofChange fnExactTriangulateWrong)

/-- 'laws.FnExactColourThree': WHATEVER THE INPUT: true; the input reads as it did. -/
def fnExactColourThreeSpec : ChangeSpec := { name := "fnExactColourThree", fn := fun _ => fun
  | [d] => { results := [.lit (.bool true)], args := [d] }
  | _ => none }
def fnExactColourThreeRow : OpenClaim := { program := "ytidbgfknaopkkaa", sum := "72bf2c14b38020695d442292498307cf13e985509dd89f7dd350c6c3a5c9057e", func := "loop.example/g00409/laws.FnExactColourThree", spec := "fnExactColourThree", unfollowed := true, recurses := true, apart := false }
def FnExactColourThreeSaid : Prop := fnExactColourThreeRow.holds Try.pinned (OpenSpec.ofChange fnExactColourThreeSpec)

/-- ITS FALSE NEIGHBOUR: 'it returns false'. Refute it at one input. -/
def fnExactColourThreeWrong : ChangeSpec := { name := "fnExactColourThree", fn := fun _ => fun
  | [d] => { results := [.lit (.bool false)], args := [d] }
  | _ => none }
def FnExactColourThreeWrongFalsely : Prop := fnExactColourThreeRow.holds Try.pinned (OpenSpec.ofChange fnExactColourThreeWrong)

/-- 'laws.FnExactGuardsOf': WHATEVER THE INPUT: true; the input reads as it did. -/
def fnExactGuardsOfSpec : ChangeSpec := { name := "fnExactGuardsOf", fn := fun _ => fun
  | [d] => { results := [.lit (.bool true)], args := [d] }
  | _ => none }
def fnExactGuardsOfRow : OpenClaim := { program := "ytidbgfknaopkkaa", sum := "72bf2c14b38020695d442292498307cf13e985509dd89f7dd350c6c3a5c9057e", func := "loop.example/g00409/laws.FnExactGuardsOf", spec := "fnExactGuardsOf", unfollowed := true, recurses := true, apart := false }
def FnExactGuardsOfSaid : Prop := fnExactGuardsOfRow.holds Try.pinned (OpenSpec.ofChange fnExactGuardsOfSpec)

/-- ITS FALSE NEIGHBOUR: 'it returns false'. Refute it at one input. -/
def fnExactGuardsOfWrong : ChangeSpec := { name := "fnExactGuardsOf", fn := fun _ => fun
  | [d] => { results := [.lit (.bool false)], args := [d] }
  | _ => none }
def FnExactGuardsOfWrongFalsely : Prop := fnExactGuardsOfRow.holds Try.pinned (OpenSpec.ofChange fnExactGuardsOfWrong)

/-- 'laws.FnExactSortPts': WHATEVER THE INPUT: true; the input reads as it did. -/
def fnExactSortPtsSpec : ChangeSpec := { name := "fnExactSortPts", fn := fun _ => fun
  | [d] => { results := [.lit (.bool true)], args := [d] }
  | _ => none }
def fnExactSortPtsRow : OpenClaim := { program := "ytidbgfknaopkkaa", sum := "72bf2c14b38020695d442292498307cf13e985509dd89f7dd350c6c3a5c9057e", func := "loop.example/g00409/laws.FnExactSortPts", spec := "fnExactSortPts", unfollowed := true, recurses := true, apart := false }
def FnExactSortPtsSaid : Prop := fnExactSortPtsRow.holds Try.pinned (OpenSpec.ofChange fnExactSortPtsSpec)

/-- ITS FALSE NEIGHBOUR: 'it returns false'. Refute it at one input. -/
def fnExactSortPtsWrong : ChangeSpec := { name := "fnExactSortPts", fn := fun _ => fun
  | [d] => { results := [.lit (.bool false)], args := [d] }
  | _ => none }
def FnExactSortPtsWrongFalsely : Prop := fnExactSortPtsRow.holds Try.pinned (OpenSpec.ofChange fnExactSortPtsWrong)

/-- 'laws.FnExactHullOf': WHATEVER THE INPUT: true; the input reads as it did. -/
def fnExactHullOfSpec : ChangeSpec := { name := "fnExactHullOf", fn := fun _ => fun
  | [d] => { results := [.lit (.bool true)], args := [d] }
  | _ => none }
def fnExactHullOfRow : OpenClaim := { program := "ytidbgfknaopkkaa", sum := "72bf2c14b38020695d442292498307cf13e985509dd89f7dd350c6c3a5c9057e", func := "loop.example/g00409/laws.FnExactHullOf", spec := "fnExactHullOf", unfollowed := true, recurses := true, apart := false }
def FnExactHullOfSaid : Prop := fnExactHullOfRow.holds Try.pinned (OpenSpec.ofChange fnExactHullOfSpec)

/-- ITS FALSE NEIGHBOUR: 'it returns false'. Refute it at one input. -/
def fnExactHullOfWrong : ChangeSpec := { name := "fnExactHullOf", fn := fun _ => fun
  | [d] => { results := [.lit (.bool false)], args := [d] }
  | _ => none }
def FnExactHullOfWrongFalsely : Prop := fnExactHullOfRow.holds Try.pinned (OpenSpec.ofChange fnExactHullOfWrong)

/-- 'laws.FnExactIsHull': WHATEVER THE INPUT: true; the input reads as it did. -/
def fnExactIsHullSpec : ChangeSpec := { name := "fnExactIsHull", fn := fun _ => fun
  | [d1, d2] => { results := [.lit (.bool true)], args := [d1, d2] }
  | _ => none }
def fnExactIsHullRow : OpenClaim := { program := "ytidbgfknaopkkaa", sum := "72bf2c14b38020695d442292498307cf13e985509dd89f7dd350c6c3a5c9057e", func := "loop.example/g00409/laws.FnExactIsHull", spec := "fnExactIsHull", unfollowed := true, recurses := true, apart := false }
def FnExactIsHullSaid : Prop := fnExactIsHullRow.holds Try.pinned (OpenSpec.ofChange fnExactIsHullSpec)

/-- ITS FALSE NEIGHBOUR: 'it returns false'. Refute it at one input. -/
def fnExactIsHullWrong : ChangeSpec := { name := "fnExactIsHull", fn := fun _ => fun
  | [d1, d2] => { results := [.lit (.bool false)], args := [d1, d2] }
  | _ => none }
def FnExactIsHullWrongFalsely : Prop := fnExactIsHullRow.holds Try.pinned (OpenSpec.ofChange fnExactIsHullWrong)

/-- 'laws.FnExactIsConvex': WHATEVER THE INPUT: true; the input reads as it did. -/
def fnExactIsConvexSpec : ChangeSpec := { name := "fnExactIsConvex", fn := fun _ => fun
  | [d] => { results := [.lit (.bool true)], args := [d] }
  | _ => none }
def fnExactIsConvexRow : OpenClaim := { program := "ytidbgfknaopkkaa", sum := "72bf2c14b38020695d442292498307cf13e985509dd89f7dd350c6c3a5c9057e", func := "loop.example/g00409/laws.FnExactIsConvex", spec := "fnExactIsConvex", unfollowed := true, recurses := true, apart := false }
def FnExactIsConvexSaid : Prop := fnExactIsConvexRow.holds Try.pinned (OpenSpec.ofChange fnExactIsConvexSpec)

/-- ITS FALSE NEIGHBOUR: 'it returns false'. Refute it at one input. -/
def fnExactIsConvexWrong : ChangeSpec := { name := "fnExactIsConvex", fn := fun _ => fun
  | [d] => { results := [.lit (.bool false)], args := [d] }
  | _ => none }
def FnExactIsConvexWrongFalsely : Prop := fnExactIsConvexRow.holds Try.pinned (OpenSpec.ofChange fnExactIsConvexWrong)

/-- 'laws.FnExactHasPt': WHATEVER THE INPUT: true; the input reads as it did. -/
def fnExactHasPtSpec : ChangeSpec := { name := "fnExactHasPt", fn := fun _ => fun
  | [d1, d2] => { results := [.lit (.bool true)], args := [d1, d2] }
  | _ => none }
def fnExactHasPtRow : OpenClaim := { program := "ytidbgfknaopkkaa", sum := "72bf2c14b38020695d442292498307cf13e985509dd89f7dd350c6c3a5c9057e", func := "loop.example/g00409/laws.FnExactHasPt", spec := "fnExactHasPt", unfollowed := true, recurses := true, apart := false }
def FnExactHasPtSaid : Prop := fnExactHasPtRow.holds Try.pinned (OpenSpec.ofChange fnExactHasPtSpec)

/-- ITS FALSE NEIGHBOUR: 'it returns false'. Refute it at one input. -/
def fnExactHasPtWrong : ChangeSpec := { name := "fnExactHasPt", fn := fun _ => fun
  | [d1, d2] => { results := [.lit (.bool false)], args := [d1, d2] }
  | _ => none }
def FnExactHasPtWrongFalsely : Prop := fnExactHasPtRow.holds Try.pinned (OpenSpec.ofChange fnExactHasPtWrong)

/- THE SECOND FORM. 'bulk': how many values and letters a reading holds, each counted each time it is reached (what is shared counts as often as it is met; a slice's spare places count too). A statement '..UptoSaid' is the law's where the arguments, and the package variables that the reading takes, are together of bulk at most 1048576: NARROWER than '..Said'. Prove '..Said' where nothing that the law and all that it calls make is longer than what came in: it says more and counts as full. Else prove '..UptoSaid'. A law counts once. -/
mutual
def uptoBulk {H : Type} : DataW H → Nat
  | .lit (.string bytes) => bytes.length + 1
  | .lit _ => 1
  | .nil => 1
  | .ptr d => uptoBulk d + 1
  | .slice elems spare => uptoBulkAll elems + uptoBulkAll spare + 1
  | .agg parts => uptoBulkAll parts + 1
  | .iface _ d => uptoBulk d + 1
  | .map entries => uptoBulkEntries entries + 1
  | .held _ => 1
def uptoBulkAll {H : Type} : List (DataW H) → Nat
  | [] => 0
  | d :: r => uptoBulk d + uptoBulkAll r
def uptoBulkEntries {H : Type} : List (Lit × DataW H) → Nat
  | [] => 0
  | x :: r => uptoBulkEntry x + uptoBulkEntries r
def uptoBulkEntry {H : Type} : Lit × DataW H → Nat
  | (.string bytes, d) => bytes.length + uptoBulk d + 1
  | (_, d) => uptoBulk d + 1
 end
def uptoSmall : (H : Type) → List (DataW H) → Bool := fun _ ds => decide (uptoBulkAll ds ≤ 1048576)
def OpenSpec.upto (s : _root_.Go.ChangeSpec) : _root_.Go.OpenSpec := { _root_.Go.OpenSpec.ofChange s with cond := some uptoSmall }

/-- 'laws.FnExactIsTriangulation', WHERE WHAT IT READS IS OF BULK AT MOST 1048576: true; the input reads as it did. -/
def fnExactIsTriangulationUptoRow : OpenClaim := { program := "ytidbgfknaopkkaa", sum := "72bf2c14b38020695d442292498307cf13e985509dd89f7dd350c6c3a5c9057e", func := "loop.example/g00409/laws.FnExactIsTriangulation", spec := "fnExactIsTriangulation", unfollowed := true, recurses := true, apart := false, narrowed := true }
def FnExactIsTriangulationUptoSaid : Prop := fnExactIsTriangulationUptoRow.holds Try.pinned (OpenSpec.upto fnExactIsTriangulationSpec)

/-- 'laws.FnExactEarsOf', WHERE WHAT IT READS IS OF BULK AT MOST 1048576: true; the input reads as it did. -/
def fnExactEarsOfUptoRow : OpenClaim := { program := "ytidbgfknaopkkaa", sum := "72bf2c14b38020695d442292498307cf13e985509dd89f7dd350c6c3a5c9057e", func := "loop.example/g00409/laws.FnExactEarsOf", spec := "fnExactEarsOf", unfollowed := true, recurses := true, apart := false, narrowed := true }
def FnExactEarsOfUptoSaid : Prop := fnExactEarsOfUptoRow.holds Try.pinned (OpenSpec.upto fnExactEarsOfSpec)

/-- 'laws.FnExactTriangulate', WHERE WHAT IT READS IS OF BULK AT MOST 1048576: true; the input reads as it did. -/
def fnExactTriangulateUptoRow : OpenClaim := { program := "ytidbgfknaopkkaa", sum := "72bf2c14b38020695d442292498307cf13e985509dd89f7dd350c6c3a5c9057e", func := "loop.example/g00409/laws.FnExactTriangulate", spec := "fnExactTriangulate", unfollowed := true, recurses := true, apart := false, narrowed := true }
def FnExactTriangulateUptoSaid : Prop := fnExactTriangulateUptoRow.holds Try.pinned (OpenSpec.upto fnExactTriangulateSpec)

/-- 'laws.FnExactColourThree', WHERE WHAT IT READS IS OF BULK AT MOST 1048576: true; the input reads as it did. -/
def fnExactColourThreeUptoRow : OpenClaim := { program := "ytidbgfknaopkkaa", sum := "72bf2c14b38020695d442292498307cf13e985509dd89f7dd350c6c3a5c9057e", func := "loop.example/g00409/laws.FnExactColourThree", spec := "fnExactColourThree", unfollowed := true, recurses := true, apart := false, narrowed := true }
def FnExactColourThreeUptoSaid : Prop := fnExactColourThreeUptoRow.holds Try.pinned (OpenSpec.upto fnExactColourThreeSpec)

/-- 'laws.FnExactGuardsOf', WHERE WHAT IT READS IS OF BULK AT MOST 1048576: true; the input reads as it did. -/
def fnExactGuardsOfUptoRow : OpenClaim := { program := "ytidbgfknaopkkaa", sum := "72bf2c14b38020695d442292498307cf13e985509dd89f7dd350c6c3a5c9057e", func := "loop.example/g00409/laws.FnExactGuardsOf", spec := "fnExactGuardsOf", unfollowed := true, recurses := true, apart := false, narrowed := true }
def FnExactGuardsOfUptoSaid : Prop := fnExactGuardsOfUptoRow.holds Try.pinned (OpenSpec.upto fnExactGuardsOfSpec)

/-- 'laws.FnExactSortPts', WHERE WHAT IT READS IS OF BULK AT MOST 1048576: true; the input reads as it did. -/
def fnExactSortPtsUptoRow : OpenClaim := { program := "ytidbgfknaopkkaa", sum := "72bf2c14b38020695d442292498307cf13e985509dd89f7dd350c6c3a5c9057e", func := "loop.example/g00409/laws.FnExactSortPts", spec := "fnExactSortPts", unfollowed := true, recurses := true, apart := false, narrowed := true }
def FnExactSortPtsUptoSaid : Prop := fnExactSortPtsUptoRow.holds Try.pinned (OpenSpec.upto fnExactSortPtsSpec)

/-- 'laws.FnExactHullOf', WHERE WHAT IT READS IS OF BULK AT MOST 1048576: true; the input reads as it did. -/
def fnExactHullOfUptoRow : OpenClaim := { program := "ytidbgfknaopkkaa", sum := "72bf2c14b38020695d442292498307cf13e985509dd89f7dd350c6c3a5c9057e", func := "loop.example/g00409/laws.FnExactHullOf", spec := "fnExactHullOf", unfollowed := true, recurses := true, apart := false, narrowed := true }
def FnExactHullOfUptoSaid : Prop := fnExactHullOfUptoRow.holds Try.pinned (OpenSpec.upto fnExactHullOfSpec)

/-- 'laws.FnExactIsHull', WHERE WHAT IT READS IS OF BULK AT MOST 1048576: true; the input reads as it did. -/
def fnExactIsHullUptoRow : OpenClaim := { program := "ytidbgfknaopkkaa", sum := "72bf2c14b38020695d442292498307cf13e985509dd89f7dd350c6c3a5c9057e", func := "loop.example/g00409/laws.FnExactIsHull", spec := "fnExactIsHull", unfollowed := true, recurses := true, apart := false, narrowed := true }
def FnExactIsHullUptoSaid : Prop := fnExactIsHullUptoRow.holds Try.pinned (OpenSpec.upto fnExactIsHullSpec)

/-- 'laws.FnExactIsConvex', WHERE WHAT IT READS IS OF BULK AT MOST 1048576: true; the input reads as it did. -/
def fnExactIsConvexUptoRow : OpenClaim := { program := "ytidbgfknaopkkaa", sum := "72bf2c14b38020695d442292498307cf13e985509dd89f7dd350c6c3a5c9057e", func := "loop.example/g00409/laws.FnExactIsConvex", spec := "fnExactIsConvex", unfollowed := true, recurses := true, apart := false, narrowed := true }
def FnExactIsConvexUptoSaid : Prop := fnExactIsConvexUptoRow.holds Try.pinned (OpenSpec.upto fnExactIsConvexSpec)

/-- 'laws.FnExactHasPt', WHERE WHAT IT READS IS OF BULK AT MOST 1048576: true; the input reads as it did. -/
def fnExactHasPtUptoRow : OpenClaim := { program := "ytidbgfknaopkkaa", sum := "72bf2c14b38020695d442292498307cf13e985509dd89f7dd350c6c3a5c9057e", func := "loop.example/g00409/laws.FnExactHasPt", spec := "fnExactHasPt", unfollowed := true, recurses := true, apart := false, narrowed := true }
def FnExactHasPtUptoSaid : Prop := fnExactHasPtUptoRow.holds Try.pinned (OpenSpec.upto fnExactHasPtSpec)

end Rows
end Go.Proofs.Ytidbgfknaopkkaa
