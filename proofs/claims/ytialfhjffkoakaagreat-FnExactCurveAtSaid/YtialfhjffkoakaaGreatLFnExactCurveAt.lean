/- The law FnExactCurveAt answers true for every input, and each argument reads afterwards as it did. No condition. -/
import Derived.Test.YtialfhjffkoakaaGreatRows
import Derived.Test.YtialfhjffkoakaaGreatQF
import Derived.Test.YtialfhjffkoakaaGreatVf
import Derived.ProofKit
namespace Go.Proofs.YtialfhjffkoakaaGreat.fnExactCurveAt
set_option maxRecDepth 100000
theorem own : ownKnob Tryz.prog.godebug = none := by kernel_rfl
theorem lifted (os : Os) (started : os.Started) (H : Type) (enc : TypeId × Value → H) :
    ReturnsInHanded {} Tryz.checked os 4 .any (Rows.fnExactCurveAtSpec.pre6 enc Tryz.prog Tryz.f4 Rows.fnExactCurveAtRow.domain false) (Rows.fnExactCurveAtSpec.post enc Tryz.prog Tryz.f4 false true false false) :=
  Go.VAI.law_lifted (C := Tryz.checked) (n := 6) Go.VAI.hT own started (by kernel_rfl) Tryz.func4 rfl (tb := 4) Tryz.underlying4 (by kernel_rfl) rfl (by decide +kernel) rfl
    (fun ds h => by
      have h : ds.length = 2 := h
      match ds, h with
      | [_, _], _ => rfl)
    (ChangeSpec.witness6 (enc := enc) (C := Tryz.checked) false ⟨#[], #[.slice none 0 0, .agg #[.bool false, .slice none 0 0, .bool false, .slice none 0 0]], []⟩ 8 (by kernel_rfl) (by kernel_rfl) (by kernel_rfl) (by kernel_rfl))
    (fun rs h => by
      obtain ⟨r0, rs0, rfl, h0, h⟩ := h
      obtain ⟨r1, rs1, rfl, h1, h⟩ := h
      obtain rfl := h
      obtain ⟨v0_0, v0_1, e0, k0⟩ := Go.VAI.hasV_RPtS h0
      subst e0
      obtain ⟨v1_0, v1_1, v1_2, v1_3, v1_4, v1_5, e1, k1⟩ := Go.VAI.hasV_Rat h1
      subst e1
      exact Go.VAI.d_laws_FnExactCurveAt k0 k1)
theorem closed : joinedFacts Tryz.pinned.checked.prog 4 Tryz.f4 Rows.fnExactCurveAtSpec Rows.fnExactCurveAtRow = true := by
  show joinedFacts Tryz.prog 4 Tryz.f4 Rows.fnExactCurveAtSpec Rows.fnExactCurveAtRow = true
  unfold joinedFacts
  rw [makeFact, liftsFact, enterFact]
  kernel_rfl
theorem over : Rows.fnExactCurveAtRow.holds Tryz.pinned (OpenSpec.ofChange Rows.fnExactCurveAtSpec) :=
  OpenClaim.holds_of_wide 4 Tryz.f4 rfl rfl rfl rfl rfl rfl rfl ⟨rfl, rfl, rfl, rfl, rfl⟩ rfl rfl rfl rfl rfl (by kernel_rfl) Tryz.func4 closed
    (of_decide_eq_true (by kernel_rfl)) (by unfold Func.isWrapper; first | (rw [if_pos (by decide +kernel)]; kernel_rfl) | (rw [if_neg (by decide +kernel)]; exact ⟨rfl, rfl⟩))
    (fun os started H enc _ => lifted os started H enc)
theorem proved : Rows.FnExactCurveAtSaid := over
#print axioms proved
end Go.Proofs.YtialfhjffkoakaaGreat.fnExactCurveAt
namespace Go.Proofs.YtialfhjffkoakaaGreat
/-- The row, under a short name, for the claim. -/
theorem fnExactCurveAt_holds : Rows.FnExactCurveAtSaid := fnExactCurveAt.proved
end Go.Proofs.YtialfhjffkoakaaGreat
