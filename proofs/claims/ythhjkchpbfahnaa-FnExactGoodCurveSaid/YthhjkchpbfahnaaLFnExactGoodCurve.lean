/- The law FnExactGoodCurve answers true for every input, and each argument reads afterwards as it did. No condition. -/
import Derived.Test.YthhjkchpbfahnaaRows
import Derived.Test.YthhjkchpbfahnaaNU
import Derived.Test.YthhjkchpbfahnaaVf
import Derived.ProofKit
namespace Go.Proofs.Ythhjkchpbfahnaa.fnExactGoodCurve
set_option maxRecDepth 100000
theorem own : ownKnob Try.prog.godebug = none := by kernel_rfl
theorem lifted (os : Os) (started : os.Started) (H : Type) (enc : TypeId × Value → H) :
    ReturnsInHanded {} Try.checked os 4 .any (Rows.fnExactGoodCurveSpec.pre6 enc Try.prog Try.f4 Rows.fnExactGoodCurveRow.domain false) (Rows.fnExactGoodCurveSpec.post enc Try.prog Try.f4 false true false false) :=
  Go.VAI.law_lifted (C := Try.checked) (n := 6) Go.VAI.hT own started (by kernel_rfl) Try.func4 rfl (tb := 4) Try.underlying4 (by kernel_rfl) rfl (by decide +kernel) rfl
    (fun ds h => by
      have h : ds.length = 1 := h
      match ds, h with
      | [_], _ => rfl)
    (ChangeSpec.witness6 (enc := enc) (C := Try.checked) false ⟨#[], #[.slice none 0 0], []⟩ 8 (by kernel_rfl) (by kernel_rfl) (by kernel_rfl) (by kernel_rfl))
    (fun rs h => by
      obtain ⟨r0, rs0, rfl, h0, h⟩ := h
      obtain rfl := h
      obtain ⟨v0_0, v0_1, e0, k0⟩ := Go.VAI.hasV_RPtS h0
      subst e0
      exact Go.VAI.d_laws_FnExactGoodCurve k0)
theorem closed : joinedFacts Try.pinned.checked.prog 4 Try.f4 Rows.fnExactGoodCurveSpec Rows.fnExactGoodCurveRow = true := by
  show joinedFacts Try.prog 4 Try.f4 Rows.fnExactGoodCurveSpec Rows.fnExactGoodCurveRow = true
  unfold joinedFacts
  rw [makeFact, liftsFact, enterFact]
  kernel_rfl
theorem over : Rows.fnExactGoodCurveRow.holds Try.pinned (OpenSpec.ofChange Rows.fnExactGoodCurveSpec) :=
  OpenClaim.holds_of_wide 4 Try.f4 rfl rfl rfl rfl rfl rfl rfl ⟨rfl, rfl, rfl, rfl, rfl⟩ rfl rfl rfl rfl rfl (by kernel_rfl) Try.func4 closed
    (of_decide_eq_true (by kernel_rfl)) (by unfold Func.isWrapper; first | (rw [if_pos (by decide +kernel)]; kernel_rfl) | (rw [if_neg (by decide +kernel)]; exact ⟨rfl, rfl⟩))
    (fun os started H enc _ => lifted os started H enc)
theorem proved : Rows.FnExactGoodCurveSaid := over
#print axioms proved
end Go.Proofs.Ythhjkchpbfahnaa.fnExactGoodCurve
namespace Go.Proofs.Ythhjkchpbfahnaa
/-- The row, under a short name, for the claim. -/
theorem fnExactGoodCurve_holds : Rows.FnExactGoodCurveSaid := fnExactGoodCurve.proved
end Go.Proofs.Ythhjkchpbfahnaa
