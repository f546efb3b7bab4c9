/- The law FnExactIsTriangulation answers true for every input, and each argument reads afterwards as it did. No condition. -/
import Derived.Test.YtidbgfknaopkkaaRows
import Derived.Test.YtidbgfknaopkkaaAA
import Derived.Test.YtidbgfknaopkkaaVf
import Derived.ProofKit
namespace Go.Proofs.Ytidbgfknaopkkaa.fnExactIsTriangulation
set_option maxRecDepth 100000
theorem own : ownKnob Try.prog.godebug = none := by kernel_rfl
theorem lifted (os : Os) (started : os.Started) (H : Type) (enc : TypeId × Value → H) :
    ReturnsInHanded {} Try.checked os 3 .any (Rows.fnExactIsTriangulationSpec.pre6 enc Try.prog Try.f3 Rows.fnExactIsTriangulationRow.domain false) (Rows.fnExactIsTriangulationSpec.post enc Try.prog Try.f3 false true false false) :=
  Go.VAI.law_lifted (C := Try.checked) (n := 6) Go.VAI.hT own started (by kernel_rfl) Try.func3 rfl (tb := 4) Try.underlying4 (by kernel_rfl) rfl (by decide +kernel) rfl
    (fun ds h => by
      have h : ds.length = 2 := h
      match ds, h with
      | [_, _], _ => rfl)
    (ChangeSpec.witness6 (enc := enc) (C := Try.checked) false ⟨#[], #[.slice none 0 0, .slice none 0 0], []⟩ 8 (by kernel_rfl) (by kernel_rfl) (by kernel_rfl) (by kernel_rfl))
    (fun rs h => by
      obtain ⟨r0, rs0, rfl, h0, h⟩ := h
      obtain ⟨r1, rs1, rfl, h1, h⟩ := h
      obtain rfl := h
      obtain ⟨v0_0, v0_1, e0, k0⟩ := Go.VAI.hasV_PtS h0
      subst e0
      obtain ⟨v1_0, v1_1, e1, k1⟩ := Go.VAI.hasV_TriS h1
      subst e1
      exact Go.VAI.d_laws_FnExactIsTriangulation k0 k1)
theorem closed : joinedFacts Try.pinned.checked.prog 3 Try.f3 Rows.fnExactIsTriangulationSpec Rows.fnExactIsTriangulationRow = true := by
  show joinedFacts Try.prog 3 Try.f3 Rows.fnExactIsTriangulationSpec Rows.fnExactIsTriangulationRow = true
  unfold joinedFacts
  rw [makeFact, liftsFact, enterFact]
  kernel_rfl
theorem over : Rows.fnExactIsTriangulationRow.holds Try.pinned (OpenSpec.ofChange Rows.fnExactIsTriangulationSpec) :=
  OpenClaim.holds_of_wide 3 Try.f3 rfl rfl rfl rfl rfl rfl rfl ⟨rfl, rfl, rfl, rfl, rfl⟩ rfl rfl rfl rfl rfl (by kernel_rfl) Try.func3 closed
    (of_decide_eq_true (by kernel_rfl)) (by unfold Func.isWrapper; first | (rw [if_pos (by decide +kernel)]; kernel_rfl) | (rw [if_neg (by decide +kernel)]; exact ⟨rfl, rfl⟩))
    (fun os started H enc _ => lifted os started H enc)
theorem proved : Rows.FnExactIsTriangulationSaid := over
#print axioms proved
end Go.Proofs.Ytidbgfknaopkkaa.fnExactIsTriangulation
namespace Go.Proofs.Ytidbgfknaopkkaa
/-- The row, under a short name, for the claim. -/
theorem fnExactIsTriangulation_holds : Rows.FnExactIsTriangulationSaid := fnExactIsTriangulation.proved
end Go.Proofs.Ytidbgfknaopkkaa
