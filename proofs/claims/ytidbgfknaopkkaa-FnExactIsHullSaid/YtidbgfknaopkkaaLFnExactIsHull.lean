/- The law FnExactIsHull answers true for every input, and each argument reads afterwards as it did. No condition. -/
import Derived.Test.YtidbgfknaopkkaaRows
import Derived.Test.YtidbgfknaopkkaaZ5
import Derived.Test.YtidbgfknaopkkaaVf
import Derived.ProofKit
namespace Go.Proofs.Ytidbgfknaopkkaa.fnExactIsHull
set_option maxRecDepth 100000
theorem own : ownKnob Try.prog.godebug = none := by kernel_rfl
theorem lifted (os : Os) (started : os.Started) (H : Type) (enc : TypeId × Value → H) :
    ReturnsInHanded {} Try.checked os 10 .any (Rows.fnExactIsHullSpec.pre6 enc Try.prog Try.f10 Rows.fnExactIsHullRow.domain false) (Rows.fnExactIsHullSpec.post enc Try.prog Try.f10 false true false false) :=
  Go.VAI.law_lifted (C := Try.checked) (n := 6) Go.VAI.hT own started (by kernel_rfl) Try.func10 rfl (tb := 4) Try.underlying4 (by kernel_rfl) rfl (by decide +kernel) rfl
    (fun ds h => by
      have h : ds.length = 2 := h
      match ds, h with
      | [_, _], _ => rfl)
    (ChangeSpec.witness6 (enc := enc) (C := Try.checked) false ⟨#[], #[.slice none 0 0, .slice none 0 0], []⟩ 8 (by kernel_rfl) (by kernel_rfl) (by kernel_rfl) (by kernel_rfl))
    (fun rs h => by
      obtain ⟨r0, rs0, rfl, h0, h⟩ := h
      obtain ⟨r1, rs1, rfl, h1, h⟩ := h
      obtain rfl := h
      obtain ⟨v0_0, v0_1, e0, k0⟩ := Go.VAI.hasV_PtS h0
      subst e0
      obtain ⟨v1_0, v1_1, e1, k1⟩ := Go.VAI.hasV_PtS h1
      subst e1
      exact Go.VAI.d_laws_FnExactIsHull k0 k1)
theorem closed : joinedFacts Try.pinned.checked.prog 10 Try.f10 Rows.fnExactIsHullSpec Rows.fnExactIsHullRow = true := by
  show joinedFacts Try.prog 10 Try.f10 Rows.fnExactIsHullSpec Rows.fnExactIsHullRow = true
  unfold joinedFacts
  rw [makeFact, liftsFact, enterFact]
  kernel_rfl
theorem over : Rows.fnExactIsHullRow.holds Try.pinned (OpenSpec.ofChange Rows.fnExactIsHullSpec) :=
  OpenClaim.holds_of_wide 10 Try.f10 rfl rfl rfl rfl rfl rfl rfl ⟨rfl, rfl, rfl, rfl, rfl⟩ rfl rfl rfl rfl rfl (by kernel_rfl) Try.func10 closed
    (of_decide_eq_true (by kernel_rfl)) (by unfold Func.isWrapper; first | (rw [if_pos (by decide +kernel)]; kernel_rfl) | (rw [if_neg (by decide +kernel)]; exact ⟨rfl, rfl⟩))
    (fun os started H enc _ => lifted os started H enc)
theorem proved : Rows.FnExactIsHullSaid := over
#print axioms proved
end Go.Proofs.Ytidbgfknaopkkaa.fnExactIsHull
namespace Go.Proofs.Ytidbgfknaopkkaa
/-- The row, under a short name, for the claim. -/
theorem fnExactIsHull_holds : Rows.FnExactIsHullSaid := fnExactIsHull.proved
end Go.Proofs.Ytidbgfknaopkkaa
