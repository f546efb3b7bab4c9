/- The law FnExactInTriangle answers true for every input, and each argument reads afterwards as it did. No condition. -/
import Derived.Test.YtlmclblniflifaaRows
import Derived.Test.YtlmclblniflifaaD
import Derived.Test.YtlmclblniflifaaVf
import Derived.ProofKit
namespace Go.Proofs.Ytlmclblniflifaa.fnExactInTriangle
set_option maxRecDepth 100000
theorem own : ownKnob Try.prog.godebug = none := by kernel_rfl
theorem lifted (os : Os) (started : os.Started) (H : Type) (enc : TypeId × Value → H) :
    ReturnsInHanded {} Try.checked os 9 .any (Rows.fnExactInTriangleSpec.pre6 enc Try.prog Try.f9 Rows.fnExactInTriangleRow.domain false) (Rows.fnExactInTriangleSpec.post enc Try.prog Try.f9 false true false false) :=
  Go.VAI.law_lifted (C := Try.checked) (n := 6) Go.VAI.hT own started (by kernel_rfl) Try.func9 rfl (tb := 4) Try.underlying4 (by kernel_rfl) rfl (by decide +kernel) rfl
    (fun ds h => by
      have h : ds.length = 4 := h
      match ds, h with
      | [_, _, _, _], _ => rfl)
    (ChangeSpec.witness6 (enc := enc) (C := Try.checked) false ⟨#[], #[.agg #[.int .i64 0, .int .i64 0], .agg #[.int .i64 0, .int .i64 0], .agg #[.int .i64 0, .int .i64 0], .agg #[.int .i64 0, .int .i64 0]], []⟩ 8 (by kernel_rfl) (by kernel_rfl) (by kernel_rfl) (by kernel_rfl))
    (fun rs h => by
      obtain ⟨r0, rs0, rfl, h0, h⟩ := h
      obtain ⟨r1, rs1, rfl, h1, h⟩ := h
      obtain ⟨r2, rs2, rfl, h2, h⟩ := h
      obtain ⟨r3, rs3, rfl, h3, h⟩ := h
      obtain rfl := h
      obtain ⟨v0_0, v0_1, e0, k0⟩ := Go.VAI.hasV_Pt h0
      subst e0
      obtain ⟨v1_0, v1_1, e1, k1⟩ := Go.VAI.hasV_Pt h1
      subst e1
      obtain ⟨v2_0, v2_1, e2, k2⟩ := Go.VAI.hasV_Pt h2
      subst e2
      obtain ⟨v3_0, v3_1, e3, k3⟩ := Go.VAI.hasV_Pt h3
      subst e3
      exact Go.VAI.d_laws_FnExactInTriangle k0 k1 k2 k3)
theorem closed : joinedFacts Try.pinned.checked.prog 9 Try.f9 Rows.fnExactInTriangleSpec Rows.fnExactInTriangleRow = true := by
  show joinedFacts Try.prog 9 Try.f9 Rows.fnExactInTriangleSpec Rows.fnExactInTriangleRow = true
  unfold joinedFacts
  rw [makeFact, liftsFact, enterFact]
  kernel_rfl
theorem over : Rows.fnExactInTriangleRow.holds Try.pinned (OpenSpec.ofChange Rows.fnExactInTriangleSpec) :=
  OpenClaim.holds_of_wide 9 Try.f9 rfl rfl rfl rfl rfl rfl rfl ⟨rfl, rfl, rfl, rfl, rfl⟩ rfl rfl rfl rfl rfl (by kernel_rfl) Try.func9 closed
    (of_decide_eq_true (by kernel_rfl)) (by unfold Func.isWrapper; first | (rw [if_pos (by decide +kernel)]; kernel_rfl) | (rw [if_neg (by decide +kernel)]; exact ⟨rfl, rfl⟩))
    (fun os started H enc _ => lifted os started H enc)
theorem proved : Rows.FnExactInTriangleSaid := over
#print axioms proved
end Go.Proofs.Ytlmclblniflifaa.fnExactInTriangle
namespace Go.Proofs.Ytlmclblniflifaa
/-- The row, under a short name, for the claim. -/
theorem fnExactInTriangle_holds : Rows.FnExactInTriangleSaid := fnExactInTriangle.proved
end Go.Proofs.Ytlmclblniflifaa
