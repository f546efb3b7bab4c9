/- The law FnExactMixPt answers true for every input, and each argument reads afterwards as it did. No condition. -/
import Derived.Test.YtialfhjffkoakaaRows
import Derived.Test.YtialfhjffkoakaaQA
import Derived.Test.YtialfhjffkoakaaVf
import Derived.ProofKit
namespace Go.Proofs.Ytialfhjffkoakaa.fnExactMixPt
set_option maxRecDepth 100000
theorem own : ownKnob Try.prog.godebug = none := by kernel_rfl
theorem lifted (os : Os) (started : os.Started) (H : Type) (enc : TypeId × Value → H) :
    ReturnsInHanded {} Try.checked os 4 .any (Rows.fnExactMixPtSpec.pre6 enc Try.prog Try.f4 Rows.fnExactMixPtRow.domain false) (Rows.fnExactMixPtSpec.post enc Try.prog Try.f4 false true false false) :=
  Go.VAI.law_lifted (C := Try.checked) (n := 6) Go.VAI.hT own started (by kernel_rfl) Try.func4 rfl (tb := 4) Try.underlying4 (by kernel_rfl) rfl (by decide +kernel) rfl
    (fun ds h => by
      have h : ds.length = 3 := h
      match ds, h with
      | [_, _, _], _ => rfl)
    (ChangeSpec.witness6 (enc := enc) (C := Try.checked) false ⟨#[], #[.agg #[.bool false, .slice none 0 0, .bool false, .slice none 0 0, .bool false, .slice none 0 0, .bool false, .slice none 0 0], .agg #[.bool false, .slice none 0 0, .bool false, .slice none 0 0, .bool false, .slice none 0 0, .bool false, .slice none 0 0], .agg #[.bool false, .slice none 0 0, .bool false, .slice none 0 0]], []⟩ 8 (by kernel_rfl) (by kernel_rfl) (by kernel_rfl) (by kernel_rfl))
    (fun rs h => by
      obtain ⟨r0, rs0, rfl, h0, h⟩ := h
      obtain ⟨r1, rs1, rfl, h1, h⟩ := h
      obtain ⟨r2, rs2, rfl, h2, h⟩ := h
      obtain rfl := h
      obtain ⟨v0_0, v0_1, v0_2, v0_3, v0_4, v0_5, v0_6, v0_7, v0_8, v0_9, v0_10, v0_11, e0, k0⟩ := Go.VAI.hasV_RPt h0
      subst e0
      obtain ⟨v1_0, v1_1, v1_2, v1_3, v1_4, v1_5, v1_6, v1_7, v1_8, v1_9, v1_10, v1_11, e1, k1⟩ := Go.VAI.hasV_RPt h1
      subst e1
      obtain ⟨v2_0, v2_1, v2_2, v2_3, v2_4, v2_5, e2, k2⟩ := Go.VAI.hasV_Rat h2
      subst e2
      exact Go.VAI.d_laws_FnExactMixPt k0 k1 k2)
theorem closed : joinedFacts Try.pinned.checked.prog 4 Try.f4 Rows.fnExactMixPtSpec Rows.fnExactMixPtRow = true := by
  show joinedFacts Try.prog 4 Try.f4 Rows.fnExactMixPtSpec Rows.fnExactMixPtRow = true
  unfold joinedFacts
  rw [makeFact, liftsFact, enterFact]
  kernel_rfl
theorem over : Rows.fnExactMixPtRow.holds Try.pinned (OpenSpec.ofChange Rows.fnExactMixPtSpec) :=
  OpenClaim.holds_of_wide 4 Try.f4 rfl rfl rfl rfl rfl rfl rfl ⟨rfl, rfl, rfl, rfl, rfl⟩ rfl rfl rfl rfl rfl (by kernel_rfl) Try.func4 closed
    (of_decide_eq_true (by kernel_rfl)) (by unfold Func.isWrapper; first | (rw [if_pos (by decide +kernel)]; kernel_rfl) | (rw [if_neg (by decide +kernel)]; exact ⟨rfl, rfl⟩))
    (fun os started H enc _ => lifted os started H enc)
theorem proved : Rows.FnExactMixPtSaid := over
#print axioms proved
end Go.Proofs.Ytialfhjffkoakaa.fnExactMixPt
namespace Go.Proofs.Ytialfhjffkoakaa
/-- The row, under a short name, for the claim. -/
theorem fnExactMixPt_holds : Rows.FnExactMixPtSaid := fnExactMixPt.proved
end Go.Proofs.Ytialfhjffkoakaa
