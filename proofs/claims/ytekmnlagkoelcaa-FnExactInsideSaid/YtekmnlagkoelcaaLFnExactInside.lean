/- The law FnExactInside answers true for every input, and each argument reads afterwards as it did. No condition. -/
import Derived.Test.YtekmnlagkoelcaaRows
import Derived.Test.YtekmnlagkoelcaaS
import Derived.Test.YtekmnlagkoelcaaVf
import Derived.ProofKit
namespace Go.Proofs.Ytekmnlagkoelcaa.fnExactInside
set_option maxRecDepth 100000
theorem own : ownKnob Try.prog.godebug = none := by kernel_rfl
theorem lifted (os : Os) (started : os.Started) (H : Type) (enc : TypeId × Value → H) :
    ReturnsInHanded {} Try.checked os 12 .any (Rows.fnExactInsideSpec.pre6 enc Try.prog Try.f12 Rows.fnExactInsideRow.domain false) (Rows.fnExactInsideSpec.post enc Try.prog Try.f12 false true false false) :=
  Go.VAI.law_lifted (C := Try.checked) (n := 6) Go.VAI.hT own started (by kernel_rfl) Try.func12 rfl (tb := 4) Try.underlying4 (by kernel_rfl) rfl (by decide +kernel) rfl
    (fun ds h => by
      have h : ds.length = 3 := h
      match ds, h with
      | [_, _, _], _ => rfl)
    (ChangeSpec.witness6 (enc := enc) (C := Try.checked) false ⟨#[], #[.slice none 0 0, .agg #[.int .i64 0, .int .i64 0], .bool false], []⟩ 8 (by kernel_rfl) (by kernel_rfl) (by kernel_rfl) (by kernel_rfl))
    (fun rs h => by
      obtain ⟨r0, rs0, rfl, h0, h⟩ := h
      obtain ⟨r1, rs1, rfl, h1, h⟩ := h
      obtain ⟨r2, rs2, rfl, h2, h⟩ := h
      obtain rfl := h
      obtain ⟨v0_0, v0_1, e0, k0⟩ := Go.VAI.hasV_PtS h0
      subst e0
      obtain ⟨v1_0, v1_1, e1, k1⟩ := Go.VAI.hasV_Pt h1
      subst e1
      obtain ⟨v2_0, e2, k2⟩ := Go.VAI.hasV_Bool h2
      subst e2
      exact Go.VAI.d_laws_FnExactInside k0 k1 k2)
theorem closed : joinedFacts Try.pinned.checked.prog 12 Try.f12 Rows.fnExactInsideSpec Rows.fnExactInsideRow = true := by
  show joinedFacts Try.prog 12 Try.f12 Rows.fnExactInsideSpec Rows.fnExactInsideRow = true
  unfold joinedFacts
  rw [makeFact, liftsFact, enterFact]
  kernel_rfl
theorem over : Rows.fnExactInsideRow.holds Try.pinned (OpenSpec.ofChange Rows.fnExactInsideSpec) :=
  OpenClaim.holds_of_wide 12 Try.f12 rfl rfl rfl rfl rfl rfl rfl ⟨rfl, rfl, rfl, rfl, rfl⟩ rfl rfl rfl rfl rfl (by kernel_rfl) Try.func12 closed
    (of_decide_eq_true (by kernel_rfl)) (by unfold Func.isWrapper; first | (rw [if_pos (by decide +kernel)]; kernel_rfl) | (rw [if_neg (by decide +kernel)]; exact ⟨rfl, rfl⟩))
    (fun os started H enc _ => lifted os started H enc)
theorem proved : Rows.FnExactInsideSaid := over
#print axioms proved
end Go.Proofs.Ytekmnlagkoelcaa.fnExactInside
namespace Go.Proofs.Ytekmnlagkoelcaa
/-- The row, under a short name, for the claim. -/
theorem fnExactInside_holds : Rows.FnExactInsideSaid := fnExactInside.proved
end Go.Proofs.Ytekmnlagkoelcaa
