/- The law FnExactHasPt answers true for every input, and each argument reads afterwards as it did. No condition. -/
import Derived.Test.YtidbgfknaopkkaaRows
import Derived.Test.YtidbgfknaopkkaaZ7
import Derived.Test.YtidbgfknaopkkaaVf
import Derived.ProofKit
namespace Go.Proofs.Ytidbgfknaopkkaa.fnExactHasPt
set_option maxRecDepth 100000
theorem own : ownKnob Try.prog.godebug = none := by kernel_rfl
theorem lifted (os : Os) (started : os.Started) (H : Type) (enc : TypeId × Value → H) :
    ReturnsInHanded {} Try.checked os 12 .any (Rows.fnExactHasPtSpec.pre6 enc Try.prog Try.f12 Rows.fnExactHasPtRow.domain false) (Rows.fnExactHasPtSpec.post enc Try.prog Try.f12 false true false false) :=
  Go.VAI.law_lifted (C := Try.checked) (n := 6) Go.VAI.hT own started (by kernel_rfl) Try.func12 rfl (tb := 4) Try.underlying4 (by kernel_rfl) rfl (by decide +kernel) rfl
    (fun ds h => by
      have h : ds.length = 2 := h
      match ds, h with
      | [_, _], _ => rfl)
    (ChangeSpec.witness6 (enc := enc) (C := Try.checked) false ⟨#[], #[.slice none 0 0, .agg #[.int .i64 0, .int .i64 0]], []⟩ 8 (by kernel_rfl) (by kernel_rfl) (by kernel_rfl) (by kernel_rfl))
    (fun rs h => by
      obtain ⟨r0, rs0, rfl, h0, h⟩ := h
      obtain ⟨r1, rs1, rfl, h1, h⟩ := h
      obtain rfl := h
      obtain ⟨v0_0, v0_1, e0, k0⟩ := Go.VAI.hasV_PtS h0
      subst e0
      obtain ⟨v1_0, v1_1, e1, k1⟩ := Go.VAI.hasV_Pt h1
      subst e1
      exact Go.VAI.d_laws_FnExactHasPt k0 k1)
theorem closed : joinedFacts Try.pinned.checked.prog 12 Try.f12 Rows.fnExactHasPtSpec Rows.fnExactHasPtRow = true := by
  show joinedFacts Try.prog 12 Try.f12 Rows.fnExactHasPtSpec Rows.fnExactHasPtRow = true
  unfold joinedFacts
  rw [makeFact, liftsFact, enterFact]
  kernel_rfl
theorem over : Rows.fnExactHasPtRow.holds Try.pinned (OpenSpec.ofChange Rows.fnExactHasPtSpec) :=
  OpenClaim.holds_of_wide 12 Try.f12 rfl rfl rfl rfl rfl rfl rfl ⟨rfl, rfl, rfl, rfl, rfl⟩ rfl rfl rfl rfl rfl (by kernel_rfl) Try.func12 closed
    (of_decide_eq_true (by kernel_rfl)) (by unfold Func.isWrapper; first | (rw [if_pos (by decide +kernel)]; kernel_rfl) | (rw [if_neg (by decide +kernel)]; exact ⟨rfl, rfl⟩))
    (fun os started H enc _ => lifted os started H enc)
theorem proved : Rows.FnExactHasPtSaid := over
#print axioms proved
end Go.Proofs.Ytidbgfknaopkkaa.fnExactHasPt
namespace Go.Proofs.Ytidbgfknaopkkaa
/-- The row, under a short name, for the claim. -/
theorem fnExactHasPt_holds : Rows.FnExactHasPtSaid := fnExactHasPt.proved
end Go.Proofs.Ytidbgfknaopkkaa
