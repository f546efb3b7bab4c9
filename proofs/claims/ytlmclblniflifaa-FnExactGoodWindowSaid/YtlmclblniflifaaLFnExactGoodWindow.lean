/- The law FnExactGoodWindow answers true for every input, and each argument reads afterwards as it did. No condition. -/
import Derived.Test.YtlmclblniflifaaRows
import Derived.Test.YtlmclblniflifaaC
import Derived.Test.YtlmclblniflifaaVf
import Derived.ProofKit
namespace Go.Proofs.Ytlmclblniflifaa.fnExactGoodWindow
set_option maxRecDepth 100000
theorem own : ownKnob Try.prog.godebug = none := by kernel_rfl
theorem lifted (os : Os) (started : os.Started) (H : Type) (enc : TypeId × Value → H) :
    ReturnsInHanded {} Try.checked os 4 .any (Rows.fnExactGoodWindowSpec.pre6 enc Try.prog Try.f4 Rows.fnExactGoodWindowRow.domain false) (Rows.fnExactGoodWindowSpec.post enc Try.prog Try.f4 false true false false) :=
  Go.VAI.law_lifted (C := Try.checked) (n := 6) Go.VAI.hT own started (by kernel_rfl) Try.func4 rfl (tb := 4) Try.underlying4 (by kernel_rfl) rfl (by decide +kernel) rfl
    (fun ds h => by
      have h : ds.length = 1 := h
      match ds, h with
      | [_], _ => rfl)
    (ChangeSpec.witness6 (enc := enc) (C := Try.checked) false ⟨#[], #[.agg #[.int .i64 0, .int .i64 0, .int .i64 0, .int .i64 0]], []⟩ 8 (by kernel_rfl) (by kernel_rfl) (by kernel_rfl) (by kernel_rfl))
    (fun rs h => by
      obtain ⟨r0, rs0, rfl, h0, h⟩ := h
      obtain rfl := h
      obtain ⟨v0_0, v0_1, v0_2, v0_3, e0, k0⟩ := Go.VAI.hasV_Window h0
      subst e0
      exact Go.VAI.d_laws_FnExactGoodWindow k0)
theorem closed : joinedFacts Try.pinned.checked.prog 4 Try.f4 Rows.fnExactGoodWindowSpec Rows.fnExactGoodWindowRow = true := by
  show joinedFacts Try.prog 4 Try.f4 Rows.fnExactGoodWindowSpec Rows.fnExactGoodWindowRow = true
  unfold joinedFacts
  rw [makeFact, liftsFact, enterFact]
  kernel_rfl
theorem over : Rows.fnExactGoodWindowRow.holds Try.pinned (OpenSpec.ofChange Rows.fnExactGoodWindowSpec) :=
  OpenClaim.holds_of_wide 4 Try.f4 rfl rfl rfl rfl rfl rfl rfl ⟨rfl, rfl, rfl, rfl, rfl⟩ rfl rfl rfl rfl rfl (by kernel_rfl) Try.func4 closed
    (of_decide_eq_true (by kernel_rfl)) (by unfold Func.isWrapper; first | (rw [if_pos (by decide +kernel)]; kernel_rfl) | (rw [if_neg (by decide +kernel)]; exact ⟨rfl, rfl⟩))
    (fun os started H enc _ => lifted os started H enc)
theorem proved : Rows.FnExactGoodWindowSaid := over
#print axioms proved
end Go.Proofs.Ytlmclblniflifaa.fnExactGoodWindow
namespace Go.Proofs.Ytlmclblniflifaa
/-- The row, under a short name, for the claim. -/
theorem fnExactGoodWindow_holds : Rows.FnExactGoodWindowSaid := fnExactGoodWindow.proved
end Go.Proofs.Ytlmclblniflifaa
