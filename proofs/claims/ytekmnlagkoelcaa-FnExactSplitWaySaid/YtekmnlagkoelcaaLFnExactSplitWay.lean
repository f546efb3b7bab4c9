/- The law FnExactSplitWay answers true for every input, and each argument reads afterwards as it did. No condition. -/
import Derived.Test.YtekmnlagkoelcaaRows
import Derived.Test.YtekmnlagkoelcaaW
import Derived.Test.YtekmnlagkoelcaaVf
import Derived.ProofKit
namespace Go.Proofs.Ytekmnlagkoelcaa.fnExactSplitWay
set_option maxRecDepth 100000
theorem own : ownKnob Try.prog.godebug = none := by kernel_rfl
theorem lifted (os : Os) (started : os.Started) (H : Type) (enc : TypeId × Value → H) :
    ReturnsInHanded {} Try.checked os 4 .any (Rows.fnExactSplitWaySpec.pre6 enc Try.prog Try.f4 Rows.fnExactSplitWayRow.domain false) (Rows.fnExactSplitWaySpec.post enc Try.prog Try.f4 false true false false) :=
  Go.VAI.law_lifted (C := Try.checked) (n := 6) Go.VAI.hT own started (by kernel_rfl) Try.func4 rfl (tb := 4) Try.underlying4 (by kernel_rfl) rfl (by decide +kernel) rfl
    (fun ds h => by
      have h : ds.length = 3 := h
      match ds, h with
      | [_, _, _], _ => rfl)
    (ChangeSpec.witness6 (enc := enc) (C := Try.checked) false ⟨#[], #[.slice none 0 0, .int .i64 0, .int .i64 0], []⟩ 8 (by kernel_rfl) (by kernel_rfl) (by kernel_rfl) (by kernel_rfl))
    (fun rs h => by
      obtain ⟨r0, rs0, rfl, h0, h⟩ := h
      obtain ⟨r1, rs1, rfl, h1, h⟩ := h
      obtain ⟨r2, rs2, rfl, h2, h⟩ := h
      obtain rfl := h
      obtain ⟨v0_0, v0_1, e0, k0⟩ := Go.VAI.hasV_PtS h0
      subst e0
      obtain ⟨v1_0, e1, k1⟩ := Go.VAI.hasV_Int h1
      subst e1
      obtain ⟨v2_0, e2, k2⟩ := Go.VAI.hasV_Int h2
      subst e2
      exact Go.VAI.d_laws_FnExactSplitWay k0 k1 k2)
theorem closed : joinedFacts Try.pinned.checked.prog 4 Try.f4 Rows.fnExactSplitWaySpec Rows.fnExactSplitWayRow = true := by
  show joinedFacts Try.prog 4 Try.f4 Rows.fnExactSplitWaySpec Rows.fnExactSplitWayRow = true
  unfold joinedFacts
  rw [makeFact, liftsFact, enterFact]
  kernel_rfl
theorem over : Rows.fnExactSplitWayRow.holds Try.pinned (OpenSpec.ofChange Rows.fnExactSplitWaySpec) :=
  OpenClaim.holds_of_wide 4 Try.f4 rfl rfl rfl rfl rfl rfl rfl ⟨rfl, rfl, rfl, rfl, rfl⟩ rfl rfl rfl rfl rfl (by kernel_rfl) Try.func4 closed
    (of_decide_eq_true (by kernel_rfl)) (by unfold Func.isWrapper; first | (rw [if_pos (by decide +kernel)]; kernel_rfl) | (rw [if_neg (by decide +kernel)]; exact ⟨rfl, rfl⟩))
    (fun os started H enc _ => lifted os started H enc)
theorem proved : Rows.FnExactSplitWaySaid := over
#print axioms proved
end Go.Proofs.Ytekmnlagkoelcaa.fnExactSplitWay
namespace Go.Proofs.Ytekmnlagkoelcaa
/-- The row, under a short name, for the claim. -/
theorem fnExactSplitWay_holds : Rows.FnExactSplitWaySaid := fnExactSplitWay.proved
end Go.Proofs.Ytekmnlagkoelcaa
