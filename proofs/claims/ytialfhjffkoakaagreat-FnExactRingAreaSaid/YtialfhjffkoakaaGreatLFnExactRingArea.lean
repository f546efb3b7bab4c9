/- The law FnExactRingArea answers true for every input, and each argument reads afterwards as it did. No condition. -/
import Derived.Test.YtialfhjffkoakaaGreatRows
import Derived.Test.YtialfhjffkoakaaGreatQG
import Derived.Test.YtialfhjffkoakaaGreatVf
import Derived.ProofKit
namespace Go.Proofs.YtialfhjffkoakaaGreat.fnExactRingArea
set_option maxRecDepth 100000
theorem own : ownKnob Tryz.prog.godebug = none := by kernel_rfl
theorem lifted (os : Os) (started : os.Started) (H : Type) (enc : TypeId × Value → H) :
    ReturnsInHanded {} Tryz.checked os 3 .any (Rows.fnExactRingAreaSpec.pre6 enc Tryz.prog Tryz.f3 Rows.fnExactRingAreaRow.domain false) (Rows.fnExactRingAreaSpec.post enc Tryz.prog Tryz.f3 false true false false) :=
  Go.VAI.law_lifted (C := Tryz.checked) (n := 6) Go.VAI.hT own started (by kernel_rfl) Tryz.func3 rfl (tb := 4) Tryz.underlying4 (by kernel_rfl) rfl (by decide +kernel) rfl
    (fun ds h => by
      have h : ds.length = 1 := h
      match ds, h with
      | [_], _ => rfl)
    (ChangeSpec.witness6 (enc := enc) (C := Tryz.checked) false ⟨#[], #[.slice none 0 0], []⟩ 8 (by kernel_rfl) (by kernel_rfl) (by kernel_rfl) (by kernel_rfl))
    (fun rs h => by
      obtain ⟨r0, rs0, rfl, h0, h⟩ := h
      obtain rfl := h
      obtain ⟨v0_0, v0_1, e0, k0⟩ := Go.VAI.hasV_RPtS h0
      subst e0
      exact Go.VAI.d_laws_FnExactRingArea k0)
theorem closed : joinedFacts Tryz.pinned.checked.prog 3 Tryz.f3 Rows.fnExactRingAreaSpec Rows.fnExactRingAreaRow = true := by
  show joinedFacts Tryz.prog 3 Tryz.f3 Rows.fnExactRingAreaSpec Rows.fnExactRingAreaRow = true
  unfold joinedFacts
  rw [makeFact, liftsFact, enterFact]
  kernel_rfl
theorem over : Rows.fnExactRingAreaRow.holds Tryz.pinned (OpenSpec.ofChange Rows.fnExactRingAreaSpec) :=
  OpenClaim.holds_of_wide 3 Tryz.f3 rfl rfl rfl rfl rfl rfl rfl ⟨rfl, rfl, rfl, rfl, rfl⟩ rfl rfl rfl rfl rfl (by kernel_rfl) Tryz.func3 closed
    (of_decide_eq_true (by kernel_rfl)) (by unfold Func.isWrapper; first | (rw [if_pos (by decide +kernel)]; kernel_rfl) | (rw [if_neg (by decide +kernel)]; exact ⟨rfl, rfl⟩))
    (fun os started H enc _ => lifted os started H enc)
theorem proved : Rows.FnExactRingAreaSaid := over
#print axioms proved
end Go.Proofs.YtialfhjffkoakaaGreat.fnExactRingArea
namespace Go.Proofs.YtialfhjffkoakaaGreat
/-- The row, under a short name, for the claim. -/
theorem fnExactRingArea_holds : Rows.FnExactRingAreaSaid := fnExactRingArea.proved
end Go.Proofs.YtialfhjffkoakaaGreat
