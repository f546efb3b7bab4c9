/- The law FnExactByteOf answers true for every input, and each argument reads afterwards as it did. No condition. -/
import Derived.Test.YthhjkchpbfahnaaRows
import Derived.Test.YthhjkchpbfahnaaNV
import Derived.Test.YthhjkchpbfahnaaVf
import Derived.ProofKit
namespace Go.Proofs.Ythhjkchpbfahnaa.fnExactByteOf
set_option maxRecDepth 100000
theorem own : ownKnob Try.prog.godebug = none := by kernel_rfl
theorem lifted (os : Os) (started : os.Started) (H : Type) (enc : TypeId × Value → H) :
    ReturnsInHanded {} Try.checked os 5 .any (Rows.fnExactByteOfSpec.pre6 enc Try.prog Try.f5 Rows.fnExactByteOfRow.domain false) (Rows.fnExactByteOfSpec.post enc Try.prog Try.f5 false true false false) :=
  Go.VAI.law_lifted (C := Try.checked) (n := 6) Go.VAI.hT own started (by kernel_rfl) Try.func5 rfl (tb := 4) Try.underlying4 (by kernel_rfl) rfl (by decide +kernel) rfl
    (fun ds h => by
      have h : ds.length = 1 := h
      match ds, h with
      | [_], _ => rfl)
    (ChangeSpec.witness6 (enc := enc) (C := Try.checked) false ⟨#[], #[.agg #[.bool false, .slice none 0 0, .bool false, .slice none 0 0]], []⟩ 8 (by kernel_rfl) (by kernel_rfl) (by kernel_rfl) (by kernel_rfl))
    (fun rs h => by
      obtain ⟨r0, rs0, rfl, h0, h⟩ := h
      obtain rfl := h
      obtain ⟨v0_0, v0_1, v0_2, v0_3, v0_4, v0_5, e0, k0⟩ := Go.VAI.hasV_Rat h0
      subst e0
      exact Go.VAI.d_laws_FnExactByteOf k0)
theorem closed : joinedFacts Try.pinned.checked.prog 5 Try.f5 Rows.fnExactByteOfSpec Rows.fnExactByteOfRow = true := by
  show joinedFacts Try.prog 5 Try.f5 Rows.fnExactByteOfSpec Rows.fnExactByteOfRow = true
  unfold joinedFacts
  rw [makeFact, liftsFact, enterFact]
  kernel_rfl
theorem over : Rows.fnExactByteOfRow.holds Try.pinned (OpenSpec.ofChange Rows.fnExactByteOfSpec) :=
  OpenClaim.holds_of_wide 5 Try.f5 rfl rfl rfl rfl rfl rfl rfl ⟨rfl, rfl, rfl, rfl, rfl⟩ rfl rfl rfl rfl rfl (by kernel_rfl) Try.func5 closed
    (of_decide_eq_true (by kernel_rfl)) (by unfold Func.isWrapper; first | (rw [if_pos (by decide +kernel)]; kernel_rfl) | (rw [if_neg (by decide +kernel)]; exact ⟨rfl, rfl⟩))
    (fun os started H enc _ => lifted os started H enc)
theorem proved : Rows.FnExactByteOfSaid := over
#print axioms proved
end Go.Proofs.Ythhjkchpbfahnaa.fnExactByteOf
namespace Go.Proofs.Ythhjkchpbfahnaa
/-- The row, under a short name, for the claim. -/
theorem fnExactByteOf_holds : Rows.FnExactByteOfSaid := fnExactByteOf.proved
end Go.Proofs.Ythhjkchpbfahnaa
