/- The small laws on points. -/
import Derived.Test.YtlmclblniflifaaB
namespace Go.VAI
open Go.Proofs
set_option maxRecDepth 100000

abbrev InR (x : Int) : Prop := -9223372036854775808 ≤ x ∧ x ≤ 9223372036854775807
theorem hasV_Int {r : PV} (h : hasV 6 3 r) : ∃ x, r = i64 x ∧ InR x := by
  obtain ⟨x, h, hx⟩ := h
  cases h
  exact ⟨x, rfl, bounds_i64 hx⟩
theorem hasV_Pt {r : PV} (h : hasV 6 23 r) : ∃ x y, r = pt x y ∧ InR x ∧ InR y := by
  obtain ⟨ls, rfl, a, q, rfl, ⟨x, rfl, hx⟩, b, q', rfl, ⟨y, rfl, hy⟩, rfl⟩ := h
  exact ⟨x, y, rfl, bounds_i64 hx, bounds_i64 hy⟩

theorem c_laws_FnExactGoodPt : Callable Try.prog 3 := ⟨_, Try.func3, rfl, by kernel_rfl⟩
theorem d_laws_FnExactGoodPt {x y : Int} (_ : InR x ∧ InR y) : Does Try.prog 3 [pt x y] (.pv (bl true)) [] := by
  refine does_of hT hM Try.func3 rfl (by kernel_rfl) rfl rfl rfl (fun A K hA hK => ?_)
  cbv
  repeat' (first
    | (refine Ar.nn_ hA (by omega) ?_; cbv)
    | (refine Ar.toN_ hA (fun _ _ => ?_); cbv)
    | (refine Ar.notT_ hA ?_; cbv)
    | (refine Ar.notF_ hA ?_; cbv)
    | (refine Ar.lss_ hA (fun _ => ?_) (fun _ => ?_) <;> cbv)
    | (refine Ar.leq_ hA (fun _ => ?_) (fun _ => ?_) <;> cbv)
    | (refine Ar.gtr_ hA (fun _ => ?_) (fun _ => ?_) <;> cbv)
    | (refine Ar.geq_ hA (fun _ => ?_) (fun _ => ?_) <;> cbv)
    | (refine Ar.eql_ hA (fun _ => ?_) (fun _ => ?_) <;> cbv)
    | (refine Ar.neq_ hA (fun _ => ?_) (fun _ => ?_) <;> cbv)
    | (refine Ar.add_ hA (by omega) (fun _ _ => ?_); cbv)
    | (refine Ar.sub_ hA (by omega) (fun _ _ => ?_); cbv)
    | (refine Ar.neg_ hA (by omega) (fun _ _ => ?_); cbv)
    | (refine Ar.mulB hA 2000 2000 (by omega) (by omega) (by omega) (fun _ _ _ _ => ?_); cbv)
    | (refine Ar.mulB hA 3000000000 3000000000 (by omega) (by omega) (by omega) (fun _ _ _ _ => ?_); cbv)
    | (refine Ar.mx_ hA (fun _ _ => ?_); cbv)
    | (refine Ar.mn_ hA (fun _ _ => ?_); cbv)
    | (refine Ar.len_ hA (fun _ _ _ => ?_); cbv)
    | (refine Ar.lenN_ hA (fun _ _ => ?_); cbv)
    | (refine Ar.bneq_ hA (fun _ => ?_) (fun _ => ?_) <;> cbv)
    | (refine Ar.beq_ hA (fun _ => ?_) (fun _ => ?_) <;> cbv)
    | (refine Ar.ofN_ hA (fun _ _ _ => ?_); cbv)
    | (refine Ar.call_ hA c_laws_toPt (d_laws_toPt) rfl ?_; cbv)
    | (refine Ar.callT hA c_spec_GoodPt (d_spec_GoodPt) rfl (fun _ => ?_) (fun _ => ?_) <;> cbv)
    | (refine Ar.callT hA c_impl_GoodPt (d_impl_GoodPt) rfl (fun _ => ?_) (fun _ => ?_) <;> cbv))
  all_goals first | exact hK _ _ rfl rfl | (simp_all; done)

end Go.VAI
