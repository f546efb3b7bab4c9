/- The laws GoodRing and GoodCurve. -/
import Derived.Test.YthhjkchpbfahnaaNT
namespace Go.VAI
open Go.Proofs
set_option maxRecDepth 100000
set_option maxHeartbeats 8000000

theorem len8_ok {p : R8} (h : len8 1048576 p) : lenOk p.1 ∧ lenOk p.2 := by
  unfold len8 len4 at h
  unfold lenOk
  omega
theorem toRPtS_pv {es : List PV} {l : List R8} (hes : es = l.map r8pv) (hb : l.length ≤ 1048576) (hb2 : ∀ p ∈ l, len8 1048576 p) : Does Try.prog 8 [.sl es] (.pv (.sl es)) [] := by
  have h := (d_laws_toRPtS hes hb hb2).wk
  split at h <;> exact h

theorem c_laws_FnExactGoodRing : Callable Try.prog 3 := ⟨_, Try.func3, rfl, by kernel_rfl⟩
theorem d_laws_FnExactGoodRing {es : List PV} {l : List R8} (hes : es = l.map r8pv ∧ l.length ≤ 9223372036854775807 ∧ ∀ p ∈ l, lenOk p.1 ∧ lenOk p.2) : Does Try.prog 3 [.sl es] (.pv (bl true)) [] := by
  refine does_of hT hM Try.func3 rfl (D := []) (by kernel_rfl) rfl rfl rfl (fun A K hA hK => ?_)
  obtain ⟨hes, hmax, hlo⟩ := hes
  have dz := d_laws_szRPtS (x := 1048576) hes hmax hlo (by omega)
  have hz := fun h => @szRow_ok l 1048576 1048576 (by omega) h
  have dt := toRPtS_pv hes
  have d1 := d_spec_GoodRing hes hmax hlo
  have d2 := d_impl_GoodRing hes hmax hlo
  have de := d_laws_eqRPtS hes
  clear hes hlo
  generalize szRow l 1048576 = Z at *
  generalize ringOk l = G at *
  cbv
  refine Ar.callI hA c_laws_szRPtS dz rfl (fun r hr => ?_)
  cbv
  refine Ar.lss_ hA (fun h => ?_) (fun h => ?_)
  · cbv
    exact hK _ _ rfl rfl
  obtain ⟨z1, z2, _⟩ := hz (by omega)
  have dt' := dt z1 z2
  have de' := de z1 z2
  clear dt de hz
  cases G
  all_goals
    cbv
    refine Ar.call_ hA c_laws_toRPtS dt' rfl ?_
    cbv
    refine Ar.call_ hA c_spec_GoodRing d1 rfl ?_
    cbv
    refine Ar.call_ hA c_laws_toRPtS dt' rfl ?_
    cbv
    refine Ar.call_ hA c_impl_GoodRing d2 rfl ?_
    cbv
    refine Ar.bneq_ hA (fun h => absurd rfl h) (fun _ => ?_)
    cbv
    refine Ar.call_ hA c_laws_toRPtS dt' rfl ?_
    cbv
    refine Ar.callT hA c_laws_eqRPtS de' rfl (fun _ => ?_) (fun h => by cases h)
    cbv
    refine Ar.notT_ hA ?_
    cbv
    exact hK _ _ rfl rfl

theorem c_laws_FnExactGoodCurve : Callable Try.prog 4 := ⟨_, Try.func4, rfl, by kernel_rfl⟩
theorem d_laws_FnExactGoodCurve {es : List PV} {l : List R8} (hes : es = l.map r8pv ∧ l.length ≤ 9223372036854775807 ∧ ∀ p ∈ l, lenOk p.1 ∧ lenOk p.2) : Does Try.prog 4 [.sl es] (.pv (bl true)) [] := by
  refine does_of hT hM Try.func4 rfl (D := []) (by kernel_rfl) rfl rfl rfl (fun A K hA hK => ?_)
  obtain ⟨hes, hmax, hlo⟩ := hes
  have dz := d_laws_szRPtS (x := 1048576) hes hmax hlo (by omega)
  have hz := fun h => @szRow_ok l 1048576 1048576 (by omega) h
  have dt := toRPtS_pv hes
  have d1 := d_spec_GoodCurve hes hmax hlo
  have d2 := d_impl_GoodCurve hes hmax hlo
  have de := d_laws_eqRPtS hes
  clear hes hlo
  generalize szRow l 1048576 = Z at *
  generalize curveOk l = G at *
  cbv
  refine Ar.callI hA c_laws_szRPtS dz rfl (fun r hr => ?_)
  cbv
  refine Ar.lss_ hA (fun h => ?_) (fun h => ?_)
  · cbv
    exact hK _ _ rfl rfl
  obtain ⟨z1, z2, _⟩ := hz (by omega)
  have dt' := dt z1 z2
  have de' := de z1 z2
  clear dt de hz
  cases G
  all_goals
    cbv
    refine Ar.call_ hA c_laws_toRPtS dt' rfl ?_
    cbv
    refine Ar.call_ hA c_spec_GoodCurve d1 rfl ?_
    cbv
    refine Ar.call_ hA c_laws_toRPtS dt' rfl ?_
    cbv
    refine Ar.call_ hA c_impl_GoodCurve d2 rfl ?_
    cbv
    refine Ar.bneq_ hA (fun h => absurd rfl h) (fun _ => ?_)
    cbv
    refine Ar.call_ hA c_laws_toRPtS dt' rfl ?_
    cbv
    refine Ar.callT hA c_laws_eqRPtS de' rfl (fun _ => ?_) (fun h => by cases h)
    cbv
    refine Ar.notT_ hA ?_
    cbv
    exact hK _ _ rfl rfl

end Go.VAI
