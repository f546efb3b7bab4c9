/- IsSimple, InnerPoints: the public functions and the laws. -/
import Derived.Test.YtekmnlagkoelcaaT
namespace Go.VAI
open Go.Proofs
set_option maxRecDepth 100000
set_option maxHeartbeats 8000000

theorem c_spec_IsSimple : Callable Try.prog 38 := ⟨_, Try.func38, rfl, by kernel_rfl⟩
theorem d_spec_IsSimple {es : List PV} {l : List P2} (hes : es = l.map P2.pv) (hb : l.length ≤ 1048576) : Does Try.prog 38 [.sl es] (.tup [.pv (bl (isWayF l && simpleF l)), .pv (bl (isWayF l))]) [] := by
  refine does_of hT hM Try.func38 rfl (D := []) (by kernel_rfl) rfl rfl rfl (fun A K hA hK => ?_)
  cbv
  refine Ar.callT hA c_spec_l8Way (d_spec_l8Way hes hb) rfl (fun hc => ?_) (fun hc => ?_)
  · obtain ⟨c1, c2, hok⟩ := isWayF_iff.1 hc
    rw [hc, Bool.true_and] at hK
    have ds := d_spec_l8Simple hes c1 c2 hok
    generalize simpleF l = B at ds hK
    cbv
    repeat' (first
      | (refine Ar.nn_ hA (by omega) ?_; cbv)
      | (refine Ar.toN_ hA (fun _ _ => ?_); cbv)
      | (refine Ar.notT_ hA ?_; cbv)
      | (refine Ar.notF_ hA ?_; cbv)
      | (refine Ar.lss_ hA (fun _ => ?_) (fun _ => ?_) <;> cbv)
      | (refine Ar.leq_ hA (fun _ => ?_) (fun _ => ?_) <;> cbv)
      | (refine Ar.gtr_ hA (fun _ => ?_) (fun _ => ?_) <;> cbv)
      | (refine Ar.geq_ hA (fun _ => ?_) (fun _ => ?_) <;> cbv)
      | (refine Ar.eql_ hA (fun _ => ?_) (fun _ => ?_) <;> cbv)
      | (refine Ar.neq_ hA (fun _ => ?_) (fun _ => ?_) <;> cbv)
      | (refine Ar.add_ hA (by omega) (fun _ _ => ?_); cbv)
      | (refine Ar.sub_ hA (by omega) (fun _ _ => ?_); cbv)
      | (refine Ar.neg_ hA (by omega) (fun _ _ => ?_); cbv)
      | (refine Ar.mulB hA 2000 2000 (by omega) (by omega) (by omega) (fun _ _ _ _ => ?_); cbv)
      | (refine Ar.mulB hA 3000000000 3000000000 (by omega) (by omega) (by omega) (fun _ _ _ _ => ?_); cbv)
      | (refine Ar.nz_ hA (by omega) ?_; cbv)
      | (refine Ar.rem_ hA (by omega) (fun _ _ => ?_); cbv)
      | (refine Ar.quo_ hA (by omega) (fun _ _ => ?_); cbv)
      | (refine Ar.mx_ hA (fun _ _ => ?_); cbv)
      | (refine Ar.mn_ hA (fun _ _ => ?_); cbv)
      | (refine Ar.len_ hA (fun _ _ _ => ?_); cbv)
      | (refine Ar.lenN_ hA (fun _ _ => ?_); cbv)
      | (refine Ar.bneq_ hA (fun _ => ?_) (fun _ => ?_) <;> cbv)
      | (refine Ar.beq_ hA (fun _ => ?_) (fun _ => ?_) <;> cbv)
      | (refine Ar.ofN_ hA (fun _ _ _ => ?_); cbv)
)
    refine Ar.call_ hA c_spec_l8Simple ds rfl ?_
    cbv
    exact hK _ _ rfl rfl
  · rw [hc] at hK
    cbv
    repeat' (first
      | (refine Ar.nn_ hA (by omega) ?_; cbv)
      | (refine Ar.toN_ hA (fun _ _ => ?_); cbv)
      | (refine Ar.notT_ hA ?_; cbv)
      | (refine Ar.notF_ hA ?_; cbv)
      | (refine Ar.lss_ hA (fun _ => ?_) (fun _ => ?_) <;> cbv)
      | (refine Ar.leq_ hA (fun _ => ?_) (fun _ => ?_) <;> cbv)
      | (refine Ar.gtr_ hA (fun _ => ?_) (fun _ => ?_) <;> cbv)
      | (refine Ar.geq_ hA (fun _ => ?_) (fun _ => ?_) <;> cbv)
      | (refine Ar.eql_ hA (fun _ => ?_) (fun _ => ?_) <;> cbv)
      | (refine Ar.neq_ hA (fun _ => ?_) (fun _ => ?_) <;> cbv)
      | (refine Ar.add_ hA (by omega) (fun _ _ => ?_); cbv)
      | (refine Ar.sub_ hA (by omega) (fun _ _ => ?_); cbv)
      | (refine Ar.neg_ hA (by omega) (fun _ _ => ?_); cbv)
      | (refine Ar.mulB hA 2000 2000 (by omega) (by omega) (by omega) (fun _ _ _ _ => ?_); cbv)
      | (refine Ar.mulB hA 3000000000 3000000000 (by omega) (by omega) (by omega) (fun _ _ _ _ => ?_); cbv)
      | (refine Ar.nz_ hA (by omega) ?_; cbv)
      | (refine Ar.rem_ hA (by omega) (fun _ _ => ?_); cbv)
      | (refine Ar.quo_ hA (by omega) (fun _ _ => ?_); cbv)
      | (refine Ar.mx_ hA (fun _ _ => ?_); cbv)
      | (refine Ar.mn_ hA (fun _ _ => ?_); cbv)
      | (refine Ar.len_ hA (fun _ _ _ => ?_); cbv)
      | (refine Ar.lenN_ hA (fun _ _ => ?_); cbv)
      | (refine Ar.bneq_ hA (fun _ => ?_) (fun _ => ?_) <;> cbv)
      | (refine Ar.beq_ hA (fun _ => ?_) (fun _ => ?_) <;> cbv)
      | (refine Ar.ofN_ hA (fun _ _ _ => ?_); cbv)
)
    exact hK _ _ rfl rfl

theorem c_impl_IsSimple : Callable Try.prog 39 := ⟨_, Try.func39, rfl, by kernel_rfl⟩
theorem d_impl_IsSimple {es : List PV} {l : List P2} (hes : es = l.map P2.pv) (hb : l.length ≤ 1048576) : Does Try.prog 39 [.sl es] (.tup [.pv (bl (isWayF l && simpleF l)), .pv (bl (isWayF l))]) [] := by
  refine does_of hT hM Try.func39 rfl (D := []) (by kernel_rfl) rfl rfl rfl (fun A K hA hK => ?_)
  cbv
  refine Ar.callT hA c_impl_isWay (d_impl_isWay hes hb) rfl (fun hc => ?_) (fun hc => ?_)
  · obtain ⟨c1, c2, hok⟩ := isWayF_iff.1 hc
    rw [hc, Bool.true_and] at hK
    have ds := d_impl_isSimple hes c1 c2 hok
    generalize simpleF l = B at ds hK
    cbv
    repeat' (first
      | (refine Ar.nn_ hA (by omega) ?_; cbv)
      | (refine Ar.toN_ hA (fun _ _ => ?_); cbv)
      | (refine Ar.notT_ hA ?_; cbv)
      | (refine Ar.notF_ hA ?_; cbv)
      | (refine Ar.lss_ hA (fun _ => ?_) (fun _ => ?_) <;> cbv)
      | (refine Ar.leq_ hA (fun _ => ?_) (fun _ => ?_) <;> cbv)
      | (refine Ar.gtr_ hA (fun _ => ?_) (fun _ => ?_) <;> cbv)
      | (refine Ar.geq_ hA (fun _ => ?_) (fun _ => ?_) <;> cbv)
      | (refine Ar.eql_ hA (fun _ => ?_) (fun _ => ?_) <;> cbv)
      | (refine Ar.neq_ hA (fun _ => ?_) (fun _ => ?_) <;> cbv)
      | (refine Ar.add_ hA (by omega) (fun _ _ => ?_); cbv)
      | (refine Ar.sub_ hA (by omega) (fun _ _ => ?_); cbv)
      | (refine Ar.neg_ hA (by omega) (fun _ _ => ?_); cbv)
      | (refine Ar.mulB hA 2000 2000 (by omega) (by omega) (by omega) (fun _ _ _ _ => ?_); cbv)
      | (refine Ar.mulB hA 3000000000 3000000000 (by omega) (by omega) (by omega) (fun _ _ _ _ => ?_); cbv)
      | (refine Ar.nz_ hA (by omega) ?_; cbv)
      | (refine Ar.rem_ hA (by omega) (fun _ _ => ?_); cbv)
      | (refine Ar.quo_ hA (by omega) (fun _ _ => ?_); cbv)
      | (refine Ar.mx_ hA (fun _ _ => ?_); cbv)
      | (refine Ar.mn_ hA (fun _ _ => ?_); cbv)
      | (refine Ar.len_ hA (fun _ _ _ => ?_); cbv)
      | (refine Ar.lenN_ hA (fun _ _ => ?_); cbv)
      | (refine Ar.bneq_ hA (fun _ => ?_) (fun _ => ?_) <;> cbv)
      | (refine Ar.beq_ hA (fun _ => ?_) (fun _ => ?_) <;> cbv)
      | (refine Ar.ofN_ hA (fun _ _ _ => ?_); cbv)
)
    refine Ar.call_ hA c_impl_isSimple ds rfl ?_
    cbv
    exact hK _ _ rfl rfl
  · rw [hc] at hK
    cbv
    repeat' (first
      | (refine Ar.nn_ hA (by omega) ?_; cbv)
      | (refine Ar.toN_ hA (fun _ _ => ?_); cbv)
      | (refine Ar.notT_ hA ?_; cbv)
      | (refine Ar.notF_ hA ?_; cbv)
      | (refine Ar.lss_ hA (fun _ => ?_) (fun _ => ?_) <;> cbv)
      | (refine Ar.leq_ hA (fun _ => ?_) (fun _ => ?_) <;> cbv)
      | (refine Ar.gtr_ hA (fun _ => ?_) (fun _ => ?_) <;> cbv)
      | (refine Ar.geq_ hA (fun _ => ?_) (fun _ => ?_) <;> cbv)
      | (refine Ar.eql_ hA (fun _ => ?_) (fun _ => ?_) <;> cbv)
      | (refine Ar.neq_ hA (fun _ => ?_) (fun _ => ?_) <;> cbv)
      | (refine Ar.add_ hA (by omega) (fun _ _ => ?_); cbv)
      | (refine Ar.sub_ hA (by omega) (fun _ _ => ?_); cbv)
      | (refine Ar.neg_ hA (by omega) (fun _ _ => ?_); cbv)
      | (refine Ar.mulB hA 2000 2000 (by omega) (by omega) (by omega) (fun _ _ _ _ => ?_); cbv)
      | (refine Ar.mulB hA 3000000000 3000000000 (by omega) (by omega) (by omega) (fun _ _ _ _ => ?_); cbv)
      | (refine Ar.nz_ hA (by omega) ?_; cbv)
      | (refine Ar.rem_ hA (by omega) (fun _ _ => ?_); cbv)
      | (refine Ar.quo_ hA (by omega) (fun _ _ => ?_); cbv)
      | (refine Ar.mx_ hA (fun _ _ => ?_); cbv)
      | (refine Ar.mn_ hA (fun _ _ => ?_); cbv)
      | (refine Ar.len_ hA (fun _ _ _ => ?_); cbv)
      | (refine Ar.lenN_ hA (fun _ _ => ?_); cbv)
      | (refine Ar.bneq_ hA (fun _ => ?_) (fun _ => ?_) <;> cbv)
      | (refine Ar.beq_ hA (fun _ => ?_) (fun _ => ?_) <;> cbv)
      | (refine Ar.ofN_ hA (fun _ _ _ => ?_); cbv)
)
    exact hK _ _ rfl rfl

theorem c_laws_FnExactIsSimple : Callable Try.prog 11 := ⟨_, Try.func11, rfl, by kernel_rfl⟩
theorem d_laws_FnExactIsSimple {es : List PV} {l : List P2} (hes : es = l.map P2.pv ∧ l.length ≤ 9223372036854775807) : Does Try.prog 11 [.sl es] (.pv (bl true)) [] := by
  refine does_of hT hM Try.func11 rfl (D := []) (by kernel_rfl) rfl rfl rfl (fun A K hA hK => ?_)
  obtain ⟨hes, hmax⟩ := hes
  have hlen : es.length = l.length := by simp [hes]
  cbv
  refine Ar.callI hA c_laws_szPtS (d_laws_szPtS (by omega) (by omega)) rfl (fun r hr => ?_)
  cbv
  refine Ar.lss_ hA (fun h => ?_) (fun h => ?_)
  · cbv
    exact hK _ _ rfl rfl
  have hb : l.length ≤ 1048576 := by have := szF_le hr h; omega
  cbv
  repeat' (first
    | (refine Ar.nn_ hA (by omega) ?_; cbv)
    | (refine Ar.toN_ hA (fun _ _ => ?_); cbv)
    | (refine Ar.notT_ hA ?_; cbv)
    | (refine Ar.notF_ hA ?_; cbv)
    | (refine Ar.lss_ hA (fun _ => ?_) (fun _ => ?_) <;> cbv)
    | (refine Ar.leq_ hA (fun _ => ?_) (fun _ => ?_) <;> cbv)
    | (refine Ar.gtr_ hA (fun _ => ?_) (fun _ => ?_) <;> cbv)
    | (refine Ar.geq_ hA (fun _ => ?_) (fun _ => ?_) <;> cbv)
    | (refine Ar.eql_ hA (fun _ => ?_) (fun _ => ?_) <;> cbv)
    | (refine Ar.neq_ hA (fun _ => ?_) (fun _ => ?_) <;> cbv)
    | (refine Ar.add_ hA (by omega) (fun _ _ => ?_); cbv)
    | (refine Ar.sub_ hA (by omega) (fun _ _ => ?_); cbv)
    | (refine Ar.neg_ hA (by omega) (fun _ _ => ?_); cbv)
    | (refine Ar.mulB hA 2000 2000 (by omega) (by omega) (by omega) (fun _ _ _ _ => ?_); cbv)
    | (refine Ar.mulB hA 3000000000 3000000000 (by omega) (by omega) (by omega) (fun _ _ _ _ => ?_); cbv)
    | (refine Ar.nz_ hA (by omega) ?_; cbv)
    | (refine Ar.rem_ hA (by omega) (fun _ _ => ?_); cbv)
    | (refine Ar.quo_ hA (by omega) (fun _ _ => ?_); cbv)
    | (refine Ar.mx_ hA (fun _ _ => ?_); cbv)
    | (refine Ar.mn_ hA (fun _ _ => ?_); cbv)
    | (refine Ar.len_ hA (fun _ _ _ => ?_); cbv)
    | (refine Ar.lenN_ hA (fun _ _ => ?_); cbv)
    | (refine Ar.bneq_ hA (fun _ => ?_) (fun _ => ?_) <;> cbv)
    | (refine Ar.beq_ hA (fun _ => ?_) (fun _ => ?_) <;> cbv)
    | (refine Ar.ofN_ hA (fun _ _ _ => ?_); cbv)
    | (refine Ar.call_ hA c_laws_toPtS (d_laws_toPtS hes hb) rfl ?_; cbv)
    | (refine Ar.callBB hA c_spec_IsSimple (d_spec_IsSimple hes hb) rfl (fun _ _ _ _ => ?_); cbv)
    | (refine Ar.callBB hA c_impl_IsSimple (d_impl_IsSimple hes hb) rfl (fun _ _ _ _ => ?_); cbv)
    | (refine Ar.callT hA c_laws_eqPtS (d_laws_eqPtS hes hes hb) rfl (fun _ => ?_) (fun _ => ?_) <;> cbv))
  all_goals first | exact hK _ _ rfl rfl | (exfalso; subst_vars; simp_all; done)

theorem mul_1000 {x y : Int} (hx : -1000 ≤ x ∧ x ≤ 1000) (hy : -1000 ≤ y ∧ y ≤ 1000) : -1000000 ≤ x * y ∧ x * y ≤ 1000000 := by
  have h4 : (x * y).natAbs ≤ 1000 * 1000 := by
    rw [Int.natAbs_mul]
    exact Nat.mul_le_mul (by omega) (by omega)
  omega

theorem areaU_bounds {l : List P2} (hok : ∀ p ∈ l, p.ok = true) (h0 : 0 < l.length) : ∀ k : Nat, -(2000000 * (k : Int)) ≤ areaU l k ∧ areaU l k ≤ 2000000 * (k : Int)
  | 0 => by simp [areaU]
  | k + 1 => by
    have ih := areaU_bounds hok h0 k
    cases hp : l[k]? with
    | none =>
      simp only [areaU, hp]
      omega
    | some p =>
      obtain ⟨x, y⟩ := p
      have b := ok_bounds hok hp
      have c := nx_bounds hok h0 k
      rw [areaU_succ hp]
      have m1 := mul_1000 (x := x) (y := (nx l k).y) (by omega) (by omega)
      have m2 := mul_1000 (x := (nx l k).x) (y := y) (by omega) (by omega)
      generalize x * (nx l k).y = u at *
      generalize (nx l k).x * y = v at *
      omega

theorem area2_bounds {l : List P2} (hok : ∀ p ∈ l, p.ok = true) (h0 : 0 < l.length) (hb : l.length ≤ 12) : -24000000 ≤ area2 l ∧ area2 l ≤ 24000000 := by
  have := areaU_bounds hok h0 l.length
  unfold area2
  generalize areaU l l.length = a at *
  omega

theorem sumTo_bounds {f : Nat → Int} {m : Int} (n : Nat) (h : ∀ i, i < n → 0 ≤ f i ∧ f i ≤ m) : ∀ k, k ≤ n → 0 ≤ sumTo f k ∧ sumTo f k ≤ m * (k : Int)
  | 0, _ => by simp [sumTo]
  | k + 1, hk => by
    have ih := sumTo_bounds n h k (by omega)
    have := h k (by omega)
    rw [sumTo, show m * ((k + 1 : Nat) : Int) = m * (k : Int) + m by rw [Int.natCast_succ, Int.mul_add, Int.mul_one]]
    generalize m * (k : Int) = u at *
    omega

theorem border_bounds {l : List P2} (hok : ∀ p ∈ l, p.ok = true) (h0 : 0 < l.length) (hb : l.length ≤ 12) : 0 ≤ border l ∧ border l ≤ 24000 := by
  have := sumTo_bounds (f := borderE l) (m := 2000) l.length (fun i hi => by
    obtain ⟨⟨px, py⟩, hp⟩ : ∃ p, l[i]? = some p := ⟨l[i]'hi, List.getElem?_eq_getElem _⟩
    have b := ok_bounds hok hp
    have c := nx_bounds hok h0 i
    unfold borderE
    rw [at0_of hp]
    show 0 ≤ gcdI ((nx l i).x - px) ((nx l i).y - py) ∧ gcdI ((nx l i).x - px) ((nx l i).y - py) ≤ 2000
    exact gcdI_bounds _ _ 2000 (by omega) (by omega)) l.length (Nat.le_refl _)
  unfold border
  generalize sumTo (borderE l) l.length = a at *
  omega

theorem d_spec_l8Abs_wide {n : Int} (h : -3000000000 ≤ n ∧ n ≤ 3000000000) : Does Try.prog 68 [i64 n] (.pv (i64 (absI n))) [] := by
  refine does_of hT hM Try.func68 rfl (D := []) (by kernel_rfl) rfl rfl rfl (fun A K hA hK => ?_)
  cbv
  refine Ar.callS hA c_spec_l8Sign d_spec_l8Sign rfl (fun s hs h1 h2 => ?_)
  cbv
  refine Ar.mulB hA 3000000000 1 (by omega) (by omega) (by omega) (fun r hr _ _ => ?_)
  cbv
  have : r = absI n := by
    unfold absI
    unfold sgn at hs
    rw [hr, hs]
    split
    · omega
    · split <;> omega
  exact hK _ _ (by rw [this]) rfl

def goodInner (l : List P2) : Bool := isWayF l && simpleF l
def innerV (l : List P2) : Int := if goodInner l then (absI (area2 l) - border l + 2).tdiv 2 else 0

theorem tdiv2 (a m : Int) (h : -m ≤ a ∧ a ≤ m) : -m ≤ a.tdiv 2 ∧ a.tdiv 2 ≤ m := by
  have h1 : (a.tdiv 2).natAbs = a.natAbs / 2 := by rw [Int.natAbs_tdiv]; rfl
  omega

theorem c_spec_InnerPoints : Callable Try.prog 44 := ⟨_, Try.func44, rfl, by kernel_rfl⟩
theorem d_spec_InnerPoints {es : List PV} {l : List P2} (hes : es = l.map P2.pv) (hb : l.length ≤ 1048576) : Does Try.prog 44 [.sl es] (.tup [.pv (i64 (innerV l)), .pv (bl (goodInner l))]) [] := by
  refine does_of hT hM Try.func44 rfl (D := []) (by kernel_rfl) rfl rfl rfl (fun A K hA hK => ?_)
  unfold innerV at hK
  cbv
  refine Ar.callT hA c_spec_l8Way (d_spec_l8Way hes hb) rfl (fun hc => ?_) (fun hc => ?_)
  rotate_left
  · have hg : goodInner l = false := by unfold goodInner; rw [hc]; rfl
    rw [hg] at hK
    cbv
    repeat' (first
      | (refine Ar.nn_ hA (by omega) ?_; cbv)
      | (refine Ar.toN_ hA (fun _ _ => ?_); cbv)
      | (refine Ar.notT_ hA ?_; cbv)
      | (refine Ar.notF_ hA ?_; cbv)
      | (refine Ar.lss_ hA (fun _ => ?_) (fun _ => ?_) <;> cbv)
      | (refine Ar.leq_ hA (fun _ => ?_) (fun _ => ?_) <;> cbv)
      | (refine Ar.gtr_ hA (fun _ => ?_) (fun _ => ?_) <;> cbv)
      | (refine Ar.geq_ hA (fun _ => ?_) (fun _ => ?_) <;> cbv)
      | (refine Ar.eql_ hA (fun _ => ?_) (fun _ => ?_) <;> cbv)
      | (refine Ar.neq_ hA (fun _ => ?_) (fun _ => ?_) <;> cbv)
      | (refine Ar.add_ hA (by omega) (fun _ _ => ?_); cbv)
      | (refine Ar.sub_ hA (by omega) (fun _ _ => ?_); cbv)
      | (refine Ar.neg_ hA (by omega) (fun _ _ => ?_); cbv)
      | (refine Ar.mulB hA 2000 2000 (by omega) (by omega) (by omega) (fun _ _ _ _ => ?_); cbv)
      | (refine Ar.mulB hA 3000000000 3000000000 (by omega) (by omega) (by omega) (fun _ _ _ _ => ?_); cbv)
      | (refine Ar.nz_ hA (by omega) ?_; cbv)
      | (refine Ar.rem_ hA (by omega) (fun _ _ => ?_); cbv)
      | (refine Ar.quo_ hA (by omega) (fun _ _ => ?_); cbv)
      | (refine Ar.mx_ hA (fun _ _ => ?_); cbv)
      | (refine Ar.mn_ hA (fun _ _ => ?_); cbv)
      | (refine Ar.len_ hA (fun _ _ _ => ?_); cbv)
      | (refine Ar.lenN_ hA (fun _ _ => ?_); cbv)
      | (refine Ar.bneq_ hA (fun _ => ?_) (fun _ => ?_) <;> cbv)
      | (refine Ar.beq_ hA (fun _ => ?_) (fun _ => ?_) <;> cbv)
      | (refine Ar.ofN_ hA (fun _ _ _ => ?_); cbv)
)
    exact hK _ _ rfl rfl
  obtain ⟨c1, c2, hok⟩ := isWayF_iff.1 hc
  cbv
  refine Ar.notT_ hA ?_
  cbv
  refine Ar.callT hA c_spec_l8Simple (d_spec_l8Simple hes c1 c2 hok) rfl (fun hs => ?_) (fun hs => ?_)
  rotate_left
  · have hg : goodInner l = false := by unfold goodInner; rw [hs, Bool.and_false]
    rw [hg] at hK
    cbv
    repeat' (first
      | (refine Ar.nn_ hA (by omega) ?_; cbv)
      | (refine Ar.toN_ hA (fun _ _ => ?_); cbv)
      | (refine Ar.notT_ hA ?_; cbv)
      | (refine Ar.notF_ hA ?_; cbv)
      | (refine Ar.lss_ hA (fun _ => ?_) (fun _ => ?_) <;> cbv)
      | (refine Ar.leq_ hA (fun _ => ?_) (fun _ => ?_) <;> cbv)
      | (refine Ar.gtr_ hA (fun _ => ?_) (fun _ => ?_) <;> cbv)
      | (refine Ar.geq_ hA (fun _ => ?_) (fun _ => ?_) <;> cbv)
      | (refine Ar.eql_ hA (fun _ => ?_) (fun _ => ?_) <;> cbv)
      | (refine Ar.neq_ hA (fun _ => ?_) (fun _ => ?_) <;> cbv)
      | (refine Ar.add_ hA (by omega) (fun _ _ => ?_); cbv)
      | (refine Ar.sub_ hA (by omega) (fun _ _ => ?_); cbv)
      | (refine Ar.neg_ hA (by omega) (fun _ _ => ?_); cbv)
      | (refine Ar.mulB hA 2000 2000 (by omega) (by omega) (by omega) (fun _ _ _ _ => ?_); cbv)
      | (refine Ar.mulB hA 3000000000 3000000000 (by omega) (by omega) (by omega) (fun _ _ _ _ => ?_); cbv)
      | (refine Ar.nz_ hA (by omega) ?_; cbv)
      | (refine Ar.rem_ hA (by omega) (fun _ _ => ?_); cbv)
      | (refine Ar.quo_ hA (by omega) (fun _ _ => ?_); cbv)
      | (refine Ar.mx_ hA (fun _ _ => ?_); cbv)
      | (refine Ar.mn_ hA (fun _ _ => ?_); cbv)
      | (refine Ar.len_ hA (fun _ _ _ => ?_); cbv)
      | (refine Ar.lenN_ hA (fun _ _ => ?_); cbv)
      | (refine Ar.bneq_ hA (fun _ => ?_) (fun _ => ?_) <;> cbv)
      | (refine Ar.beq_ hA (fun _ => ?_) (fun _ => ?_) <;> cbv)
      | (refine Ar.ofN_ hA (fun _ _ _ => ?_); cbv)
)
    exact hK _ _ rfl rfl
  have hg : goodInner l = true := by unfold goodInner; rw [hc, hs]; rfl
  rw [hg] at hK
  have ba := area2_bounds hok (by omega) c2
  have bb := border_bounds hok (by omega) c2
  have da := d_spec_l8Area hes (by omega) c2 hok
  have db := d_spec_l8Border hes (by omega) c2 hok
  generalize area2 l = a at hK ba da
  generalize border l = b at hK bb db
  have dc := d_spec_l8Abs_wide (n := a) (by omega)
  have bc : 0 ≤ absI a ∧ absI a ≤ 24000000 := by unfold absI; omega
  generalize absI a = c at hK bc dc
  cbv
  refine Ar.notT_ hA ?_
  cbv
  refine Ar.call_ hA c_spec_l8Area da rfl ?_
  cbv
  refine Ar.call_ hA c_spec_l8Abs dc rfl ?_
  cbv
  refine Ar.call_ hA c_spec_l8Border db rfl ?_
  cbv
  refine Ar.sub_ hA (by omega) (fun u hu => ?_)
  cbv
  refine Ar.add_ hA (by omega) (fun v hv => ?_)
  cbv
  repeat' (first
    | (refine Ar.nz_ hA (by omega) ?_; cbv)
    | (refine Ar.tquo_ hA (by have := tdiv2 v 30000000 (by omega); generalize v.tdiv 2 = w at *; omega) (fun w hw => ?_); cbv))
  exact hK _ _ (by rw [if_pos rfl, hw, hv, hu]) rfl

theorem c_impl_InnerPoints : Callable Try.prog 45 := ⟨_, Try.func45, rfl, by kernel_rfl⟩
theorem d_impl_InnerPoints {es : List PV} {l : List P2} (hes : es = l.map P2.pv) (hb : l.length ≤ 1048576) : Does Try.prog 45 [.sl es] (.tup [.pv (i64 (innerV l)), .pv (bl (goodInner l))]) [] := by
  refine does_of hT hM Try.func45 rfl (D := []) (by kernel_rfl) rfl rfl rfl (fun A K hA hK => ?_)
  unfold innerV at hK
  cbv
  refine Ar.callT hA c_impl_isWay (d_impl_isWay hes hb) rfl (fun hc => ?_) (fun hc => ?_)
  rotate_left
  · have hg : goodInner l = false := by unfold goodInner; rw [hc]; rfl
    rw [hg] at hK
    cbv
    repeat' (first
      | (refine Ar.nn_ hA (by omega) ?_; cbv)
      | (refine Ar.toN_ hA (fun _ _ => ?_); cbv)
      | (refine Ar.notT_ hA ?_; cbv)
      | (refine Ar.notF_ hA ?_; cbv)
      | (refine Ar.lss_ hA (fun _ => ?_) (fun _ => ?_) <;> cbv)
      | (refine Ar.leq_ hA (fun _ => ?_) (fun _ => ?_) <;> cbv)
      | (refine Ar.gtr_ hA (fun _ => ?_) (fun _ => ?_) <;> cbv)
      | (refine Ar.geq_ hA (fun _ => ?_) (fun _ => ?_) <;> cbv)
      | (refine Ar.eql_ hA (fun _ => ?_) (fun _ => ?_) <;> cbv)
      | (refine Ar.neq_ hA (fun _ => ?_) (fun _ => ?_) <;> cbv)
      | (refine Ar.add_ hA (by omega) (fun _ _ => ?_); cbv)
      | (refine Ar.sub_ hA (by omega) (fun _ _ => ?_); cbv)
      | (refine Ar.neg_ hA (by omega) (fun _ _ => ?_); cbv)
      | (refine Ar.mulB hA 2000 2000 (by omega) (by omega) (by omega) (fun _ _ _ _ => ?_); cbv)
      | (refine Ar.mulB hA 3000000000 3000000000 (by omega) (by omega) (by omega) (fun _ _ _ _ => ?_); cbv)
      | (refine Ar.nz_ hA (by omega) ?_; cbv)
      | (refine Ar.rem_ hA (by omega) (fun _ _ => ?_); cbv)
      | (refine Ar.quo_ hA (by omega) (fun _ _ => ?_); cbv)
      | (refine Ar.mx_ hA (fun _ _ => ?_); cbv)
      | (refine Ar.mn_ hA (fun _ _ => ?_); cbv)
      | (refine Ar.len_ hA (fun _ _ _ => ?_); cbv)
      | (refine Ar.lenN_ hA (fun _ _ => ?_); cbv)
      | (refine Ar.bneq_ hA (fun _ => ?_) (fun _ => ?_) <;> cbv)
      | (refine Ar.beq_ hA (fun _ => ?_) (fun _ => ?_) <;> cbv)
      | (refine Ar.ofN_ hA (fun _ _ _ => ?_); cbv)
)
    exact hK _ _ rfl rfl
  obtain ⟨c1, c2, hok⟩ := isWayF_iff.1 hc
  cbv
  refine Ar.notT_ hA ?_
  cbv
  refine Ar.callT hA c_impl_isSimple (d_impl_isSimple hes c1 c2 hok) rfl (fun hs => ?_) (fun hs => ?_)
  rotate_left
  · have hg : goodInner l = false := by unfold goodInner; rw [hs, Bool.and_false]
    rw [hg] at hK
    cbv
    repeat' (first
      | (refine Ar.nn_ hA (by omega) ?_; cbv)
      | (refine Ar.toN_ hA (fun _ _ => ?_); cbv)
      | (refine Ar.notT_ hA ?_; cbv)
      | (refine Ar.notF_ hA ?_; cbv)
      | (refine Ar.lss_ hA (fun _ => ?_) (fun _ => ?_) <;> cbv)
      | (refine Ar.leq_ hA (fun _ => ?_) (fun _ => ?_) <;> cbv)
      | (refine Ar.gtr_ hA (fun _ => ?_) (fun _ => ?_) <;> cbv)
      | (refine Ar.geq_ hA (fun _ => ?_) (fun _ => ?_) <;> cbv)
      | (refine Ar.eql_ hA (fun _ => ?_) (fun _ => ?_) <;> cbv)
      | (refine Ar.neq_ hA (fun _ => ?_) (fun _ => ?_) <;> cbv)
      | (refine Ar.add_ hA (by omega) (fun _ _ => ?_); cbv)
      | (refine Ar.sub_ hA (by omega) (fun _ _ => ?_); cbv)
      | (refine Ar.neg_ hA (by omega) (fun _ _ => ?_); cbv)
      | (refine Ar.mulB hA 2000 2000 (by omega) (by omega) (by omega) (fun _ _ _ _ => ?_); cbv)
      | (refine Ar.mulB hA 3000000000 3000000000 (by omega) (by omega) (by omega) (fun _ _ _ _ => ?_); cbv)
      | (refine Ar.nz_ hA (by omega) ?_; cbv)
      | (refine Ar.rem_ hA (by omega) (fun _ _ => ?_); cbv)
      | (refine Ar.quo_ hA (by omega) (fun _ _ => ?_); cbv)
      | (refine Ar.mx_ hA (fun _ _ => ?_); cbv)
      | (refine Ar.mn_ hA (fun _ _ => ?_); cbv)
      | (refine Ar.len_ hA (fun _ _ _ => ?_); cbv)
      | (refine Ar.lenN_ hA (fun _ _ => ?_); cbv)
      | (refine Ar.bneq_ hA (fun _ => ?_) (fun _ => ?_) <;> cbv)
      | (refine Ar.beq_ hA (fun _ => ?_) (fun _ => ?_) <;> cbv)
      | (refine Ar.ofN_ hA (fun _ _ _ => ?_); cbv)
)
    exact hK _ _ rfl rfl
  have hg : goodInner l = true := by unfold goodInner; rw [hc, hs]; rfl
  rw [hg] at hK
  have ba := area2_bounds hok (by omega) c2
  have bb := border_bounds hok (by omega) c2
  have da := d_impl_areaTwice hes (by omega) c2 hok
  have db := d_impl_borderPoints hes (by omega) c2 hok
  generalize area2 l = a at hK ba da
  generalize border l = b at hK bb db
  have bc : 0 ≤ absI a ∧ absI a ≤ 24000000 := by unfold absI; omega
  have ec : ∀ m, m = -a → absI a = max a m := fun m hm => by unfold absI; omega
  generalize absI a = c at hK bc ec
  cbv
  refine Ar.notT_ hA ?_
  cbv
  refine Ar.call_ hA c_impl_areaTwice da rfl ?_
  cbv
  refine Ar.neg_ hA (by omega) (fun m hm => ?_)
  cbv
  refine Ar.mx_ hA (fun c' hc' => ?_)
  obtain rfl : c = c' := by rw [ec m hm, hc']
  cbv
  refine Ar.call_ hA c_impl_borderPoints db rfl ?_
  cbv
  refine Ar.sub_ hA (by omega) (fun u hu => ?_)
  cbv
  refine Ar.add_ hA (by omega) (fun v hv => ?_)
  cbv
  repeat' (first
    | (refine Ar.nz_ hA (by omega) ?_; cbv)
    | (refine Ar.tquo_ hA (by have := tdiv2 v 30000000 (by omega); generalize v.tdiv 2 = w at *; omega) (fun w hw => ?_); cbv))
  exact hK _ _ (by rw [if_pos rfl, hw, hv, hu]) rfl

theorem c_laws_FnExactInnerPoints : Callable Try.prog 14 := ⟨_, Try.func14, rfl, by kernel_rfl⟩
theorem d_laws_FnExactInnerPoints {es : List PV} {l : List P2} (hes : es = l.map P2.pv ∧ l.length ≤ 9223372036854775807) : Does Try.prog 14 [.sl es] (.pv (bl true)) [] := by
  refine does_of hT hM Try.func14 rfl (D := []) (by kernel_rfl) rfl rfl rfl (fun A K hA hK => ?_)
  obtain ⟨hes, hmax⟩ := hes
  have hlen : es.length = l.length := by simp [hes]
  cbv
  refine Ar.callI hA c_laws_szPtS (d_laws_szPtS (by omega) (by omega)) rfl (fun r hr => ?_)
  cbv
  refine Ar.lss_ hA (fun h => ?_) (fun h => ?_)
  · cbv
    exact hK _ _ rfl rfl
  have hb : l.length ≤ 1048576 := by have := szF_le hr h; omega
  cbv
  repeat' (first
    | (refine Ar.nn_ hA (by omega) ?_; cbv)
    | (refine Ar.toN_ hA (fun _ _ => ?_); cbv)
    | (refine Ar.notT_ hA ?_; cbv)
    | (refine Ar.notF_ hA ?_; cbv)
    | (refine Ar.lss_ hA (fun _ => ?_) (fun _ => ?_) <;> cbv)
    | (refine Ar.leq_ hA (fun _ => ?_) (fun _ => ?_) <;> cbv)
    | (refine Ar.gtr_ hA (fun _ => ?_) (fun _ => ?_) <;> cbv)
    | (refine Ar.geq_ hA (fun _ => ?_) (fun _ => ?_) <;> cbv)
    | (refine Ar.eql_ hA (fun _ => ?_) (fun _ => ?_) <;> cbv)
    | (refine Ar.neq_ hA (fun _ => ?_) (fun _ => ?_) <;> cbv)
    | (refine Ar.add_ hA (by omega) (fun _ _ => ?_); cbv)
    | (refine Ar.sub_ hA (by omega) (fun _ _ => ?_); cbv)
    | (refine Ar.neg_ hA (by omega) (fun _ _ => ?_); cbv)
    | (refine Ar.mulB hA 2000 2000 (by omega) (by omega) (by omega) (fun _ _ _ _ => ?_); cbv)
    | (refine Ar.mulB hA 3000000000 3000000000 (by omega) (by omega) (by omega) (fun _ _ _ _ => ?_); cbv)
    | (refine Ar.nz_ hA (by omega) ?_; cbv)
    | (refine Ar.rem_ hA (by omega) (fun _ _ => ?_); cbv)
    | (refine Ar.quo_ hA (by omega) (fun _ _ => ?_); cbv)
    | (refine Ar.mx_ hA (fun _ _ => ?_); cbv)
    | (refine Ar.mn_ hA (fun _ _ => ?_); cbv)
    | (refine Ar.len_ hA (fun _ _ _ => ?_); cbv)
    | (refine Ar.lenN_ hA (fun _ _ => ?_); cbv)
    | (refine Ar.bneq_ hA (fun _ => ?_) (fun _ => ?_) <;> cbv)
    | (refine Ar.beq_ hA (fun _ => ?_) (fun _ => ?_) <;> cbv)
    | (refine Ar.ofN_ hA (fun _ _ _ => ?_); cbv)
    | (refine Ar.call_ hA c_laws_toPtS (d_laws_toPtS hes hb) rfl ?_; cbv)
    | (refine Ar.callIB hA c_spec_InnerPoints (d_spec_InnerPoints hes hb) rfl (fun _ _ _ _ => ?_); cbv)
    | (refine Ar.callIB hA c_impl_InnerPoints (d_impl_InnerPoints hes hb) rfl (fun _ _ _ _ => ?_); cbv)
    | (refine Ar.callT hA c_laws_eqPtS (d_laws_eqPtS hes hes hb) rfl (fun _ => ?_) (fun _ => ?_) <;> cbv))
  all_goals first | exact hK _ _ rfl rfl | (exfalso; subst_vars; simp_all; done)

end Go.VAI
