/- InTriangle, SegmentsMeet, WidestIn, AreaTwice, Sees: what their functions do, and the laws. -/
import Derived.Test.YtjkcnepcppljpaaC
namespace Go.VAI
open Go.Proofs
set_option maxRecDepth 100000
set_option maxHeartbeats 8000000

/-! InTriangle -/

def inTriS (a b c p : P2) : Bool := (decide (0 ≤ sgn (cross a b p)) && decide (0 ≤ sgn (cross b c p)) && decide (0 ≤ sgn (cross c a p))) || (decide (sgn (cross a b p) ≤ 0) && decide (sgn (cross b c p) ≤ 0) && decide (sgn (cross c a p) ≤ 0))
def inTriI (a b c p : P2) : Bool := decide (0 ≤ sgn (cross a b p) * sgn (cross a b c)) && decide (0 ≤ sgn (cross b c p) * sgn (cross a b c)) && decide (0 ≤ sgn (cross c a p) * sgn (cross a b c))

theorem cross_sum (a b c p : P2) : cross a b p + cross b c p + cross c a p = cross a b c := by
  unfold cross; grind

theorem inTri_same (a b c p : P2) (h : sgn (cross a b c) ≠ 0) : inTriI a b c p = inTriS a b c p := by
  have hs := cross_sum a b c p
  unfold inTriI inTriS
  generalize cross a b c = t at *
  generalize cross a b p = x at *
  generalize cross b c p = y at *
  generalize cross c a p = z at *
  rw [Bool.eq_iff_iff]
  simp only [Bool.and_eq_true, Bool.or_eq_true, decide_eq_true_eq]
  unfold sgn at *
  rcases Int.lt_trichotomy t 0 with ht | ht | ht
  · rw [if_pos ht]; simp only [Int.mul_neg, Int.mul_one]
    (repeat' split) <;> omega
  · subst ht; simp at h
  · rw [if_neg (show ¬ t < 0 by omega), if_pos ht]; simp only [Int.mul_one]
    (repeat' split) <;> omega

theorem c_spec_l11In : Callable Try.prog 45 := ⟨_, Try.func45, rfl, by kernel_rfl⟩
theorem d_spec_l11In {ax ay bx b_y cx cy px py : Int} (ha : -1000 ≤ ax ∧ ax ≤ 1000 ∧ -1000 ≤ ay ∧ ay ≤ 1000) (hb : -1000 ≤ bx ∧ bx ≤ 1000 ∧ -1000 ≤ b_y ∧ b_y ≤ 1000) (hc : -1000 ≤ cx ∧ cx ≤ 1000 ∧ -1000 ≤ cy ∧ cy ≤ 1000) (hp : -1000 ≤ px ∧ px ≤ 1000 ∧ -1000 ≤ py ∧ py ≤ 1000) : Does Try.prog 45 [pt ax ay, pt bx b_y, pt cx cy, pt px py] (.pv (bl (inTriS ⟨ax, ay⟩ ⟨bx, b_y⟩ ⟨cx, cy⟩ ⟨px, py⟩))) [] := by
  refine does_of hT hM Try.func45 rfl (D := []) (by kernel_rfl) rfl rfl rfl (fun A K hA hK => ?_)
  cbv
  repeat' (first
    | (refine Ar.nn_ hA (by omega) ?_; cbv)
    | (refine Ar.toN_ hA (fun _ _ => ?_); cbv)
    | (refine Ar.notT_ hA ?_; cbv)
    | (refine Ar.notF_ hA ?_; cbv)
    | (refine Ar.lss_ hA (fun _ => ?_) (fun _ => ?_) <;> cbv)
    | (refine Ar.leq_ hA (fun _ => ?_) (fun _ => ?_) <;> cbv)
    | (refine Ar.gtr_ hA (fun _ => ?_) (fun _ => ?_) <;> cbv)
    | (refine Ar.geq_ hA (fun _ => ?_) (fun _ => ?_) <;> cbv)
    | (refine Ar.eql_ hA (fun _ => ?_) (fun _ => ?_) <;> cbv)
    | (refine Ar.neq_ hA (fun _ => ?_) (fun _ => ?_) <;> cbv)
    | (refine Ar.add_ hA (by omega) (fun _ _ => ?_); cbv)
    | (refine Ar.sub_ hA (by omega) (fun _ _ => ?_); cbv)
    | (refine Ar.neg_ hA (by omega) (fun _ _ => ?_); cbv)
    | (refine Ar.mulB hA 2000 2000 (by omega) (by omega) (by omega) (fun _ _ _ _ => ?_); cbv)
    | (refine Ar.mulB hA 3000000000 3000000000 (by omega) (by omega) (by omega) (fun _ _ _ _ => ?_); cbv)
    | (refine Ar.nz_ hA (by omega) ?_; cbv)
    | (refine Ar.rem_ hA (by omega) (fun _ _ => ?_); cbv)
    | (refine Ar.quo_ hA (by omega) (fun _ _ => ?_); cbv)
    | (refine Ar.mx_ hA (fun _ _ => ?_); cbv)
    | (refine Ar.mn_ hA (fun _ _ => ?_); cbv)
    | (refine Ar.len_ hA (fun _ _ _ => ?_); cbv)
    | (refine Ar.lenN_ hA (fun _ _ => ?_); cbv)
    | (refine Ar.bneq_ hA (fun _ => ?_) (fun _ => ?_) <;> cbv)
    | (refine Ar.beq_ hA (fun _ => ?_) (fun _ => ?_) <;> cbv)
    | (refine Ar.ofN_ hA (fun _ _ _ => ?_); cbv)
    | (refine Ar.callS hA c_spec_l8Orient (d_spec_l8Orient (by omega) (by omega) (by omega)) rfl (fun _ _ _ _ => ?_); cbv))
  all_goals exact hK _ _ (by subst_vars; simp_all [inTriS]; try omega) rfl

theorem c_impl_inTriangle : Callable Try.prog 53 := ⟨_, Try.func53, rfl, by kernel_rfl⟩
theorem d_impl_inTriangle {ax ay bx b_y cx cy px py : Int} (ha : -1000 ≤ ax ∧ ax ≤ 1000 ∧ -1000 ≤ ay ∧ ay ≤ 1000) (hb : -1000 ≤ bx ∧ bx ≤ 1000 ∧ -1000 ≤ b_y ∧ b_y ≤ 1000) (hc : -1000 ≤ cx ∧ cx ≤ 1000 ∧ -1000 ≤ cy ∧ cy ≤ 1000) (hp : -1000 ≤ px ∧ px ≤ 1000 ∧ -1000 ≤ py ∧ py ≤ 1000) : Does Try.prog 53 [pt ax ay, pt bx b_y, pt cx cy, pt px py] (.pv (bl (inTriI ⟨ax, ay⟩ ⟨bx, b_y⟩ ⟨cx, cy⟩ ⟨px, py⟩))) [] := by
  refine does_of hT hM Try.func53 rfl (D := []) (by kernel_rfl) rfl rfl rfl (fun A K hA hK => ?_)
  cbv
  repeat' (first
    | (refine Ar.nn_ hA (by omega) ?_; cbv)
    | (refine Ar.toN_ hA (fun _ _ => ?_); cbv)
    | (refine Ar.notT_ hA ?_; cbv)
    | (refine Ar.notF_ hA ?_; cbv)
    | (refine Ar.lss_ hA (fun _ => ?_) (fun _ => ?_) <;> cbv)
    | (refine Ar.leq_ hA (fun _ => ?_) (fun _ => ?_) <;> cbv)
    | (refine Ar.gtr_ hA (fun _ => ?_) (fun _ => ?_) <;> cbv)
    | (refine Ar.geq_ hA (fun _ => ?_) (fun _ => ?_) <;> cbv)
    | (refine Ar.eql_ hA (fun _ => ?_) (fun _ => ?_) <;> cbv)
    | (refine Ar.neq_ hA (fun _ => ?_) (fun _ => ?_) <;> cbv)
    | (refine Ar.add_ hA (by omega) (fun _ _ => ?_); cbv)
    | (refine Ar.sub_ hA (by omega) (fun _ _ => ?_); cbv)
    | (refine Ar.neg_ hA (by omega) (fun _ _ => ?_); cbv)
    | (refine Ar.mulB hA 2000 2000 (by omega) (by omega) (by omega) (fun _ _ _ _ => ?_); cbv)
    | (refine Ar.mulB hA 3000000000 3000000000 (by omega) (by omega) (by omega) (fun _ _ _ _ => ?_); cbv)
    | (refine Ar.nz_ hA (by omega) ?_; cbv)
    | (refine Ar.rem_ hA (by omega) (fun _ _ => ?_); cbv)
    | (refine Ar.quo_ hA (by omega) (fun _ _ => ?_); cbv)
    | (refine Ar.mx_ hA (fun _ _ => ?_); cbv)
    | (refine Ar.mn_ hA (fun _ _ => ?_); cbv)
    | (refine Ar.len_ hA (fun _ _ _ => ?_); cbv)
    | (refine Ar.lenN_ hA (fun _ _ => ?_); cbv)
    | (refine Ar.bneq_ hA (fun _ => ?_) (fun _ => ?_) <;> cbv)
    | (refine Ar.beq_ hA (fun _ => ?_) (fun _ => ?_) <;> cbv)
    | (refine Ar.ofN_ hA (fun _ _ _ => ?_); cbv)
    | (refine Ar.callS hA c_impl_orient (d_impl_orient (by omega) (by omega) (by omega)) rfl (fun _ _ _ _ => ?_); cbv))
  all_goals exact hK _ _ (by subst_vars; simp_all [inTriI]; try omega) rfl

def goodTri (a b c p : P2) : Bool := okP4 a b c p && decide (sgn (cross a b c) ≠ 0)

/-! SegmentsMeet -/

def meetF (a b c d : P2) : Bool := onSeg a b c || onSeg a b d || onSeg c d a || onSeg c d b || (decide (sgn (cross a b c) * sgn (cross a b d) < 0) && decide (sgn (cross c d a) * sgn (cross c d b) < 0))

theorem c_spec_l8Meet : Callable Try.prog 59 := ⟨_, Try.func59, rfl, by kernel_rfl⟩
theorem d_spec_l8Meet {ax ay bx b_y cx cy px py : Int} (ha : -1000 ≤ ax ∧ ax ≤ 1000 ∧ -1000 ≤ ay ∧ ay ≤ 1000) (hb : -1000 ≤ bx ∧ bx ≤ 1000 ∧ -1000 ≤ b_y ∧ b_y ≤ 1000) (hc : -1000 ≤ cx ∧ cx ≤ 1000 ∧ -1000 ≤ cy ∧ cy ≤ 1000) (hp : -1000 ≤ px ∧ px ≤ 1000 ∧ -1000 ≤ py ∧ py ≤ 1000) : Does Try.prog 59 [pt ax ay, pt bx b_y, pt cx cy, pt px py] (.pv (bl (meetF ⟨ax, ay⟩ ⟨bx, b_y⟩ ⟨cx, cy⟩ ⟨px, py⟩))) [] := by
  refine does_of hT hM Try.func59 rfl (D := []) (by kernel_rfl) rfl rfl rfl (fun A K hA hK => ?_)
  cbv
  repeat' (first
    | (refine Ar.nn_ hA (by omega) ?_; cbv)
    | (refine Ar.toN_ hA (fun _ _ => ?_); cbv)
    | (refine Ar.notT_ hA ?_; cbv)
    | (refine Ar.notF_ hA ?_; cbv)
    | (refine Ar.lss_ hA (fun _ => ?_) (fun _ => ?_) <;> cbv)
    | (refine Ar.leq_ hA (fun _ => ?_) (fun _ => ?_) <;> cbv)
    | (refine Ar.gtr_ hA (fun _ => ?_) (fun _ => ?_) <;> cbv)
    | (refine Ar.geq_ hA (fun _ => ?_) (fun _ => ?_) <;> cbv)
    | (refine Ar.eql_ hA (fun _ => ?_) (fun _ => ?_) <;> cbv)
    | (refine Ar.neq_ hA (fun _ => ?_) (fun _ => ?_) <;> cbv)
    | (refine Ar.add_ hA (by omega) (fun _ _ => ?_); cbv)
    | (refine Ar.sub_ hA (by omega) (fun _ _ => ?_); cbv)
    | (refine Ar.neg_ hA (by omega) (fun _ _ => ?_); cbv)
    | (refine Ar.mulB hA 2000 2000 (by omega) (by omega) (by omega) (fun _ _ _ _ => ?_); cbv)
    | (refine Ar.mulB hA 3000000000 3000000000 (by omega) (by omega) (by omega) (fun _ _ _ _ => ?_); cbv)
    | (refine Ar.nz_ hA (by omega) ?_; cbv)
    | (refine Ar.rem_ hA (by omega) (fun _ _ => ?_); cbv)
    | (refine Ar.quo_ hA (by omega) (fun _ _ => ?_); cbv)
    | (refine Ar.mx_ hA (fun _ _ => ?_); cbv)
    | (refine Ar.mn_ hA (fun _ _ => ?_); cbv)
    | (refine Ar.len_ hA (fun _ _ _ => ?_); cbv)
    | (refine Ar.lenN_ hA (fun _ _ => ?_); cbv)
    | (refine Ar.bneq_ hA (fun _ => ?_) (fun _ => ?_) <;> cbv)
    | (refine Ar.beq_ hA (fun _ => ?_) (fun _ => ?_) <;> cbv)
    | (refine Ar.ofN_ hA (fun _ _ _ => ?_); cbv)
    | (refine Ar.callS hA c_spec_l8Orient (d_spec_l8Orient (by omega) (by omega) (by omega)) rfl (fun _ _ _ _ => ?_); cbv)
    | (refine Ar.callT hA c_spec_l8On (d_spec_l8On (by omega) (by omega) (by omega)) rfl (fun _ => ?_) (fun _ => ?_) <;> cbv))
  all_goals exact hK _ _ (by subst_vars; simp_all [meetF]; try omega) rfl

theorem c_impl_meet : Callable Try.prog 64 := ⟨_, Try.func64, rfl, by kernel_rfl⟩
theorem d_impl_meet {ax ay bx b_y cx cy px py : Int} (ha : -1000 ≤ ax ∧ ax ≤ 1000 ∧ -1000 ≤ ay ∧ ay ≤ 1000) (hb : -1000 ≤ bx ∧ bx ≤ 1000 ∧ -1000 ≤ b_y ∧ b_y ≤ 1000) (hc : -1000 ≤ cx ∧ cx ≤ 1000 ∧ -1000 ≤ cy ∧ cy ≤ 1000) (hp : -1000 ≤ px ∧ px ≤ 1000 ∧ -1000 ≤ py ∧ py ≤ 1000) : Does Try.prog 64 [pt ax ay, pt bx b_y, pt cx cy, pt px py] (.pv (bl (meetF ⟨ax, ay⟩ ⟨bx, b_y⟩ ⟨cx, cy⟩ ⟨px, py⟩))) [] := by
  refine does_of hT hM Try.func64 rfl (D := []) (by kernel_rfl) rfl rfl rfl (fun A K hA hK => ?_)
  cbv
  repeat' (first
    | (refine Ar.nn_ hA (by omega) ?_; cbv)
    | (refine Ar.toN_ hA (fun _ _ => ?_); cbv)
    | (refine Ar.notT_ hA ?_; cbv)
    | (refine Ar.notF_ hA ?_; cbv)
    | (refine Ar.lss_ hA (fun _ => ?_) (fun _ => ?_) <;> cbv)
    | (refine Ar.leq_ hA (fun _ => ?_) (fun _ => ?_) <;> cbv)
    | (refine Ar.gtr_ hA (fun _ => ?_) (fun _ => ?_) <;> cbv)
    | (refine Ar.geq_ hA (fun _ => ?_) (fun _ => ?_) <;> cbv)
    | (refine Ar.eql_ hA (fun _ => ?_) (fun _ => ?_) <;> cbv)
    | (refine Ar.neq_ hA (fun _ => ?_) (fun _ => ?_) <;> cbv)
    | (refine Ar.add_ hA (by omega) (fun _ _ => ?_); cbv)
    | (refine Ar.sub_ hA (by omega) (fun _ _ => ?_); cbv)
    | (refine Ar.neg_ hA (by omega) (fun _ _ => ?_); cbv)
    | (refine Ar.mulB hA 2000 2000 (by omega) (by omega) (by omega) (fun _ _ _ _ => ?_); cbv)
    | (refine Ar.mulB hA 3000000000 3000000000 (by omega) (by omega) (by omega) (fun _ _ _ _ => ?_); cbv)
    | (refine Ar.nz_ hA (by omega) ?_; cbv)
    | (refine Ar.rem_ hA (by omega) (fun _ _ => ?_); cbv)
    | (refine Ar.quo_ hA (by omega) (fun _ _ => ?_); cbv)
    | (refine Ar.mx_ hA (fun _ _ => ?_); cbv)
    | (refine Ar.mn_ hA (fun _ _ => ?_); cbv)
    | (refine Ar.len_ hA (fun _ _ _ => ?_); cbv)
    | (refine Ar.lenN_ hA (fun _ _ => ?_); cbv)
    | (refine Ar.bneq_ hA (fun _ => ?_) (fun _ => ?_) <;> cbv)
    | (refine Ar.beq_ hA (fun _ => ?_) (fun _ => ?_) <;> cbv)
    | (refine Ar.ofN_ hA (fun _ _ _ => ?_); cbv)
    | (refine Ar.callS hA c_impl_orient (d_impl_orient (by omega) (by omega) (by omega)) rfl (fun _ _ _ _ => ?_); cbv)
    | (refine Ar.callT hA c_impl_isOn (d_impl_isOn (by omega) (by omega) (by omega)) rfl (fun _ => ?_) (fun _ => ?_) <;> cbv))
  all_goals exact hK _ _ (by subst_vars; simp_all [meetF]; try omega) rfl

end Go.VAI
