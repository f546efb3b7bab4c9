/- The functions on numbers and points: what each does. -/
import Derived.Test.YtialfhjffkoakaaGreatVd
import Derived.Test.YtialfhjffkoakaaGreatProg
namespace Go.VAI
open Go.Proofs
set_option maxRecDepth 100000
set_option maxHeartbeats 8000000
theorem hT : TTok Tryz.prog := tt_ok (by kernel_rfl)
theorem hM : Tryz.prog.follows .mixedOrders = true := by kernel_rfl

structure P2 where
  x : Int
  y : Int
  deriving DecidableEq
abbrev pt (x y : Int) : PV := .agg [i64 x, i64 y]
def P2.ok (p : P2) : Bool := decide (-1000 ≤ p.x) && decide (p.x ≤ 1000) && decide (-1000 ≤ p.y) && decide (p.y ≤ 1000)
def cross (a b c : P2) : Int := (b.x - a.x) * (c.y - a.y) - (b.y - a.y) * (c.x - a.x)
def btw (a b x : Int) : Bool := decide (min a b ≤ x) && decide (x ≤ max a b)
def onSeg (a b p : P2) : Bool := sgn (cross a b p) == 0 && btw a.x b.x p.x && btw a.y b.y p.y

theorem c_spec_l1In : Callable Tryz.prog 89 := ⟨_, Tryz.func89, rfl, by kernel_rfl⟩
theorem d_spec_l1In {n lo hi : Int} : Does Tryz.prog 89 [i64 n, i64 lo, i64 hi] (.pv (bl (decide (lo ≤ n) && decide (n ≤ hi)))) [] := by
  refine does_of hT hM Tryz.func89 rfl (D := []) (by kernel_rfl) rfl rfl rfl (fun A K hA hK => ?_)
  cbv
  repeat' (first
    | (refine Ar.nn_ hA (by omega) ?_; cbv)
    | (refine Ar.toN_ hA (fun _ _ => ?_); cbv)
    | (refine Ar.notT_ hA ?_; cbv)
    | (refine Ar.notF_ hA ?_; cbv)
    | (refine Ar.lss_ hA (fun _ => ?_) (fun _ => ?_) <;> cbv)
    | (refine Ar.leq_ hA (fun _ => ?_) (fun _ => ?_) <;> cbv)
    | (refine Ar.gtr_ hA (fun _ => ?_) (fun _ => ?_) <;> cbv)
    | (refine Ar.geq_ hA (fun _ => ?_) (fun _ => ?_) <;> cbv)
    | (refine Ar.eql_ hA (fun _ => ?_) (fun _ => ?_) <;> cbv)
    | (refine Ar.neq_ hA (fun _ => ?_) (fun _ => ?_) <;> cbv)
    | (refine Ar.add_ hA (by omega) (fun _ _ => ?_); cbv)
    | (refine Ar.sub_ hA (by omega) (fun _ _ => ?_); cbv)
    | (refine Ar.neg_ hA (by omega) (fun _ _ => ?_); cbv)
    | (refine Ar.mulB hA 2000 2000 (by omega) (by omega) (by omega) (fun _ _ _ _ => ?_); cbv)
    | (refine Ar.mulB hA 3000000000 3000000000 (by omega) (by omega) (by omega) (fun _ _ _ _ => ?_); cbv)
    | (refine Ar.nz_ hA (by omega) ?_; cbv)
    | (refine Ar.rem_ hA (by omega) (fun _ _ => ?_); cbv)
    | (refine Ar.quo_ hA (by omega) (fun _ _ => ?_); cbv)
    | (refine Ar.mx_ hA (fun _ _ => ?_); cbv)
    | (refine Ar.mn_ hA (fun _ _ => ?_); cbv)
    | (refine Ar.len_ hA (fun _ _ _ => ?_); cbv)
    | (refine Ar.lenN_ hA (fun _ _ => ?_); cbv)
    | (refine Ar.bneq_ hA (fun _ => ?_) (fun _ => ?_) <;> cbv)
    | (refine Ar.beq_ hA (fun _ => ?_) (fun _ => ?_) <;> cbv)
    | (refine Ar.ofN_ hA (fun _ _ _ => ?_); cbv)
)
  all_goals exact hK _ _ (by simp; omega) rfl

theorem c_impl_within : Callable Tryz.prog 93 := ⟨_, Tryz.func93, rfl, by kernel_rfl⟩
theorem d_impl_within {n lo hi : Int} : Does Tryz.prog 93 [i64 n, i64 lo, i64 hi] (.pv (bl (decide (lo ≤ n) && decide (n ≤ hi)))) [] := by
  refine does_of hT hM Tryz.func93 rfl (D := []) (by kernel_rfl) rfl rfl rfl (fun A K hA hK => ?_)
  cbv
  repeat' (first
    | (refine Ar.nn_ hA (by omega) ?_; cbv)
    | (refine Ar.toN_ hA (fun _ _ => ?_); cbv)
    | (refine Ar.notT_ hA ?_; cbv)
    | (refine Ar.notF_ hA ?_; cbv)
    | (refine Ar.lss_ hA (fun _ => ?_) (fun _ => ?_) <;> cbv)
    | (refine Ar.leq_ hA (fun _ => ?_) (fun _ => ?_) <;> cbv)
    | (refine Ar.gtr_ hA (fun _ => ?_) (fun _ => ?_) <;> cbv)
    | (refine Ar.geq_ hA (fun _ => ?_) (fun _ => ?_) <;> cbv)
    | (refine Ar.eql_ hA (fun _ => ?_) (fun _ => ?_) <;> cbv)
    | (refine Ar.neq_ hA (fun _ => ?_) (fun _ => ?_) <;> cbv)
    | (refine Ar.add_ hA (by omega) (fun _ _ => ?_); cbv)
    | (refine Ar.sub_ hA (by omega) (fun _ _ => ?_); cbv)
    | (refine Ar.neg_ hA (by omega) (fun _ _ => ?_); cbv)
    | (refine Ar.mulB hA 2000 2000 (by omega) (by omega) (by omega) (fun _ _ _ _ => ?_); cbv)
    | (refine Ar.mulB hA 3000000000 3000000000 (by omega) (by omega) (by omega) (fun _ _ _ _ => ?_); cbv)
    | (refine Ar.nz_ hA (by omega) ?_; cbv)
    | (refine Ar.rem_ hA (by omega) (fun _ _ => ?_); cbv)
    | (refine Ar.quo_ hA (by omega) (fun _ _ => ?_); cbv)
    | (refine Ar.mx_ hA (fun _ _ => ?_); cbv)
    | (refine Ar.mn_ hA (fun _ _ => ?_); cbv)
    | (refine Ar.len_ hA (fun _ _ _ => ?_); cbv)
    | (refine Ar.lenN_ hA (fun _ _ => ?_); cbv)
    | (refine Ar.bneq_ hA (fun _ => ?_) (fun _ => ?_) <;> cbv)
    | (refine Ar.beq_ hA (fun _ => ?_) (fun _ => ?_) <;> cbv)
    | (refine Ar.ofN_ hA (fun _ _ _ => ?_); cbv)
)
  all_goals exact hK _ _ (by simp; omega) rfl

end Go.VAI
