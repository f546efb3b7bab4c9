/- BorderPoints, CrossingsAt, WindingAt, Inside. -/
import Derived.Test.YtjkcnepcppljpaaM
namespace Go.VAI
open Go.Proofs
set_option maxRecDepth 100000
set_option maxHeartbeats 8000000

def gcdI (a b : Int) : Int := ((Nat.gcd a.natAbs b.natAbs : Nat) : Int)
def absI (n : Int) : Int := (n.natAbs : Int)

theorem gcdI_bounds (a b : Int) (M : Int) (ha : -M ≤ a ∧ a ≤ M) (hb : -M ≤ b ∧ b ≤ M) : 0 ≤ gcdI a b ∧ gcdI a b ≤ M := by
  unfold gcdI
  have h1 := Nat.gcd_dvd_left a.natAbs b.natAbs
  refine ⟨by omega, ?_⟩
  rcases Nat.eq_zero_or_pos a.natAbs with h | h
  · rw [h, Nat.gcd_zero_left]; omega
  · have := Nat.le_of_dvd h h1
    omega

/-- Where Euclid's loop ends. -/
theorem gcd_end {a b x y : Int} (h : Nat.gcd x.toNat y.toNat = Nat.gcd a.natAbs b.natAbs) (hx : 0 ≤ x) (hy : 0 ≤ y) (h0 : y ≤ 0) : x = gcdI a b := by
  unfold gcdI
  rw [← h, show y.toNat = 0 by omega, Nat.gcd_zero_right]; omega

theorem gcd_step {x y r : Int} {g : Nat} (h : Nat.gcd x.toNat y.toNat = g) (hx : 0 ≤ x) (hy : 0 < y) (hr : r = x % y) : Nat.gcd y.toNat r.toNat = g ∧ 0 ≤ r ∧ r < y := by
  have h1 := Int.emod_nonneg x (b := y) (by omega)
  have h2 := Int.emod_lt_of_pos x hy
  refine ⟨?_, by omega, by omega⟩
  have : r.toNat = x.toNat % y.toNat := by
    have e1 : x = ((x.toNat : Nat) : Int) := by omega
    have e2 : y = ((y.toNat : Nat) : Int) := by omega
    rw [hr, e1, e2]; rfl
  rw [this, Nat.gcd_comm, ← Nat.gcd_rec, Nat.gcd_comm, h]

theorem absI_toNat (a : Int) : (absI a).toNat = a.natAbs := by unfold absI; omega
theorem absI_nn (a : Int) : 0 ≤ absI a := by unfold absI; omega

/-- A sum over the numbers below k. -/
def sumTo (f : Nat → Int) : Nat → Int
  | 0 => 0
  | k + 1 => sumTo f k + f k
theorem sumTo_next {f : Nat → Int} {j k : Nat} {m m' : Int} (h : m = sumTo f j) (hk : k = j + 1) (hm : m' = m + f j) : m' = sumTo f k := by
  subst hk; rw [hm, h]; rfl

def borderE (l : List P2) (i : Nat) : Int := gcdI ((nx l i).x - (at0 l i).x) ((nx l i).y - (at0 l i).y)
def border (l : List P2) : Int := sumTo (borderE l) l.length
def borderR (l : List P2) : Int := if isWayF l then border l else 0

end Go.VAI
