/- OnWay. -/
import Derived.Test.YtjkcnepcppljpaaG
namespace Go.VAI
open Go.Proofs
set_option maxRecDepth 100000
set_option maxHeartbeats 8000000

def at0 (l : List P2) (i : Nat) : P2 := (l[i]?).getD ⟨0, 0⟩
theorem at0_of {l : List P2} {i : Nat} {p : P2} (h : l[i]? = some p) : at0 l i = p := by unfold at0; rw [h]; rfl

/-- Does it hold of a number below k? -/
def anyTo (f : Nat → Bool) : Nat → Bool
  | 0 => false
  | k + 1 => anyTo f k || f k
theorem anyTo_true {f : Nat → Bool} {j : Nat} (hf : f j = true) : ∀ {n : Nat}, j < n → anyTo f n = true
  | 0, h => absurd h (Nat.not_lt_zero _)
  | n + 1, h => by
    unfold anyTo
    rcases Nat.lt_succ_iff_lt_or_eq.1 h with h | h
    · rw [anyTo_true hf h]; rfl
    · rw [← h, hf, Bool.or_true]
theorem anyTo_next {f : Nat → Bool} {j k : Nat} (h : anyTo f j = false) (hf : f j = false) (hk : k = j + 1) : anyTo f k = false := by
  subst hk; unfold anyTo; rw [h, hf]; rfl

def onEdge (l : List P2) (x y : Int) (i : Nat) : Bool := onSeg (at0 l i) (nx l i) ⟨x, y⟩
def onWayF (l : List P2) (x y : Int) : Bool := anyTo (onEdge l x y) l.length
def goodOn (l : List P2) (x y : Int) : Bool := isWayF l && P2.ok ⟨x, y⟩

theorem goodOn_iff {l : List P2} {x y : Int} (h : goodOn l x y = true) : 3 ≤ l.length ∧ l.length ≤ 12 ∧ (∀ p ∈ l, p.ok = true) ∧ -1000 ≤ x ∧ x ≤ 1000 ∧ -1000 ≤ y ∧ y ≤ 1000 := by
  unfold goodOn at h
  rw [Bool.and_eq_true] at h
  obtain ⟨h1, h2, h3⟩ := isWayF_iff.1 h.1
  exact ⟨h1, h2, h3, P2.ok_iff.1 h.2⟩

end Go.VAI
