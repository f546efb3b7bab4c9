/- WidestIn, AreaTwice, Sees, and the laws. -/
import Derived.Test.YtjkcnepcppljpaaE
namespace Go.VAI
open Go.Proofs
set_option maxRecDepth 100000
set_option maxHeartbeats 8000000

/-! WidestIn -/

theorem ok_bounds {l : List P2} (h : ∀ p ∈ l, p.ok = true) {j : Nat} {x y : Int} (hp : l[j]? = some ⟨x, y⟩) : -1000 ≤ x ∧ x ≤ 1000 ∧ -1000 ≤ y ∧ y ≤ 1000 := P2.ok_iff.1 (h _ (List.mem_of_getElem? hp))

def widestR (l : List P2) : Int := if isCloudF l then widest l else 0

theorem szF_lt {k : Nat} {n r : Int} (h : r = szF k n) : (0 ≤ r → (k : Int) ≤ n ∧ r = n - k) ∧ (r < 0 → r = -1) := by
  subst h; unfold szF; split <;> omega
theorem szF_le {k : Nat} {r : Int} (h : r = szF k 1048576) (h0 : 0 ≤ r) : k ≤ 1048576 := by
  have := (szF_lt h).1 h0; omega

end Go.VAI
