/- The functions on points and rows of points: what each does. -/
import Derived.Test.YtialfhjffkoakaaGreatA
namespace Go.VAI
open Go.Proofs
set_option maxRecDepth 100000
set_option maxHeartbeats 8000000

def P2.pv (p : P2) : PV := pt p.x p.y
theorem P2.ok_iff {p : P2} : p.ok = true ↔ -1000 ≤ p.x ∧ p.x ≤ 1000 ∧ -1000 ≤ p.y ∧ p.y ≤ 1000 := by
  simp [P2.ok, and_assoc]

/-- The first place at which something holds, or -1. -/
def firstAt {α : Type} (q : α → Bool) (l : List α) : Int := match l.findIdx? q with
  | some i => i
  | none => -1

theorem firstAt_none {α : Type} {q : α → Bool} {l : List α} (h : ∀ p ∈ l, q p = false) : firstAt q l = -1 := by
  unfold firstAt
  have : l.findIdx? q = none := List.findIdx?_eq_none_iff.2 h
  rw [this]
theorem firstAt_some {α : Type} {q : α → Bool} {l : List α} {j : Nat} {p : α} (hp : l[j]? = some p) (hq : q p = true) (h : ∀ p ∈ l.take j, q p = false) : firstAt q l = j := by
  unfold firstAt
  have : l.findIdx? q = some j := by
    rw [List.findIdx?_eq_some_iff_getElem]
    obtain ⟨hlt, he⟩ := List.getElem?_eq_some_iff.1 hp
    refine ⟨hlt, by rw [he]; exact hq, fun k hk => ?_⟩
    rw [h (l[k]'(by omega)) (by rw [List.mem_take_iff_getElem]; exact ⟨k, by omega, rfl⟩)]; simp
  rw [this]
theorem firstAt_any {α : Type} {q : α → Bool} {l : List α} : decide (0 ≤ firstAt q l) = l.any q := by
  unfold firstAt
  cases h : l.findIdx? q with
  | none =>
    rw [List.findIdx?_eq_none_iff] at h
    have : l.any q = false := by rw [List.any_eq_false]; intro x hx; rw [h x hx]; simp
    rw [this]; rfl
  | some i =>
    rw [List.findIdx?_eq_some_iff_getElem] at h
    obtain ⟨h1, h2, _⟩ := h
    have : l.any q = true := List.any_eq_true.2 ⟨l[i], List.getElem_mem _, h2⟩
    rw [this]
    simp

end Go.VAI
