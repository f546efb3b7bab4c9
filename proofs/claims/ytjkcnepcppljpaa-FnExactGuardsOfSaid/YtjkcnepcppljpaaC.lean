/- The small laws on points and windows. -/
import Derived.Test.YtjkcnepcppljpaaB
namespace Go.VAI
open Go.Proofs
set_option maxRecDepth 100000
set_option maxHeartbeats 8000000

abbrev InR (x : Int) : Prop := -9223372036854775808 ≤ x ∧ x ≤ 9223372036854775807

theorem hasV_Int {r : PV} (h : hasV 6 3 r) : ∃ x, r = i64 x ∧ InR x := by
  obtain ⟨x, h, hx⟩ := h
  cases h
  exact ⟨x, rfl, bounds_i64 hx⟩

theorem hasV_Bool {r : PV} (h : hasV 6 4 r) : ∃ x, r = bl x ∧ True := by
  obtain ⟨x, h⟩ := h
  cases h
  exact ⟨x, rfl, trivial⟩

theorem hasV_Pt {r : PV} (h : hasV 6 47 r) : ∃ x y, r = pt x y ∧ InR x ∧ InR y := by
  obtain ⟨ls, rfl, a, q, rfl, ⟨x, rfl, hx⟩, b, q', rfl, ⟨y, rfl, hy⟩, rfl⟩ := h
  exact ⟨x, y, rfl, bounds_i64 hx, bounds_i64 hy⟩


def okP3 (a b c : P2) : Bool := [a, b, c].all P2.ok
def okP4 (a b c d : P2) : Bool := [a, b, c, d].all P2.ok
theorem okP3_iff {a b c : P2} (h : okP3 a b c = true) : (-1000 ≤ a.x ∧ a.x ≤ 1000 ∧ -1000 ≤ a.y ∧ a.y ≤ 1000) ∧ (-1000 ≤ b.x ∧ b.x ≤ 1000 ∧ -1000 ≤ b.y ∧ b.y ≤ 1000) ∧ (-1000 ≤ c.x ∧ c.x ≤ 1000 ∧ -1000 ≤ c.y ∧ c.y ≤ 1000) := by
  simpa only [okP3, List.all_cons, List.all_nil, Bool.and_true, Bool.and_eq_true, P2.ok_iff] using h
theorem okP4_iff {a b c d : P2} (h : okP4 a b c d = true) : (-1000 ≤ a.x ∧ a.x ≤ 1000 ∧ -1000 ≤ a.y ∧ a.y ≤ 1000) ∧ (-1000 ≤ b.x ∧ b.x ≤ 1000 ∧ -1000 ≤ b.y ∧ b.y ≤ 1000) ∧ (-1000 ≤ c.x ∧ c.x ≤ 1000 ∧ -1000 ≤ c.y ∧ c.y ≤ 1000) ∧ (-1000 ≤ d.x ∧ d.x ≤ 1000 ∧ -1000 ≤ d.y ∧ d.y ≤ 1000) := by
  simpa only [okP4, List.all_cons, List.all_nil, Bool.and_true, Bool.and_eq_true, P2.ok_iff] using h

/-! GoodPt, GoodWindow -/

def okW (x y z w : Int) : Bool := decide (-20 ≤ x ∧ x ≤ 20 ∧ -20 ≤ y ∧ y ≤ 20 ∧ 1 ≤ z ∧ z ≤ 8 ∧ 1 ≤ w ∧ w ≤ 8)

/-! Orient -/

/-! OnSegment -/

/-! LessPt -/

def lexLess (a b : P2) : Bool := decide (a.x < b.x) || (decide (a.x = b.x) && decide (a.y < b.y))

def orI (l : List Int) : Int := (l.find? (fun x => decide (x ≠ 0))).getD 0

def cmpP (a b : P2) : Int := if sgn (a.x - b.x) = 0 then sgn (a.y - b.y) else sgn (a.x - b.x)

theorem cmpP_lex (a b : P2) : decide (cmpP a b < 0) = lexLess a b := by
  unfold cmpP lexLess sgn
  rw [Bool.eq_iff_iff]
  simp only [decide_eq_true_eq, Bool.or_eq_true, Bool.and_eq_true]
  repeat' split
  all_goals omega

end Go.VAI
