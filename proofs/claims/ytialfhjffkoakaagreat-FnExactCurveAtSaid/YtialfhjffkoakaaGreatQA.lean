/- The law MixPt. -/
import Derived.Test.YtialfhjffkoakaaGreatNX
import Derived.Test.YtialfhjffkoakaaGreatIP
namespace Go.VAI
open Go.Proofs
set_option maxRecDepth 100000
set_option maxHeartbeats 8000000

theorem hasV_RPt {r : PV} (h : hasV 6 56 r) : ∃ s1 a1 t1 b1 s2 a2 t2 b2, ∃ l1 m1 l2 m2 : List Int, r = .agg [bl s1, .sl a1, bl t1, .sl b1, bl s2, .sl a2, bl t2, .sl b2] ∧ a1 = l1.map i64 ∧ b1 = m1.map i64 ∧ a2 = l2.map i64 ∧ b2 = m2.map i64 ∧ lenOk ((s1, l1), (t1, m1)) ∧ lenOk ((s2, l2), (t2, m2)) := by
  obtain ⟨ls, rfl, a1, b1, rfl, ⟨a2, b2, rfl, ⟨a3, b3, rfl, ⟨s1, rfl⟩, a4, b4, rfl, ⟨l1, rfl, m1, k1⟩, rfl⟩, a5, b5, rfl, ⟨a6, b6, rfl, ⟨s2, rfl⟩, a7, b7, rfl, ⟨l2, rfl, m2, k2⟩, rfl⟩, rfl⟩, a8, b8, rfl, ⟨a9, b9, rfl, ⟨a10, b10, rfl, ⟨s3, rfl⟩, a11, b11, rfl, ⟨l3, rfl, m3, k3⟩, rfl⟩, a12, b12, rfl, ⟨a13, b13, rfl, ⟨s4, rfl⟩, a14, b14, rfl, ⟨l4, rfl, m4, k4⟩, rfl⟩, rfl⟩, rfl⟩ := h
  obtain ⟨i1, rfl⟩ := ints_of' k1
  obtain ⟨i2, rfl⟩ := ints_of' k2
  obtain ⟨i3, rfl⟩ := ints_of' k3
  obtain ⟨i4, rfl⟩ := ints_of' k4
  exact ⟨_, _, _, _, _, _, _, _, i1, i2, i3, i4, rfl, rfl, rfl, rfl, rfl, ⟨by simpa using m1, by simpa using m2⟩, ⟨by simpa using m3, by simpa using m4⟩⟩

/-- What a valid point is. -/
theorem pt_rat {k : Nat} {s1 t1 s2 t2 : Bool} {a1 b1 a2 b2 : List PV} {l1 m1 l2 m2 : List Int} (ha1 : a1 = l1.map i64) (hb1 : b1 = m1.map i64) (ha2 : a2 = l2.map i64) (hb2 : b2 = m2.map i64) (h : isPt k (((s1, l1), (t1, m1)), ((s2, l2), (t2, m2))) = true) : ∃ p : Rat × Rat, RatP s1 a1 t1 b1 p.1 ∧ RatP s2 a2 t2 b2 p.2 ∧ Szp k p := by
  unfold isPt at h
  simp only [Bool.and_eq_true] at h
  obtain ⟨x, hx, hx'⟩ := goodR_rat h.1.1.1 h.1.2
  obtain ⟨y, hy, hy'⟩ := goodR_rat h.1.1.2 h.2
  exact ⟨(x, y), by rw [ha1, hb1]; exact hx, by rw [ha2, hb2]; exact hy, hx', hy'⟩
theorem res8_len (p : Rat × Rat) : len8 1048576 (res8 p) := by
  unfold res8 okP
  split
  · rename_i h
    simp only [Bool.and_eq_true, fits_iff] at h
    have := @b8_len p 40 h
    exact ⟨⟨by have := this.1.1; omega, by have := this.1.2; omega⟩, ⟨by have := this.2.1; omega, by have := this.2.2; omega⟩⟩
  · exact ⟨⟨by simp [z8, z4], by simp [z8, z4]⟩, ⟨by simp [z8, z4], by simp [z8, z4]⟩⟩
theorem rs8_pv (r : R8) : wk2 (rs8 r) = .pv (r8pv r) := rfl
theorem rs4_pv (r : R4) : wk2 (rs4 r) = .pv (r4pv r) := rfl

end Go.VAI
