/- The program's GcdInt and the reference's GcdInt return the same pair for every two ints (no condition). -/
import Derived.Test.YtlmclblniflifaaPFnExactGcdIntx1
namespace Go.Proofs.Ytlmclblniflifaa.Pure
open Go.RowKit Go.Proofs.Ytlmclblniflifaa.PFnExactGcdInt Go.Proofs.YtlmclblniflifaaW.PrintWords Go.Proofs.YtlmclblniflifaaW.PrintLast

theorem gcd_same (n : Nat) : ∀ (x y : Int), 0 ≤ x → y.toNat ≤ n → ∀ k, n < k →
    ∃ r, spec_l8Gcd.l0 k x y = some r ∧ impl_gcdInt.l0 k x y = some r := by
  induction n with
  | zero =>
    intro x y hx hy k hk
    obtain ⟨k, rfl⟩ : ∃ m, k = m + 1 := ⟨k - 1, by omega⟩
    refine ⟨x, ?_, ?_⟩
    · simp only [spec_l8Gcd.l0]; rw [if_neg (by omega)]
    · simp only [impl_gcdInt.l0]; rw [if_neg (by omega)]
  | succ n ih =>
    intro x y hx hy k hk
    obtain ⟨k, rfl⟩ : ∃ m, k = m + 1 := ⟨k - 1, by omega⟩
    by_cases h : y > 0
    · have h1 : 0 ≤ Int.tmod x y := Int.tmod_nonneg _ hx
      have h2 : Int.tmod x y < y := Int.tmod_lt_of_pos _ h
      obtain ⟨r, e1, e2⟩ := ih y (Int.tmod x y) (by omega) (by omega) k (by omega)
      refine ⟨r, ?_, ?_⟩
      · simp only [spec_l8Gcd.l0]; rw [if_pos h, if_neg (by omega)]; exact e1
      · simp only [impl_gcdInt.l0]; rw [if_pos h, if_neg (by omega)]; exact e2
    · refine ⟨x, ?_, ?_⟩
      · simp only [spec_l8Gcd.l0]; rw [if_neg h]
      · simp only [impl_gcdInt.l0]; rw [if_neg h]

theorem abs_same (a : Int) (h1 : -10000 ≤ a) (h2 : a ≤ 10000) :
    spec_l8Abs.f a = some (mx a (wrap64 (-a))) ∧ 0 ≤ mx a (wrap64 (-a)) := by
  have e : wrap64 (-a) = -a := by unfold wrap64; omega
  rw [e]
  unfold spec_l8Abs.f spec_l8Sign.f mx
  by_cases c : a > 0
  · rw [if_pos c, if_neg (by omega)]
    have e2 : wrap64 (a * 1) = a := by unfold wrap64; omega
    refine ⟨?_, by omega⟩
    show some (wrap64 (a * 1)) = some a
    rw [e2]
  · rw [if_neg c]
    by_cases d : a < 0
    · rw [if_pos d, if_pos (by omega)]
      have e2 : wrap64 (a * (-1)) = -a := by unfold wrap64; omega
      refine ⟨?_, by omega⟩
      show some (wrap64 (a * (-1))) = some (-a)
      rw [e2]
    · rw [if_neg d, if_neg (by omega)]
      have e2 : wrap64 (a * 0) = a := by unfold wrap64; omega
      refine ⟨?_, by omega⟩
      show some (wrap64 (a * 0)) = some a
      rw [e2]

theorem in_same (a : Int) : spec_l1In.f a (-10000) 10000 = impl_within.f a (-10000) 10000 := rfl

theorem FnExactGcdInt : laws_FnExactGcdInt.Pure := by
  intro a b _ _
  unfold laws_FnExactGcdInt.f spec_GcdInt.f impl_GcdInt.f
  rw [in_same a, in_same b]
  have hin : ∀ x, impl_within.f x (-10000) 10000 = some (decide (-10000 ≤ x ∧ x ≤ 10000)) := by
    intro x
    unfold impl_within.f
    by_cases h : x ≥ -10000
    · rw [if_pos h]; congr 1; simp; omega
    · rw [if_neg h]; congr 1; simp; omega
  rw [hin a, hin b]
  by_cases ha : -10000 ≤ a ∧ a ≤ 10000
  · by_cases hb : -10000 ≤ b ∧ b ≤ 10000
    · obtain ⟨sa, pa⟩ := abs_same a ha.1 ha.2
      obtain ⟨sb, _⟩ := abs_same b hb.1 hb.2
      obtain ⟨r, e1, e2⟩ := gcd_same (mx b (wrap64 (-b))).toNat (mx a (wrap64 (-a))) (mx b (wrap64 (-b))) pa (Nat.le_refl _) _ (Nat.lt_succ_self _)
      refine ⟨(mx b (wrap64 (-b))).toNat + 1, ?_⟩
      unfold spec_l8Gcd.f impl_gcdInt.f
      rw [sa, sb]
      simp only [ha, hb, decide_true, Option.bind_some, if_true, and_self]
      rw [e1, e2]
      simp
    · refine ⟨0, ?_⟩
      simp [hb]
  · refine ⟨0, ?_⟩
    simp [ha]

end Go.Proofs.Ytlmclblniflifaa.Pure
