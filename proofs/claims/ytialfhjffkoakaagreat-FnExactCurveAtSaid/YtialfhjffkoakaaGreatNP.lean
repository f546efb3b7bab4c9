/- Fractions in lowest terms, on both sides. -/
import Derived.Test.YtialfhjffkoakaaGreatNO
namespace Go.VAI
open Go.Proofs
set_option maxRecDepth 100000
set_option maxHeartbeats 8000000

/-- A fraction's limbs. -/
def RatP (s : Bool) (a : List PV) (t : Bool) (b : List PV) (q : Rat) : Prop := Big s a q.num ∧ Big t b (q.den : Int)
theorem RatP.ex (q : Rat) : ∃ s a t b, RatP s a t b q := by
  obtain ⟨s, a, h⟩ := Big.ex q.num
  obtain ⟨t, b, k⟩ := Big.ex (q.den : Int)
  exact ⟨s, a, t, b, h, k⟩
theorem RatP.inj {s s' t t' : Bool} {a a' b b' : List PV} {q : Rat} (h : RatP s a t b q) (k : RatP s' a' t' b' q) : s = s' ∧ a = a' ∧ t = t' ∧ b = b' := by
  obtain ⟨h1, h2⟩ := h.1.inj k.1
  obtain ⟨h3, h4⟩ := h.2.inj k.2
  exact ⟨h1, h2, h3, h4⟩
/-- At most k limbs. -/
def Sz (k : Nat) (q : Rat) : Prop := iabs q.num < pw k ∧ (q.den : Int) < pw k
theorem RatP.len {s t : Bool} {a b : List PV} {q : Rat} {k : Nat} (h : RatP s a t b q) (hs : Sz k q) : a.length ≤ k ∧ b.length ≤ k := by
  refine ⟨h.1.1.len hs.1, h.2.1.len ?_⟩
  rw [iabs_of (by omega)]; exact hs.2
theorem den_pos (q : Rat) : (0 : Int) < q.den := by have := q.den_pos; omega
theorem iabs_mul (x y : Int) : iabs (x * y) = iabs x * iabs y := by rw [iabs_abs, iabs_abs, iabs_abs, Int.natAbs_mul, Int.natCast_mul]
theorem iabs_add (x y : Int) : iabs (x + y) ≤ iabs x + iabs y := by unfold iabs; (repeat' split) <;> omega
theorem mul_lt_pw {x y : Int} {k l : Nat} (hx : 0 ≤ x) (hy : 0 ≤ y) (h1 : x < pw k) (h2 : y < pw l) : x * y < pw (k + l) := by
  rw [pw_add]
  have h3 : x * y ≤ x * pw l := Int.mul_le_mul_of_nonneg_left (Int.le_of_lt h2) hx
  have h4 : x * pw l < pw k * pw l := Int.mul_lt_mul_of_pos_right h1 (pw_pos l)
  omega

theorem divInt_parts {x y : Int} (hy : y ≠ 0) : (Rat.divInt x y).num = x.tdiv (if y < 0 then -(Int.gcd x y : Int) else Int.gcd x y) ∧ ((Rat.divInt x y).den : Int) = y.tdiv (if y < 0 then -(Int.gcd x y : Int) else Int.gcd x y) := by
  rw [Rat.num_divInt, Rat.den_divInt, if_neg hy, Int.gcd_comm y x]
  have hd1 : (Int.gcd x y : Int) ∣ x := Int.gcd_dvd_left ..
  have hd2 : (Int.gcd x y : Int) ∣ y := Int.gcd_dvd_right ..
  obtain ⟨m, hm⟩ := hd1
  obtain ⟨n, hn⟩ := hd2
  have hg : (0 : Int) < Int.gcd x y := by have := Int.gcd_pos_of_ne_zero_right x hy; omega
  rw [Int.natCast_ediv, ← iabs_abs]
  generalize (Int.gcd x y : Int) = g at *
  subst hm hn
  have hg0 : g ≠ 0 := by omega
  have hns : (0 < n ∧ 0 < g * n) ∨ (n < 0 ∧ g * n < 0) := by
    rcases Int.lt_trichotomy n 0 with h | h | h
    · exact .inr ⟨h, Int.mul_neg_of_pos_of_neg hg h⟩
    · subst h; simp at hy
    · exact .inl ⟨h, Int.mul_pos hg h⟩
  rcases hns with ⟨h1, h2⟩ | ⟨h1, h2⟩
  · rw [if_neg (by omega), Int.sign_eq_one_of_pos h2, Int.one_mul, iabs_of (by omega), Int.mul_ediv_cancel_left _ hg0, Int.mul_ediv_cancel_left _ hg0, Int.mul_tdiv_cancel_left _ hg0, Int.mul_tdiv_cancel_left _ hg0]
    exact ⟨rfl, rfl⟩
  · rw [if_pos h2, Int.sign_eq_neg_one_of_neg h2, Int.tdiv_neg, Int.tdiv_neg, Int.mul_tdiv_cancel_left _ hg0, Int.mul_tdiv_cancel_left _ hg0]
    refine ⟨by rw [show -1 * (g * m) = g * -m by rw [Int.mul_neg]; omega, Int.mul_ediv_cancel_left _ hg0], ?_⟩
    rw [show iabs (g * n) = g * -n by rw [Int.mul_neg]; unfold iabs; rw [if_pos h2], Int.mul_ediv_cancel_left _ hg0]

theorem tdiv_le {x g : Int} : iabs (x.tdiv g) ≤ iabs x := by
  have : iabs (x.tdiv g) = iabs x / iabs g := by
    rw [iabs_abs, iabs_abs, iabs_abs, Int.natAbs_tdiv]
    exact Int.natCast_ediv _ _
  rw [this]
  exact Int.ediv_le_self _ (iabs_nonneg x)

theorem Sz.divInt {x y : Int} {k : Nat} (hy : y ≠ 0) (h1 : iabs x < pw k) (h2 : iabs y < pw k) : Sz k (Rat.divInt x y) := by
  obtain ⟨e1, e2⟩ := divInt_parts (x := x) hy
  refine ⟨?_, ?_⟩
  · rw [e1]; have := @tdiv_le x (if y < 0 then -(Int.gcd x y : Int) else Int.gcd x y); omega
  · have := @tdiv_le y (if y < 0 then -(Int.gcd x y : Int) else Int.gcd x y)
    rw [← e2, iabs_of (by omega)] at this; omega
theorem Sz.mono {q : Rat} {k l : Nat} (h : Sz k q) (hk : k ≤ l) : Sz l q := by
  have := pw_le hk
  exact ⟨by have := h.1; omega, by have := h.2; omega⟩

theorem gcd_len {a b c : List PV} {x y : Int} {s t : Bool} (ha : Big s a x) (hb : Big t b y) (hy : y ≠ 0) (hc : Num c (Int.gcd x y)) : c.length ≤ b.length := by
  refine hb.1.len_le hc ?_
  have h1 : (Int.gcd x y : Int) ∣ iabs y := by
    rw [iabs_abs]
    exact Int.dvd_natAbs.2 (Int.gcd_dvd_right ..)
  exact Int.le_of_dvd (iabs_pos hy) h1

theorem tdiv_neg_iff {y G : Int} (hg : 0 < G) (h : G ∣ y) : y.tdiv G < 0 ↔ y < 0 := by
  obtain ⟨m, rfl⟩ := h
  rw [Int.mul_tdiv_cancel_left _ (by omega)]
  rcases Int.lt_or_le m 0 with h | h
  · have := Int.mul_neg_of_pos_of_neg hg h; omega
  · have := Int.mul_nonneg (Int.le_of_lt hg) h; omega

theorem c_impl_ratOf : Callable Tryz.prog 102 := ⟨_, Tryz.func102, rfl, by kernel_rfl⟩
theorem d_impl_ratOf {s t g h : Bool} {a b n d : List PV} {x y : Int} (ha : Big s a x) (hb : Big t b y) (hy : y ≠ 0) (hl : a.length ≤ 100000 ∧ b.length ≤ 100000) (hr : RatP g n h d (Rat.divInt x y)) : Does Tryz.prog 102 [.agg [bl s, .sl a], .agg [bl t, .sl b]] (.ag [.pv (bl g), .row n 1 .free, .pv (bl h), .row d 1 .free]) [] := by
  refine does_of hT hM Tryz.func102 rfl (D := []) (by kernel_rfl) rfl rfl rfl (fun A K hA hK => ?_)
  obtain ⟨e1, e2⟩ := divInt_parts (x := x) hy
  obtain ⟨hn, hd⟩ := hr
  rw [e1] at hn
  rw [e2] at hd
  clear e1 e2
  have hg : (0 : Int) < Int.gcd x y := by have := Int.gcd_pos_of_ne_zero_right x hy; omega
  obtain ⟨c, hc⟩ := Num.ex (Int.le_of_lt hg)
  have hcl := gcd_len ha hb hy hc
  have d0 := d_impl_Big_gcd ha hb hl hc
  have ht : t = decide (y < 0) := hb.2
  generalize (Int.gcd x y : Int) = G at *
  have hcb := big_pos hc
  obtain ⟨s2, r2, hr2⟩ := Big.ex (x.tmod (if y < 0 then -G else G))
  obtain ⟨s3, r3, hr3⟩ := Big.ex (y.tmod (if y < 0 then -G else G))
  cases t with
  | true =>
    have hneg : y < 0 := by simpa using ht.symm
    rw [if_pos hneg] at hn hd hr2 hr3
    obtain ⟨u, c2, hc2⟩ := Big.ex (-G)
    have hc2l := Big.len_neg hcb hc2
    have d1 := d_impl_Big_neg hcb (by omega) hc2
    have d2 := d_impl_Big_div ha hc2 (by omega) (by omega) hn hr2
    have d3 := d_impl_Big_div hb hc2 (by omega) (by omega) hd hr3
    cbv
    refine Ar.call_ hA c_impl_Big_gcd d0 rfl ?_
    cbv
    refine Ar.call_ hA c_impl_Big_neg d1 rfl ?_
    cbv
    refine Ar.call_ hA c_impl_Big_div d2 rfl ?_
    cbv
    refine Ar.call_ hA c_impl_Big_div d3 rfl ?_
    cbv
    exact hK _ _ rfl rfl
  | false =>
    have hneg : ¬ y < 0 := by simpa using ht.symm
    rw [if_neg hneg] at hn hd hr2 hr3
    have d2 := d_impl_Big_div ha hcb (by omega) (by omega) hn hr2
    have d3 := d_impl_Big_div hb hcb (by omega) (by omega) hd hr3
    cbv
    refine Ar.call_ hA c_impl_Big_gcd d0 rfl ?_
    cbv
    refine Ar.call_ hA c_impl_Big_div d2 rfl ?_
    cbv
    refine Ar.call_ hA c_impl_Big_div d3 rfl ?_
    cbv
    exact hK _ _ rfl rfl

theorem c_spec_l2Make : Callable Tryz.prog 97 := ⟨_, Tryz.func97, rfl, by kernel_rfl⟩
theorem d_spec_l2Make {s t g h : Bool} {a b n d : List PV} {x y : Int} (ha : Big s a x) (hb : Big t b y) (hy : y ≠ 0) (hl : a.length ≤ 100000 ∧ b.length ≤ 100000) (hr : RatP g n h d (Rat.divInt x y)) : Does Tryz.prog 97 [.agg [bl s, .sl a], .agg [bl t, .sl b]] (.ag [.pv (bl g), .row n 1 .free, .pv (bl h), .row d 1 .free]) [] := by
  refine does_of hT hM Tryz.func97 rfl (D := []) (by kernel_rfl) rfl rfl rfl (fun A K hA hK => ?_)
  obtain ⟨e1, e2⟩ := divInt_parts (x := x) hy
  obtain ⟨hn, hd⟩ := hr
  rw [e1] at hn
  rw [e2] at hd
  clear e1 e2
  have hg : (0 : Int) < Int.gcd x y := by have := Int.gcd_pos_of_ne_zero_right x hy; omega
  obtain ⟨c, hc⟩ := Num.ex (Int.le_of_lt hg)
  have hcl := gcd_len ha hb hy hc
  have d0 := d_spec_l1Gcd ha.1 hb.1 hl (by rw [iabs_abs, iabs_abs]; simpa [Int.gcd] using hc)
  have dm := l1Make_num (g := false) (s := false) hc (by omega) rfl
  have hdv : (Int.gcd x y : Int) ∣ y := Int.gcd_dvd_right ..
  generalize (Int.gcd x y : Int) = G at *
  have hcb := big_pos hc
  obtain ⟨s1, n1, hn1⟩ := Big.ex (x.tdiv G)
  obtain ⟨t1, m1, hm1⟩ := Big.ex (y.tdiv G)
  obtain ⟨s2, r2, hr2⟩ := Big.ex (x.tmod G)
  obtain ⟨s3, r3, hr3⟩ := Big.ex (y.tmod G)
  have d2 := d_spec_l1Div ha hcb (by omega) (by omega) hn1 hr2
  have d3 := d_spec_l1Div hb hcb (by omega) (by omega) hm1 hr3
  have ln := Num.len_le ha.1 hn1.1 tdiv_le
  have lm := Num.len_le hb.1 hm1.1 tdiv_le
  have ht : t1 = decide (y.tdiv G < 0) := hm1.2
  have hiff := tdiv_neg_iff hg hdv
  cases t1 with
  | true =>
    have hneg : y < 0 := hiff.1 (by simpa using ht.symm)
    rw [if_pos hneg, Int.tdiv_neg] at hn hd
    have d4 := d_spec_l1Neg hn1 (by omega) hn
    have d5 := d_spec_l1Neg hm1 (by omega) hd
    cbv
    refine Ar.call_ hA c_spec_l1Gcd d0 rfl ?_
    cbv
    refine Ar.call_ hA c_spec_l1Make dm rfl ?_
    cbv
    refine Ar.call_ hA c_spec_l1Div d2 rfl ?_
    cbv
    refine Ar.call_ hA c_spec_l1Div d3 rfl ?_
    cbv
    refine Ar.call_ hA c_spec_l1Neg d4 rfl ?_
    cbv
    refine Ar.call_ hA c_spec_l1Neg d5 rfl ?_
    cbv
    exact hK _ _ rfl rfl
  | false =>
    have hneg : ¬ y < 0 := fun h => by have := hiff.2 h; simp at ht; omega
    rw [if_neg hneg] at hn hd
    obtain ⟨rfl, rfl⟩ := hn.inj hn1
    obtain ⟨rfl, rfl⟩ := hd.inj hm1
    cbv
    refine Ar.call_ hA c_spec_l1Gcd d0 rfl ?_
    cbv
    refine Ar.call_ hA c_spec_l1Make dm rfl ?_
    cbv
    refine Ar.call_ hA c_spec_l1Div d2 rfl ?_
    cbv
    refine Ar.call_ hA c_spec_l1Div d3 rfl ?_
    cbv
    exact hK _ _ rfl rfl

end Go.VAI
