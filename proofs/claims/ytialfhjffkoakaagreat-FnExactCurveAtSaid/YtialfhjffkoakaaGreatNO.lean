/- Quotients, remainders and greatest common divisors of numbers, on both sides. -/
import Derived.Test.YtialfhjffkoakaaGreatNN
namespace Go.VAI
open Go.Proofs
set_option maxRecDepth 100000
set_option maxHeartbeats 8000000

theorem iabs_nonneg (x : Int) : 0 ≤ iabs x := by unfold iabs; split <;> omega
theorem iabs_abs (x : Int) : iabs x = (x.natAbs : Int) := by unfold iabs; split <;> omega
theorem iabs_pos {x : Int} (h : x ≠ 0) : 0 < iabs x := by unfold iabs; split <;> omega
theorem iabs_of {x : Int} (h : 0 ≤ x) : iabs x = x := by unfold iabs; rw [if_neg (by omega)]

theorem big_tdiv {s t g : Bool} {a b c : List PV} {x y : Int} (ha : Big s a x) (hb : Big t b y) (hy : y ≠ 0) (hc : Big g c (x.tdiv y)) : Num c (iabs x / iabs y) ∧ g = ((s != t) && decide (0 < iabs x / iabs y)) := by
  have e : iabs x / iabs y = iabs (x.tdiv y) := by
    rw [iabs_abs, iabs_abs, iabs_abs, Int.natAbs_tdiv]
    exact (Int.natCast_ediv _ _).symm
  rw [e]
  refine ⟨hc.1, ?_⟩
  rw [hc.2, ha.2, hb.2, ← e, Bool.eq_iff_iff]
  simp only [decide_eq_true_eq, Bool.and_eq_true, bne_iff_ne, ne_eq]
  have hq := Int.ediv_nonneg (iabs_nonneg x) (iabs_nonneg y)
  rcases Int.lt_or_le x 0 with hx | hx <;> rcases Int.lt_or_le y 0 with hy' | hy'
  · have h1 : x.tdiv y = iabs x / iabs y := by
      rw [← Int.neg_tdiv_neg, Int.tdiv_eq_ediv_of_nonneg (by omega), show -x = iabs x by unfold iabs; rw [if_pos hx], show -y = iabs y by unfold iabs; rw [if_pos hy']]
    rw [h1]; simp [hx, hy']; try omega
  · have h1 : x.tdiv y = -(iabs x / iabs y) := by
      rw [show x = -(-x) by omega, Int.neg_tdiv, Int.tdiv_eq_ediv_of_nonneg (by omega), show iabs (- -x) = -x by unfold iabs; rw [if_pos (by omega)]; try omega, iabs_of hy']
    rw [h1]; simp [hx, show ¬ y < 0 by omega]; try omega
  · have h1 : x.tdiv y = -(iabs x / iabs y) := by
      rw [show y = -(-y) by omega, Int.tdiv_neg, Int.tdiv_eq_ediv_of_nonneg (by omega), show iabs (- -y) = -y by unfold iabs; rw [if_pos (by omega)]; try omega, iabs_of hx]
    rw [h1]; simp [hy', show ¬ x < 0 by omega]; try omega
  · have h1 : x.tdiv y = iabs x / iabs y := by rw [Int.tdiv_eq_ediv_of_nonneg hx, iabs_of hx, iabs_of hy']
    rw [h1]; simp [show ¬ x < 0 by omega, show ¬ y < 0 by omega]; omega

theorem big_tmod {s g : Bool} {a c : List PV} {x y : Int} (ha : Big s a x) (hc : Big g c (x.tmod y)) : Num c (iabs x % iabs y) ∧ g = (s && decide (0 < iabs x % iabs y)) := by
  have e : iabs x % iabs y = iabs (x.tmod y) := by
    rw [iabs_abs, iabs_abs, iabs_abs, Int.natAbs_tmod, Int.natCast_emod]
  rw [e]
  refine ⟨hc.1, ?_⟩
  rw [hc.2, ha.2, Bool.eq_iff_iff]
  simp only [decide_eq_true_eq, Bool.and_eq_true]
  have h1 := iabs_nonneg (x.tmod y)
  rcases Int.lt_or_le x 0 with hx | hx
  · have h2 : x.tmod y ≤ 0 := by
      rw [show x = -(-x) by omega, Int.neg_tmod]
      have := Int.tmod_nonneg (a := -x) y (by omega)
      omega
    have h3 : iabs (x.tmod y) = -(x.tmod y) := by unfold iabs; split <;> omega
    rw [h3]; omega
  · have h2 := Int.tmod_nonneg (a := x) y hx
    omega

theorem quo_zero {x y : Int} (h0 : 0 ≤ x) (h : x < y) : x / y = 0 ∧ x % y = x := ⟨Int.ediv_eq_zero_of_lt h0 h, Int.emod_eq_of_lt h0 h⟩

/-- The same, with results that are only read. -/
theorem d_divI {a b q r : List PV} {x y : Int} (ha : Num a x) (hb : Num b y) (hy : 0 < y) (hl : a.length ≤ 100000 ∧ b.length ≤ 100000) (hq : Num q (x / y)) (hr : Num r (x % y)) : Does Tryz.prog 148 [.sl a, .sl b] (.tup [.pv (.sl q), .pv (.sl r)]) [] := by
  have h := (d_impl_divLimbs ha hb hy hl hq hr).wk
  unfold divRS at h
  split at h
  · rename_i hlt
    obtain ⟨e1, e2⟩ := quo_zero ha.nonneg hlt
    rw [e1] at hq
    rw [e2] at hr
    rw [hq.zero.2 rfl, hr.inj ha]; exact h
  · exact h
theorem d_divS {a b q r : List PV} {x y : Int} (ha : Num a x) (hb : Num b y) (hy : 0 < y) (hl : a.length ≤ 100000 ∧ b.length ≤ 100000) (hq : Num q (x / y)) (hr : Num r (x % y)) : Does Tryz.prog 143 [.sl a, .sl b] (.tup [.pv (.sl q), .pv (.sl r)]) [] := (d_spec_l1DivLimbs ha hb hy hl hq hr).wk

theorem num_pos {a : List PV} {x : Int} (h : Num a x) : 0 < a.length ↔ 0 < x := by
  have := h.zero
  have := h.nonneg
  rw [List.length_pos_iff]
  constructor
  · intro h1
    rcases Int.lt_or_eq_of_le (show 0 ≤ x by omega) with h2 | h2
    · exact h2
    · exact absurd (h.zero.2 h2.symm) h1
  · intro h1 h2
    have := h.zero.1 h2
    omega
theorem igcd_step {x y : Int} (hx : 0 ≤ x) (hy : 0 ≤ y) : Int.gcd y (x % y) = Int.gcd x y := by
  obtain ⟨m, rfl⟩ := Int.eq_ofNat_of_zero_le hx
  obtain ⟨n, rfl⟩ := Int.eq_ofNat_of_zero_le hy
  rw [← Int.natCast_emod, Int.gcd_natCast_natCast, Int.gcd_natCast_natCast, Nat.gcd_comm m n, Nat.gcd_comm n, ← Nat.gcd_rec]
theorem emod_le' {x y : Int} (hx : 0 ≤ x) (hy : 0 ≤ y) : x % y ≤ x := by
  have h1 := Int.mul_ediv_add_emod x y
  have h2 := Int.mul_nonneg hy (Int.ediv_nonneg hx hy)
  omega

theorem c_impl_Big_div : Callable Tryz.prog 132 := ⟨_, Tryz.func132, rfl, by kernel_rfl⟩
theorem d_impl_Big_div {s t g h : Bool} {a b q r : List PV} {x y : Int} (ha : Big s a x) (hb : Big t b y) (hy : y ≠ 0) (hl : a.length ≤ 100000 ∧ b.length ≤ 100000) (hq : Big g q (x.tdiv y)) (hr : Big h r (x.tmod y)) : Does Tryz.prog 132 [.agg [bl s, .sl a], .agg [bl t, .sl b]] (.tup [.ag [.pv (bl g), .row q 1 .free], .ag [.pv (bl h), .row r 1 .free]]) [] := by
  refine does_of hT hM Tryz.func132 rfl (D := []) (by kernel_rfl) rfl rfl rfl (fun A K hA hK => ?_)
  obtain ⟨hq', hg⟩ := big_tdiv ha hb hy hq
  obtain ⟨hr', hh⟩ := big_tmod ha hr
  have hyp := iabs_pos hy
  have d1 := d_divI ha.1 hb.1 hyp hl hq' hr'
  have lq := Num.len_le ha.1 hq' (Int.ediv_le_self _ (iabs_nonneg x))
  have lr := Num.len_le ha.1 hr' (emod_le' (iabs_nonneg x) (iabs_nonneg y))
  have d2 := fun p hp => bigOf_num (g := p) (s := g) hq' (by omega) hp
  have d3 := bigOf_num (g := s) (s := h) hr' (by omega) hh
  generalize iabs x / iabs y = n at *
  generalize iabs x % iabs y = n2 at *
  cbv
  refine Ar.call_ hA c_impl_divLimbs d1 rfl ?_
  cbv
  refine Ar.bneq_ hA (fun hst => ?_) (fun hst => ?_)
  · cbv
    refine Ar.call_ hA c_impl_bigOf (d2 true (by rw [hg]; simp [hst])) rfl ?_
    cbv
    refine Ar.call_ hA c_impl_bigOf d3 rfl ?_
    cbv
    exact hK _ _ rfl rfl
  · cbv
    refine Ar.call_ hA c_impl_bigOf (d2 false (by rw [hg]; simp [hst])) rfl ?_
    cbv
    refine Ar.call_ hA c_impl_bigOf d3 rfl ?_
    cbv
    exact hK _ _ rfl rfl

theorem c_spec_l1Div : Callable Tryz.prog 128 := ⟨_, Tryz.func128, rfl, by kernel_rfl⟩
theorem d_spec_l1Div {s t g h : Bool} {a b q r : List PV} {x y : Int} (ha : Big s a x) (hb : Big t b y) (hy : y ≠ 0) (hl : a.length ≤ 100000 ∧ b.length ≤ 100000) (hq : Big g q (x.tdiv y)) (hr : Big h r (x.tmod y)) : Does Tryz.prog 128 [.agg [bl s, .sl a], .agg [bl t, .sl b]] (.tup [.ag [.pv (bl g), .row q 1 .free], .ag [.pv (bl h), .row r 1 .free]]) [] := by
  refine does_of hT hM Tryz.func128 rfl (D := []) (by kernel_rfl) rfl rfl rfl (fun A K hA hK => ?_)
  obtain ⟨hq', hg⟩ := big_tdiv ha hb hy hq
  obtain ⟨hr', hh⟩ := big_tmod ha hr
  have hyp := iabs_pos hy
  have d1 := d_divS ha.1 hb.1 hyp hl hq' hr'
  have lq := Num.len_le ha.1 hq' (Int.ediv_le_self _ (iabs_nonneg x))
  have lr := Num.len_le ha.1 hr' (emod_le' (iabs_nonneg x) (iabs_nonneg y))
  have d2 := fun p hp => l1Make_num (g := p) (s := g) hq' (by omega) hp
  have d3 := l1Make_num (g := s) (s := h) hr' (by omega) hh
  generalize iabs x / iabs y = n at *
  generalize iabs x % iabs y = n2 at *
  cbv
  refine Ar.call_ hA c_spec_l1DivLimbs d1 rfl ?_
  cbv
  refine Ar.bneq_ hA (fun hst => ?_) (fun hst => ?_)
  · cbv
    refine Ar.call_ hA c_spec_l1Make (d2 true (by rw [hg]; simp [hst])) rfl ?_
    cbv
    refine Ar.call_ hA c_spec_l1Make d3 rfl ?_
    cbv
    exact hK _ _ rfl rfl
  · cbv
    refine Ar.call_ hA c_spec_l1Make (d2 false (by rw [hg]; simp [hst])) rfl ?_
    cbv
    refine Ar.call_ hA c_spec_l1Make d3 rfl ?_
    cbv
    exact hK _ _ rfl rfl

theorem big_gcd {a b : List PV} {x y : Int} (ha : Num a x) (hb : Num b y) : (0 : Int) ≤ Int.gcd x y := by omega

theorem c_spec_l1Gcd : Callable Tryz.prog 121 := ⟨_, Tryz.func121, rfl, by kernel_rfl⟩
theorem d_spec_l1Gcd {a b c : List PV} {x y : Int} (ha : Num a x) (hb : Num b y) (hl : a.length ≤ 100000 ∧ b.length ≤ 100000) (hc : Num c (Int.gcd x y)) : Does Tryz.prog 121 [.sl a, .sl b] (.row c 1 .free) [] := by
  refine does_of hT hM Tryz.func121 rfl (D := []) (by kernel_rfl) rfl rfl rfl (fun A K hA hK => ?_)
  obtain ⟨G, hG⟩ : ∃ G : Int, G = Int.gcd x y := ⟨_, rfl⟩
  rw [← hG] at hc
  have hG' : Int.gcd x y = G := hG.symm
  clear hG
  cbv
  refine Ar.loop_ hA (α := (Int × List PV) × (Int × List PV)) (fun s => s.2.1.toNat) (fun s => Num s.1.2 s.1.1 ∧ Num s.2.2 s.2.1 ∧ s.1.2.length ≤ 100000 ∧ s.2.2.length ≤ 100000 ∧ (Int.gcd s.1.1 s.2.1 : Int) = G) 20 (fun s => [(0, .pv (.sl s.1.2) []), (1, .pv (.sl s.2.2) [])]) (fun _ => []) ((x, a), (y, b)) ⟨rfl, ⟨rfl, rfl, trivial⟩, trivial⟩ ⟨ha, hb, hl.1, hl.2, hG'⟩ ?_
  clear ha hb hl hG'
  rintro ⟨⟨x, a⟩, y, b⟩ s f ⟨g1, g2, g3, g4, g5⟩
  simp only at g1 g2 g3 g4 g5
  have hpos := num_pos g2
  have hx0 := g1.nonneg
  have hy0 := g2.nonneg
  cbv
  refine Ar.len_ hA (fun n hn hn' => ?_)
  cbv
  refine Ar.gtr_ hA (fun h => ?_) (fun h => ?_)
  · have hy : 0 < y := hpos.1 (by omega)
    obtain ⟨q, hq⟩ := Num.ex (Int.ediv_nonneg hx0 hy0)
    obtain ⟨r, hr⟩ := Num.ex (Int.emod_nonneg x (show y ≠ 0 by omega))
    have hrl := Num.len_le g1 hr (emod_le' hx0 hy0)
    have d := d_divS g1 g2 hy ⟨g3, g4⟩ hq hr
    have hlt := Int.emod_lt_of_pos x hy
    have hst := igcd_step hx0 hy0
    have hge := Int.emod_nonneg x (show y ≠ 0 by omega)
    generalize x % y = z at *
    cbv
    refine Ar.call_ hA c_spec_l1DivLimbs d rfl ?_
    cbv
    exact ⟨((y, b), (z, r)), by show z.toNat < y.toNat; omega, ⟨g2, hr, g4, by show r.length ≤ _; omega, by show (Int.gcd y z : Int) = G; rw [hst]; exact g5⟩, rfl, ⟨rfl, rfl, trivial⟩, trivial⟩
  · have hy : y = 0 := by have := mt hpos.2 (by omega); omega
    subst hy
    have hxe : x = G := by rw [Int.gcd_zero_right] at g5; exact (Int.natAbs_of_nonneg hx0).symm.trans g5
    subst hxe
    obtain ⟨l, hes, h1, h2⟩ := id g1
    obtain rfl := g1.inj hc
    have hla : a.length = l.length := by rw [hes]; simp
    cbv
    refine Ar.call_ hA c_spec_l1Cut (d_spec_l1Cut hes h1.1 (by omega) (by rw [h2]; exact hc)) rfl ?_
    cbv
    exact hK _ _ rfl rfl

theorem c_impl_Big_gcd : Callable Tryz.prog 126 := ⟨_, Tryz.func126, rfl, by kernel_rfl⟩
theorem d_impl_Big_gcd {s t : Bool} {a b c : List PV} {x y : Int} (ha : Big s a x) (hb : Big t b y) (hl : a.length ≤ 100000 ∧ b.length ≤ 100000) (hc : Num c (Int.gcd x y)) : Does Tryz.prog 126 [.agg [bl s, .sl a], .agg [bl t, .sl b]] (.ag [.pv (bl false), .row c 1 .free]) [] := by
  refine does_of hT hM Tryz.func126 rfl (D := []) (by kernel_rfl) rfl rfl rfl (fun A K hA hK => ?_)
  obtain ⟨G, hG⟩ : ∃ G : Int, G = Int.gcd x y := ⟨_, rfl⟩
  rw [← hG] at hc
  have hG' : (Int.gcd (iabs x) (iabs y) : Int) = G := by rw [hG, iabs_abs, iabs_abs]; simp [Int.gcd]
  have h1 := ha.1
  have h2 := hb.1
  clear hG ha hb
  cbv
  refine Ar.loop_ hA (α := (Int × List PV) × (Int × List PV)) (fun s => s.2.1.toNat) (fun s => Num s.1.2 s.1.1 ∧ Num s.2.2 s.2.1 ∧ s.1.2.length ≤ 100000 ∧ s.2.2.length ≤ 100000 ∧ (Int.gcd s.1.1 s.2.1 : Int) = G) 26 (fun s => [(4, .ref 4 0), (5, .pv (.sl s.1.2) []), (6, .pv (.sl s.2.2) [])]) (fun _ => [(4, some (.cell [.pv (bl false) [], .pv (.val (.slice none 0 0)) []]))]) ((iabs x, a), (iabs y, b)) ⟨rfl, ⟨rfl, rfl, rfl, trivial⟩, rfl, trivial⟩ ⟨h1, h2, hl.1, hl.2, hG'⟩ ?_
  clear h1 h2 hl hG'
  rintro ⟨⟨x, a⟩, y, b⟩ s f ⟨g1, g2, g3, g4, g5⟩
  simp only at g1 g2 g3 g4 g5
  have hpos := num_pos g2
  have hx0 := g1.nonneg
  have hy0 := g2.nonneg
  cbv
  refine Ar.len_ hA (fun n hn hn' => ?_)
  cbv
  refine Ar.gtr_ hA (fun h => ?_) (fun h => ?_)
  · have hy : 0 < y := hpos.1 (by omega)
    obtain ⟨q, hq⟩ := Num.ex (Int.ediv_nonneg hx0 hy0)
    obtain ⟨r, hr⟩ := Num.ex (Int.emod_nonneg x (show y ≠ 0 by omega))
    have hrl := Num.len_le g1 hr (emod_le' hx0 hy0)
    have d := d_divI g1 g2 hy ⟨g3, g4⟩ hq hr
    have hlt := Int.emod_lt_of_pos x hy
    have hst := igcd_step hx0 hy0
    have hge := Int.emod_nonneg x (show y ≠ 0 by omega)
    generalize x % y = z at *
    cbv
    refine Ar.call_ hA c_impl_divLimbs d rfl ?_
    cbv
    exact ⟨((y, b), (z, r)), by show z.toNat < y.toNat; omega, ⟨g2, hr, g4, by show r.length ≤ _; omega, by show (Int.gcd y z : Int) = G; rw [hst]; exact g5⟩, rfl, ⟨rfl, rfl, rfl, trivial⟩, rfl, trivial⟩
  · have hy : y = 0 := by have := mt hpos.2 (by omega); omega
    subst hy
    have hxe : x = G := by rw [Int.gcd_zero_right] at g5; exact (Int.natAbs_of_nonneg hx0).symm.trans g5
    subst hxe
    obtain rfl := g1.inj hc
    cbv
    refine Ar.call_ hA c_impl_bigOf (bigOf_num (g := false) (s := false) hc (by omega) rfl) rfl ?_
    cbv
    exact hK _ _ rfl rfl

end Go.VAI
