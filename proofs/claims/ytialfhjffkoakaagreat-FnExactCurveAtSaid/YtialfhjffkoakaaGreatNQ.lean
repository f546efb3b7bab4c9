/- Sums, products, quotients of fractions, their order, their floor; both sides. -/
import Derived.Test.YtialfhjffkoakaaGreatNP
namespace Go.VAI
open Go.Proofs
set_option maxRecDepth 100000
set_option maxHeartbeats 8000000

theorem rat_parts (q : Rat) : q = (q.num : Rat) / ((q.den : Int) : Rat) := by
  have := Rat.num_divInt_den q
  rw [Rat.divInt_eq_div] at this
  exact this.symm
theorem rat_mul (p q : Rat) : p * q = Rat.divInt (p.num * q.num) ((p.den : Int) * q.den) := by
  have h1 := den_pos p
  have h2 := den_pos q
  rw [← Rat.divInt_mul_divInt, Rat.num_divInt_den, Rat.num_divInt_den]
theorem rat_add (p q : Rat) : p + q = Rat.divInt (p.num * q.den + q.num * p.den) ((p.den : Int) * q.den) := by
  have h1 := den_pos p
  have h2 := den_pos q
  rw [← Rat.divInt_add_divInt _ _ (by omega) (by omega), Rat.num_divInt_den, Rat.num_divInt_den]
theorem num_ne {q : Rat} (h : q ≠ 0) : q.num ≠ 0 := fun e => h (Rat.num_eq_zero.1 e)
theorem rat_div {p q : Rat} (hq : q ≠ 0) : p / q = Rat.divInt (p.num * q.den) ((p.den : Int) * q.num) := by
  have h1 := den_pos p
  have h2 := den_pos q
  have h3 := num_ne hq
  have e1 : ((p.den : Int) : Rat) ≠ 0 := by simpa using (show p.den ≠ 0 by omega)
  have e2 : ((q.den : Int) : Rat) ≠ 0 := by simpa using (show q.den ≠ 0 by omega)
  have e3 : ((q.num : Int) : Rat) ≠ 0 := by simpa using hq
  rw [Rat.divInt_eq_div, Rat.intCast_mul, Rat.intCast_mul]
  have hp := rat_parts p
  have hq' := rat_parts q
  generalize (p.num : Rat) = a at *
  generalize ((p.den : Int) : Rat) = b at *
  generalize (q.num : Rat) = c at *
  generalize ((q.den : Int) : Rat) = d at *
  subst hp hq'
  grind
theorem rat_neg (q : Rat) : (-q).num = -q.num ∧ (-q).den = q.den := ⟨rfl, rfl⟩
theorem divInt_one (n : Int) : Rat.divInt n 1 = (n : Rat) := by rw [Rat.divInt_eq_div]; grind
theorem Sz.mul {p q : Rat} {k l : Nat} (hp : Sz k p) (hq : Sz l q) : Sz (k + l) (p * q) := by
  have h1 := den_pos p
  have h2 := den_pos q
  rw [rat_mul]
  refine Sz.divInt (by have := Int.mul_pos h1 h2; omega) ?_ ?_
  · rw [iabs_mul]; exact mul_lt_pw (iabs_nonneg _) (iabs_nonneg _) hp.1 hq.1
  · rw [iabs_mul, iabs_of (by omega), iabs_of (by omega)]; exact mul_lt_pw (by omega) (by omega) hp.2 hq.2
theorem Sz.add {p q : Rat} {k l : Nat} (hp : Sz k p) (hq : Sz l q) : Sz (k + l + 1) (p + q) := by
  have h1 := den_pos p
  have h2 := den_pos q
  have h3 : pw (k + l + 1) = 65536 * pw (k + l) := rfl
  have h4 := pw_pos (k + l)
  rw [rat_add]
  refine Sz.divInt (by have := Int.mul_pos h1 h2; omega) ?_ ?_
  · have a1 : iabs (p.num * q.den) < pw (k + l) := by
      rw [iabs_mul, iabs_of (show (0 : Int) ≤ q.den by omega)]; exact mul_lt_pw (iabs_nonneg _) (by omega) hp.1 hq.2
    have a2 : iabs (q.num * p.den) < pw (k + l) := by
      rw [iabs_mul, iabs_of (show (0 : Int) ≤ p.den by omega), Nat.add_comm]; exact mul_lt_pw (iabs_nonneg _) (by omega) hq.1 hp.2
    have := iabs_add (p.num * q.den) (q.num * p.den)
    omega
  · have a3 : iabs ((p.den : Int) * q.den) < pw (k + l) := by
      rw [iabs_mul, iabs_of (by omega), iabs_of (by omega)]; exact mul_lt_pw (by omega) (by omega) hp.2 hq.2
    omega
theorem Sz.neg {q : Rat} {k : Nat} (h : Sz k q) : Sz k (-q) := by
  unfold Sz
  rw [(rat_neg q).1, (rat_neg q).2, iabs_neg]; exact h
theorem Sz.sub {p q : Rat} {k l : Nat} (hp : Sz k p) (hq : Sz l q) : Sz (k + l + 1) (p - q) := by
  rw [Rat.sub_eq_add_neg]; exact hp.add hq.neg
theorem Sz.div {p q : Rat} {k l : Nat} (hp : Sz k p) (hq : Sz l q) (h0 : q ≠ 0) : Sz (k + l) (p / q) := by
  have h1 := den_pos p
  have h2 := den_pos q
  rw [rat_div h0]
  refine Sz.divInt (Int.mul_ne_zero (by omega) (num_ne h0)) ?_ ?_
  · rw [iabs_mul, iabs_of (show (0 : Int) ≤ q.den by omega)]; exact mul_lt_pw (iabs_nonneg _) (by omega) hp.1 hq.2
  · rw [iabs_mul, iabs_of (show (0 : Int) ≤ p.den by omega)]; exact mul_lt_pw (by omega) (iabs_nonneg _) hp.2 hq.1
/-- A whole number. -/
theorem int_parts (n : Int) : ((n : Rat)).num = n ∧ ((n : Rat)).den = 1 := ⟨Rat.num_intCast n, Rat.den_intCast n⟩
theorem Sz.int {n : Int} {k : Nat} (h : iabs n < pw k) (hk : 0 < k) : Sz k (n : Rat) := by
  unfold Sz
  rw [(int_parts n).1, (int_parts n).2]
  refine ⟨h, ?_⟩
  have := pw_le hk
  simp only [pw] at this
  omega
theorem Big.len_mul {s t g : Bool} {a b c : List PV} {x y : Int} (ha : Big s a x) (hb : Big t b y) (hc : Big g c (x * y)) : c.length ≤ a.length + b.length := Num.len_mul ha.1 hb.1 (big_mul ha hb hc).1
theorem Big.len_add {s t g : Bool} {a b c : List PV} {x y : Int} (ha : Big s a x) (hb : Big t b y) (hc : Big g c (x + y)) : c.length ≤ max a.length b.length + 1 := by
  refine hc.1.len ?_
  have h1 := ha.1.lt
  have h2 := hb.1.lt
  have h3 := iabs_add x y
  have h4 := pw_le (show a.length ≤ max a.length b.length by omega)
  have h5 := pw_le (show b.length ≤ max a.length b.length by omega)
  have h6 := pw_pos (max a.length b.length)
  simp only [pw]
  omega
abbrev rpv (s : Bool) (a : List PV) (t : Bool) (b : List PV) : PV := .agg [bl s, .sl a, bl t, .sl b]
abbrev rrs (s : Bool) (a : List PV) (t : Bool) (b : List PV) : RS := .ag [.pv (bl s), .row a 1 .free, .pv (bl t), .row b 1 .free]
/-- The order of fractions. -/
def cmpR (p q : Rat) : Int := cmpI (p.num * q.den) (q.num * p.den)
theorem cmpR_lt (p q : Rat) : cmpR p q < 0 ↔ p < q := by
  rw [Rat.lt_iff]; unfold cmpR cmpI; (repeat' split) <;> omega
theorem cmpR_gt (p q : Rat) : 0 < cmpR p q ↔ q < p := by
  rw [Rat.lt_iff]; unfold cmpR cmpI; (repeat' split) <;> omega
theorem cmpR_range (p q : Rat) : -1 ≤ cmpR p q ∧ cmpR p q ≤ 1 := by unfold cmpR cmpI; (repeat' split) <;> omega

theorem c_impl_Rat_mul : Callable Tryz.prog 60 := ⟨_, Tryz.func60, rfl, by kernel_rfl⟩
theorem d_impl_Rat_mul {s t s2 t2 g h : Bool} {a b c d n m : List PV} {p q : Rat} {k l : Nat} (hp : RatP s a t b p) (hq : RatP s2 c t2 d q) (hk : Sz k p) (hl : Sz l q) (hb : k + l ≤ 90000) (hr : RatP g n h m (p * q)) : Does Tryz.prog 60 [rpv s a t b, rpv s2 c t2 d] (rrs g n h m) [] := by
  refine does_of hT hM Tryz.func60 rfl (D := []) (by kernel_rfl) rfl rfl rfl (fun A K hA hK => ?_)
  have hp1 := hp.len hk
  have hq1 := hq.len hl
  have hdp := den_pos p
  have hdq := den_pos q
  obtain ⟨u1, e1, he1⟩ := Big.ex (p.num * q.num)
  obtain ⟨u2, e2, he2⟩ := Big.ex ((p.den : Int) * q.den)
  have l1 := hp.1.len_mul hq.1 he1
  have l2 := hp.2.len_mul hq.2 he2
  have d1 := d_impl_Big_mul hp.1 hq.1 (by omega) he1
  have d2 := d_impl_Big_mul hp.2 hq.2 (by omega) he2
  rw [rat_mul] at hr
  have d3 := d_impl_ratOf he1 he2 (by have := Int.mul_pos hdp hdq; omega) (by omega) hr
  cbv
  refine Ar.call_ hA c_impl_Big_mul d1 rfl ?_
  cbv
  refine Ar.call_ hA c_impl_Big_mul d2 rfl ?_
  cbv
  refine Ar.call_ hA c_impl_ratOf d3 rfl ?_
  cbv
  exact hK _ _ rfl rfl

theorem c_impl_Rat_div : Callable Tryz.prog 61 := ⟨_, Tryz.func61, rfl, by kernel_rfl⟩
theorem d_impl_Rat_div {s t s2 t2 g h : Bool} {a b c d n m : List PV} {p q : Rat} {k l : Nat} (hp : RatP s a t b p) (hq : RatP s2 c t2 d q) (hk : Sz k p) (hl : Sz l q) (hb : k + l ≤ 90000) (h0 : q ≠ 0) (hr : RatP g n h m (p / q)) : Does Tryz.prog 61 [rpv s a t b, rpv s2 c t2 d] (rrs g n h m) [] := by
  refine does_of hT hM Tryz.func61 rfl (D := []) (by kernel_rfl) rfl rfl rfl (fun A K hA hK => ?_)
  have hp1 := hp.len hk
  have hq1 := hq.len hl
  have hdp := den_pos p
  have hdq := den_pos q
  obtain ⟨u1, e1, he1⟩ := Big.ex (p.num * q.den)
  obtain ⟨u2, e2, he2⟩ := Big.ex ((p.den : Int) * q.num)
  have l1 := hp.1.len_mul hq.2 he1
  have l2 := hp.2.len_mul hq.1 he2
  have d1 := d_impl_Big_mul hp.1 hq.2 (by omega) he1
  have d2 := d_impl_Big_mul hp.2 hq.1 (by omega) he2
  rw [rat_div h0] at hr
  have d3 := d_impl_ratOf he1 he2 (Int.mul_ne_zero (by omega) (num_ne h0)) (by omega) hr
  cbv
  refine Ar.call_ hA c_impl_Big_mul d1 rfl ?_
  cbv
  refine Ar.call_ hA c_impl_Big_mul d2 rfl ?_
  cbv
  refine Ar.call_ hA c_impl_ratOf d3 rfl ?_
  cbv
  exact hK _ _ rfl rfl

theorem c_impl_Rat_add : Callable Tryz.prog 59 := ⟨_, Tryz.func59, rfl, by kernel_rfl⟩
theorem d_impl_Rat_add {s t s2 t2 g h : Bool} {a b c d n m : List PV} {p q : Rat} {k l : Nat} (hp : RatP s a t b p) (hq : RatP s2 c t2 d q) (hk : Sz k p) (hl : Sz l q) (hb : k + l ≤ 90000) (hr : RatP g n h m (p + q)) : Does Tryz.prog 59 [rpv s a t b, rpv s2 c t2 d] (rrs g n h m) [] := by
  refine does_of hT hM Tryz.func59 rfl (D := []) (by kernel_rfl) rfl rfl rfl (fun A K hA hK => ?_)
  have hp1 := hp.len hk
  have hq1 := hq.len hl
  have hdp := den_pos p
  have hdq := den_pos q
  obtain ⟨u1, e1, he1⟩ := Big.ex (p.num * q.den)
  obtain ⟨u2, e2, he2⟩ := Big.ex (q.num * p.den)
  obtain ⟨u3, e3, he3⟩ := Big.ex (p.num * q.den + q.num * p.den)
  obtain ⟨u4, e4, he4⟩ := Big.ex ((p.den : Int) * q.den)
  have l1 := hp.1.len_mul hq.2 he1
  have l2 := hq.1.len_mul hp.2 he2
  have l3 := he1.len_add he2 he3
  have l4 := hp.2.len_mul hq.2 he4
  have d1 := d_impl_Big_mul hp.1 hq.2 (by omega) he1
  have d2 := d_impl_Big_mul hq.1 hp.2 (by omega) he2
  have d3 := d_impl_Big_add he1 he2 (by omega) he3
  have d4 := d_impl_Big_mul hp.2 hq.2 (by omega) he4
  rw [rat_add] at hr
  have d5 := d_impl_ratOf he3 he4 (by have := Int.mul_pos hdp hdq; omega) (by omega) hr
  cbv
  refine Ar.call_ hA c_impl_Big_mul d1 rfl ?_
  cbv
  refine Ar.call_ hA c_impl_Big_mul d2 rfl ?_
  cbv
  refine Ar.call_ hA c_impl_Big_add d3 rfl ?_
  cbv
  refine Ar.call_ hA c_impl_Big_mul d4 rfl ?_
  cbv
  refine Ar.call_ hA c_impl_ratOf d5 rfl ?_
  cbv
  exact hK _ _ rfl rfl

theorem c_impl_Rat_neg : Callable Tryz.prog 118 := ⟨_, Tryz.func118, rfl, by kernel_rfl⟩
theorem d_impl_Rat_neg {s t g h : Bool} {a b n m : List PV} {q : Rat} {k : Nat} (hq : RatP s a t b q) (hk : Sz k q) (hb : k ≤ 90000) (hr : RatP g n h m (-q)) : Does Tryz.prog 118 [rpv s a t b] (rrs g n h m) [] := by
  refine does_of hT hM Tryz.func118 rfl (D := []) (by kernel_rfl) rfl rfl rfl (fun A K hA hK => ?_)
  have hq1 := hq.len hk
  have d1 := d_impl_Big_neg hq.1 (by omega) hr.1
  obtain ⟨rfl, rfl⟩ := hr.2.inj hq.2
  have hf := (hq.2.pos (by omega)).1
  subst hf
  have d2 := bigOf_num (g := false) (s := false) (hq.2.pos (by omega)).2 (by omega) rfl
  cbv
  refine Ar.call_ hA c_impl_Big_neg d1 rfl ?_
  cbv
  refine Ar.call_ hA c_impl_bigOf d2 rfl ?_
  cbv
  exact hK _ _ rfl rfl

theorem c_impl_Rat_sub : Callable Tryz.prog 85 := ⟨_, Tryz.func85, rfl, by kernel_rfl⟩
theorem d_impl_Rat_sub {s t s2 t2 g h : Bool} {a b c d n m : List PV} {p q : Rat} {k l : Nat} (hp : RatP s a t b p) (hq : RatP s2 c t2 d q) (hk : Sz k p) (hl : Sz l q) (hb : k + l ≤ 90000) (hr : RatP g n h m (p - q)) : Does Tryz.prog 85 [rpv s a t b, rpv s2 c t2 d] (rrs g n h m) [] := by
  refine does_of hT hM Tryz.func85 rfl (D := []) (by kernel_rfl) rfl rfl rfl (fun A K hA hK => ?_)
  have hq1 := hq.len hl
  obtain ⟨u, e, w, i, he⟩ := RatP.ex (-q)
  have d1 := d_impl_Rat_neg hq hl (by omega) he
  rw [Rat.sub_eq_add_neg] at hr
  have d2 := d_impl_Rat_add hp he hk hl.neg hb hr
  cbv
  refine Ar.call_ hA c_impl_Rat_neg d1 rfl ?_
  cbv
  refine Ar.call_ hA c_impl_Rat_add d2 rfl ?_
  cbv
  exact hK _ _ rfl rfl

theorem c_impl_compareRat : Callable Tryz.prog 139 := ⟨_, Tryz.func139, rfl, by kernel_rfl⟩
theorem d_impl_compareRat {s t s2 t2 : Bool} {a b c d : List PV} {p q : Rat} {k l : Nat} (hp : RatP s a t b p) (hq : RatP s2 c t2 d q) (hk : Sz k p) (hl : Sz l q) (hb : k + l ≤ 90000) : Does Tryz.prog 139 [rpv s a t b, rpv s2 c t2 d] (.pv (i64 (cmpR p q))) [] := by
  refine does_of hT hM Tryz.func139 rfl (D := []) (by kernel_rfl) rfl rfl rfl (fun A K hA hK => ?_)
  have hp1 := hp.len hk
  have hq1 := hq.len hl
  obtain ⟨u1, e1, he1⟩ := Big.ex (p.num * q.den)
  obtain ⟨u2, e2, he2⟩ := Big.ex (q.num * p.den)
  have l1 := hp.1.len_mul hq.2 he1
  have l2 := hq.1.len_mul hp.2 he2
  have d1 := d_impl_Big_mul hp.1 hq.2 (by omega) he1
  have d2 := d_impl_Big_mul hq.1 hp.2 (by omega) he2
  have d3 := d_impl_compareBig he1 he2 (by omega)
  have e : cmpI (p.num * q.den) (q.num * p.den) = cmpR p q := rfl
  rw [e] at d3
  generalize cmpR p q = C at *
  cbv
  refine Ar.call_ hA c_impl_Big_mul d1 rfl ?_
  cbv
  refine Ar.call_ hA c_impl_Big_mul d2 rfl ?_
  cbv
  refine Ar.call_ hA c_impl_compareBig d3 rfl ?_
  cbv
  exact hK _ _ rfl rfl

theorem c_impl_whole : Callable Tryz.prog 58 := ⟨_, Tryz.func58, rfl, by kernel_rfl⟩
theorem d_impl_whole {n : Int} {g h : Bool} {c d : List PV} (hn : -9223372036854775808 ≤ n ∧ n ≤ 9223372036854775807) (hr : RatP g c h d (n : Rat)) : Does Tryz.prog 58 [i64 n] (rrs g c h d) [] := by
  refine does_of hT hM Tryz.func58 rfl (D := []) (by kernel_rfl) rfl rfl rfl (fun A K hA hK => ?_)
  obtain ⟨h1, h2⟩ := hr
  rw [(int_parts n).1] at h1
  rw [(int_parts n).2] at h2
  have d1 := d_impl_BigOf hn h1
  have d2 := d_impl_BigOf (n := 1) (by omega) h2
  cbv
  refine Ar.call_ hA c_impl_BigOf d1 rfl ?_
  cbv
  refine Ar.call_ hA c_impl_BigOf d2 rfl ?_
  cbv
  exact hK _ _ rfl rfl

theorem c_spec_l2Mul : Callable Tryz.prog 79 := ⟨_, Tryz.func79, rfl, by kernel_rfl⟩
theorem d_spec_l2Mul {s t s2 t2 g h : Bool} {a b c d n m : List PV} {p q : Rat} {k l : Nat} (hp : RatP s a t b p) (hq : RatP s2 c t2 d q) (hk : Sz k p) (hl : Sz l q) (hb : k + l ≤ 90000) (hr : RatP g n h m (p * q)) : Does Tryz.prog 79 [rpv s a t b, rpv s2 c t2 d] (rrs g n h m) [] := by
  refine does_of hT hM Tryz.func79 rfl (D := []) (by kernel_rfl) rfl rfl rfl (fun A K hA hK => ?_)
  have hp1 := hp.len hk
  have hq1 := hq.len hl
  have hdp := den_pos p
  have hdq := den_pos q
  obtain ⟨u1, e1, he1⟩ := Big.ex (p.num * q.num)
  obtain ⟨u2, e2, he2⟩ := Big.ex ((p.den : Int) * q.den)
  have l1 := hp.1.len_mul hq.1 he1
  have l2 := hp.2.len_mul hq.2 he2
  have d1 := d_spec_l1Mul hp.1 hq.1 (by omega) he1
  have d2 := d_spec_l1Mul hp.2 hq.2 (by omega) he2
  rw [rat_mul] at hr
  have d3 := d_spec_l2Make he1 he2 (by have := Int.mul_pos hdp hdq; omega) (by omega) hr
  cbv
  refine Ar.call_ hA c_spec_l1Mul d1 rfl ?_
  cbv
  refine Ar.call_ hA c_spec_l1Mul d2 rfl ?_
  cbv
  refine Ar.call_ hA c_spec_l2Make d3 rfl ?_
  cbv
  exact hK _ _ rfl rfl

theorem c_spec_l2Div : Callable Tryz.prog 80 := ⟨_, Tryz.func80, rfl, by kernel_rfl⟩
theorem d_spec_l2Div {s t s2 t2 g h : Bool} {a b c d n m : List PV} {p q : Rat} {k l : Nat} (hp : RatP s a t b p) (hq : RatP s2 c t2 d q) (hk : Sz k p) (hl : Sz l q) (hb : k + l ≤ 90000) (h0 : q ≠ 0) (hr : RatP g n h m (p / q)) : Does Tryz.prog 80 [rpv s a t b, rpv s2 c t2 d] (rrs g n h m) [] := by
  refine does_of hT hM Tryz.func80 rfl (D := []) (by kernel_rfl) rfl rfl rfl (fun A K hA hK => ?_)
  have hp1 := hp.len hk
  have hq1 := hq.len hl
  have hdp := den_pos p
  have hdq := den_pos q
  obtain ⟨u1, e1, he1⟩ := Big.ex (p.num * q.den)
  obtain ⟨u2, e2, he2⟩ := Big.ex ((p.den : Int) * q.num)
  have l1 := hp.1.len_mul hq.2 he1
  have l2 := hp.2.len_mul hq.1 he2
  have d1 := d_spec_l1Mul hp.1 hq.2 (by omega) he1
  have d2 := d_spec_l1Mul hp.2 hq.1 (by omega) he2
  rw [rat_div h0] at hr
  have d3 := d_spec_l2Make he1 he2 (Int.mul_ne_zero (by omega) (num_ne h0)) (by omega) hr
  cbv
  refine Ar.call_ hA c_spec_l1Mul d1 rfl ?_
  cbv
  refine Ar.call_ hA c_spec_l1Mul d2 rfl ?_
  cbv
  refine Ar.call_ hA c_spec_l2Make d3 rfl ?_
  cbv
  exact hK _ _ rfl rfl

theorem c_spec_l2Add : Callable Tryz.prog 77 := ⟨_, Tryz.func77, rfl, by kernel_rfl⟩
theorem d_spec_l2Add {s t s2 t2 g h : Bool} {a b c d n m : List PV} {p q : Rat} {k l : Nat} (hp : RatP s a t b p) (hq : RatP s2 c t2 d q) (hk : Sz k p) (hl : Sz l q) (hb : k + l ≤ 90000) (hr : RatP g n h m (p + q)) : Does Tryz.prog 77 [rpv s a t b, rpv s2 c t2 d] (rrs g n h m) [] := by
  refine does_of hT hM Tryz.func77 rfl (D := []) (by kernel_rfl) rfl rfl rfl (fun A K hA hK => ?_)
  have hp1 := hp.len hk
  have hq1 := hq.len hl
  have hdp := den_pos p
  have hdq := den_pos q
  obtain ⟨u1, e1, he1⟩ := Big.ex (p.num * q.den)
  obtain ⟨u2, e2, he2⟩ := Big.ex (q.num * p.den)
  obtain ⟨u3, e3, he3⟩ := Big.ex (p.num * q.den + q.num * p.den)
  obtain ⟨u4, e4, he4⟩ := Big.ex ((p.den : Int) * q.den)
  have l1 := hp.1.len_mul hq.2 he1
  have l2 := hq.1.len_mul hp.2 he2
  have l3 := he1.len_add he2 he3
  have l4 := hp.2.len_mul hq.2 he4
  have d1 := d_spec_l1Mul hp.1 hq.2 (by omega) he1
  have d2 := d_spec_l1Mul hq.1 hp.2 (by omega) he2
  have d3 := d_spec_l1Add he1 he2 (by omega) he3
  have d4 := d_spec_l1Mul hp.2 hq.2 (by omega) he4
  rw [rat_add] at hr
  have d5 := d_spec_l2Make he3 he4 (by have := Int.mul_pos hdp hdq; omega) (by omega) hr
  cbv
  refine Ar.call_ hA c_spec_l1Mul d1 rfl ?_
  cbv
  refine Ar.call_ hA c_spec_l1Mul d2 rfl ?_
  cbv
  refine Ar.call_ hA c_spec_l1Add d3 rfl ?_
  cbv
  refine Ar.call_ hA c_spec_l1Mul d4 rfl ?_
  cbv
  refine Ar.call_ hA c_spec_l2Make d5 rfl ?_
  cbv
  exact hK _ _ rfl rfl

theorem c_spec_l2Neg : Callable Tryz.prog 115 := ⟨_, Tryz.func115, rfl, by kernel_rfl⟩
theorem d_spec_l2Neg {s t g : Bool} {a b n : List PV} {q : Rat} {k : Nat} (hq : RatP s a t b q) (hk : Sz k q) (hb : k ≤ 90000) (hr : Big g n (-q.num)) : Does Tryz.prog 115 [rpv s a t b] (.ag [.pv (bl g), .row n 1 .free, .pv (bl t), .pv (.sl b)]) [] := by
  refine does_of hT hM Tryz.func115 rfl (D := []) (by kernel_rfl) rfl rfl rfl (fun A K hA hK => ?_)
  have hq1 := hq.len hk
  have d1 := d_spec_l1Neg hq.1 (by omega) hr
  cbv
  refine Ar.call_ hA c_spec_l1Neg d1 rfl ?_
  cbv
  exact hK _ _ rfl rfl

theorem c_spec_l2Sub : Callable Tryz.prog 78 := ⟨_, Tryz.func78, rfl, by kernel_rfl⟩
theorem d_spec_l2Sub {s t s2 t2 g h : Bool} {a b c d n m : List PV} {p q : Rat} {k l : Nat} (hp : RatP s a t b p) (hq : RatP s2 c t2 d q) (hk : Sz k p) (hl : Sz l q) (hb : k + l ≤ 90000) (hr : RatP g n h m (p - q)) : Does Tryz.prog 78 [rpv s a t b, rpv s2 c t2 d] (rrs g n h m) [] := by
  refine does_of hT hM Tryz.func78 rfl (D := []) (by kernel_rfl) rfl rfl rfl (fun A K hA hK => ?_)
  have hq1 := hq.len hl
  obtain ⟨u, e, w, i, he⟩ := RatP.ex (-q)
  obtain ⟨rfl, rfl⟩ := he.2.inj hq.2
  have d1 := d_spec_l2Neg hq hl (by omega) he.1
  rw [Rat.sub_eq_add_neg] at hr
  have d2 := d_spec_l2Add hp he hk hl.neg hb hr
  cbv
  refine Ar.call_ hA c_spec_l2Neg d1 rfl ?_
  cbv
  refine Ar.call_ hA c_spec_l2Add d2 rfl ?_
  cbv
  exact hK _ _ rfl rfl

theorem c_spec_l2Cmp : Callable Tryz.prog 137 := ⟨_, Tryz.func137, rfl, by kernel_rfl⟩
theorem d_spec_l2Cmp {s t s2 t2 : Bool} {a b c d : List PV} {p q : Rat} {k l : Nat} (hp : RatP s a t b p) (hq : RatP s2 c t2 d q) (hk : Sz k p) (hl : Sz l q) (hb : k + l ≤ 90000) : Does Tryz.prog 137 [rpv s a t b, rpv s2 c t2 d] (.pv (i64 (cmpR p q))) [] := by
  refine does_of hT hM Tryz.func137 rfl (D := []) (by kernel_rfl) rfl rfl rfl (fun A K hA hK => ?_)
  have hp1 := hp.len hk
  have hq1 := hq.len hl
  obtain ⟨u1, e1, he1⟩ := Big.ex (p.num * q.den)
  obtain ⟨u2, e2, he2⟩ := Big.ex (q.num * p.den)
  have l1 := hp.1.len_mul hq.2 he1
  have l2 := hq.1.len_mul hp.2 he2
  have d1 := d_spec_l1Mul hp.1 hq.2 (by omega) he1
  have d2 := d_spec_l1Mul hq.1 hp.2 (by omega) he2
  have d3 := d_spec_l1CmpBig he1 he2 (by omega)
  have e : cmpI (p.num * q.den) (q.num * p.den) = cmpR p q := rfl
  rw [e] at d3
  generalize cmpR p q = C at *
  cbv
  refine Ar.call_ hA c_spec_l1Mul d1 rfl ?_
  cbv
  refine Ar.call_ hA c_spec_l1Mul d2 rfl ?_
  cbv
  refine Ar.call_ hA c_spec_l1CmpBig d3 rfl ?_
  cbv
  exact hK _ _ rfl rfl

theorem c_spec_l2Int : Callable Tryz.prog 76 := ⟨_, Tryz.func76, rfl, by kernel_rfl⟩
theorem d_spec_l2Int {n : Int} {g h : Bool} {c d : List PV} (hn : -9223372036854775808 ≤ n ∧ n ≤ 9223372036854775807) (hr : RatP g c h d (n : Rat)) : Does Tryz.prog 76 [i64 n] (rrs g c h d) [] := by
  refine does_of hT hM Tryz.func76 rfl (D := []) (by kernel_rfl) rfl rfl rfl (fun A K hA hK => ?_)
  obtain ⟨h1, h2⟩ := hr
  rw [(int_parts n).1] at h1
  rw [(int_parts n).2] at h2
  have d1 := d_spec_BigOf hn h1
  have d2 := d_spec_BigOf (n := 1) (by omega) h2
  cbv
  refine Ar.call_ hA c_spec_BigOf d1 rfl ?_
  cbv
  refine Ar.call_ hA c_spec_BigOf d2 rfl ?_
  cbv
  exact hK _ _ rfl rfl

theorem floor_parts {x y q r : Int} (hy : 0 < y) (hq : q = x.tdiv y) (hr : r = x.tmod y) : (r < 0 → x / y = q - 1) ∧ (¬ r < 0 → x / y = q) := by
  have h1 := Int.mul_tdiv_add_tmod x y
  have h2 : r < y ∧ -y < r := by
    rw [hr]; refine ⟨Int.tmod_lt_of_pos x hy, ?_⟩
    rcases Int.lt_or_le x 0 with h | h
    · rw [show x = -(-x) by omega, Int.neg_tmod]
      have := Int.tmod_lt_of_pos (-x) hy
      omega
    · have := Int.tmod_nonneg (a := x) y h
      omega
  rw [← hq, ← hr] at h1
  constructor
  · intro h
    refine (div_unique (A := x) (B := y) (q := q - 1) (r := r + y) ?_ (by omega) (by omega)).1
    rw [Int.sub_mul, Int.mul_comm]; omega
  · intro h
    refine (div_unique (A := x) (B := y) (q := q) (r := r) ?_ (by omega) (by omega)).1
    rw [Int.mul_comm]; omega

theorem c_impl_Rat_less : Callable Tryz.prog 111 := ⟨_, Tryz.func111, rfl, by kernel_rfl⟩
theorem d_impl_Rat_less {s t s2 t2 : Bool} {a b c d : List PV} {p q : Rat} {k l : Nat} (hp : RatP s a t b p) (hq : RatP s2 c t2 d q) (hk : Sz k p) (hl : Sz l q) (hb : k + l ≤ 90000) : Does Tryz.prog 111 [rpv s a t b, rpv s2 c t2 d] (.pv (bl (decide (p < q)))) [] := by
  refine does_of hT hM Tryz.func111 rfl (D := []) (by kernel_rfl) rfl rfl rfl (fun A K hA hK => ?_)
  have d1 := d_impl_compareRat hp hq hk hl hb
  have e := cmpR_lt p q
  generalize cmpR p q = C at *
  cbv
  refine Ar.callI hA c_impl_compareRat d1 rfl (fun r hr => ?_)
  cbv
  refine Ar.lss_ hA (fun h => ?_) (fun h => ?_)
  · cbv
    exact hK _ _ (by have := e.1 (by omega); simp [this]) rfl
  · cbv
    exact hK _ _ (by have := mt e.2 (by omega); simp [this]) rfl

theorem c_impl_Rat_half : Callable Tryz.prog 62 := ⟨_, Tryz.func62, rfl, by kernel_rfl⟩
theorem d_impl_Rat_half {s t g h : Bool} {a b n m : List PV} {p : Rat} {k : Nat} (hp : RatP s a t b p) (hk : Sz k p) (hb : k ≤ 80000) (hr : RatP g n h m (p / 2)) : Does Tryz.prog 62 [rpv s a t b] (rrs g n h m) [] := by
  refine does_of hT hM Tryz.func62 rfl (D := []) (by kernel_rfl) rfl rfl rfl (fun A K hA hK => ?_)
  obtain ⟨u, e, w, i, he⟩ := RatP.ex ((2 : Int) : Rat)
  have d1 := d_impl_whole (n := 2) (by omega) he
  have d2 := d_impl_Rat_div hp he hk (Sz.int (n := 2) (k := 1) (by unfold iabs; simp only [pw]; omega) (by omega)) (by omega) (by simp) hr
  cbv
  refine Ar.call_ hA c_impl_whole d1 rfl ?_
  cbv
  refine Ar.call_ hA c_impl_Rat_div d2 rfl ?_
  cbv
  exact hK _ _ rfl rfl

/-- The absolute value. -/
def absR (q : Rat) : Rat := if q < 0 then -q else q
theorem absR_parts (q : Rat) : (absR q).num = iabs q.num ∧ (absR q).den = q.den := by
  unfold absR iabs
  have : q < 0 ↔ q.num < 0 := by rw [Rat.lt_iff]; simp
  split
  · rename_i h
    rw [if_pos (this.1 h)]; exact ⟨rfl, rfl⟩
  · rename_i h
    rw [if_neg (mt this.2 h)]; exact ⟨rfl, rfl⟩
theorem Sz.abs {q : Rat} {k : Nat} (h : Sz k q) : Sz k (absR q) := by
  unfold Sz
  rw [(absR_parts q).1, (absR_parts q).2, iabs_of (iabs_nonneg _)]; exact h

end Go.VAI
