/- Products of limbs. -/
import Derived.Test.YtialfhjffkoakaaGreatNE
namespace Go.VAI
open Go.Proofs
set_option maxRecDepth 100000
set_option maxHeartbeats 8000000

theorem tk_bound {l : List Int} (h : Lim l) (i : Nat) : 0 ≤ ev (l.take i) ∧ ev (l.take i) < pw i := by
  have h1 := (h.take i).bound
  have h2 := pw_le (m := (l.take i).length) (n := i) (by simp; omega)
  omega
theorem mul_lim {x y : Int} (hx : 0 ≤ x ∧ x < 65536) (hy : 0 ≤ y ∧ y < 65536) : 0 ≤ x * y ∧ x * y ≤ 4294836225 := by
  refine ⟨Int.mul_nonneg hx.1 hy.1, ?_⟩
  have := Int.mul_le_mul (show x ≤ 65535 by omega) (show y ≤ 65535 by omega) hy.1 (by omega)
  omega
theorem mul_step {m o : List Int} {i k : Nat} {S x c v t q d : Int} (ho : Lim o) (he : ev o + pw (i + k) * c = S + pw i * (x * ev (m.take k))) (hv : o[i + k]? = some v)
    (ht : t = c + v + x * lg m k) (h0 : 0 ≤ t) (hq : q = t / 65536) (hd : d = t % 65536) : Lim (o.set (i + k) d) ∧ ev (o.set (i + k) d) + pw (i + (k + 1)) * q = S + pw i * (x * ev (m.take (k + 1))) := by
  refine ⟨ho.set (by omega), ?_⟩
  rw [ev_set hv, ev_tk]
  have e : d = t - 65536 * q := by omega
  have e1 : pw (i + (k + 1)) = 65536 * pw (i + k) := by rw [← Nat.add_assoc]; rfl
  have e2 : pw (i + k) = pw i * pw k := pw_add i k
  rw [e1, e, ht]
  have : S + pw i * (x * ev (m.take k)) = ev o + pw (i + k) * c := he.symm
  rw [Int.mul_add, Int.mul_add, ← Int.add_assoc, this, e2]
  grind
theorem mul_top {o : List Int} {p : Nat} {c v T : Int} (ho : Lim o) (hv : o[p]? = some v) (he : ev o + pw p * c = T) (hT : T < pw (p + 1)) : v + c < 65536 := by
  have h1 : p < o.length := (List.getElem?_eq_some_iff.1 hv).1
  rw [ev_split o p (by omega), ev_drop hv] at he
  have h2 := (ho.take p).bound
  have h3 := (ho.drop (p + 1)).bound
  have h4 := pw_pos p
  have h5 : pw p * (v + c) ≤ pw p * (v + 65536 * ev (o.drop (p + 1)) + c) := Int.mul_le_mul_of_nonneg_left (by omega) (by omega)
  have h6 : pw p * (v + 65536 * ev (o.drop (p + 1)) + c) = pw p * (v + 65536 * ev (o.drop (p + 1))) + pw p * c := Int.mul_add _ _ _
  have h7 : pw p * (v + c) < pw p * 65536 := by simp only [pw] at hT; omega
  exact Int.lt_of_mul_lt_mul_left h7 (by omega)
theorem mul_out {l m : List Int} {i : Nat} {x : Int} (hx : l[i]? = some x) : ev (l.take i) * ev m + pw i * (x * ev m) = ev (l.take (i + 1)) * ev m := by
  rw [ev_take_succ hx]; grind
theorem mul_size {l m : List Int} (hl : Lim l) (hm : Lim m) (i : Nat) : 0 ≤ ev (l.take i) * ev m ∧ ev (l.take i) * ev m < pw (i + m.length) := by
  have h1 := tk_bound hl i
  have h2 := hm.bound
  refine ⟨Int.mul_nonneg h1.1 h2.1, ?_⟩
  rw [pw_add]
  have h3 := pw_pos i
  have h4 : ev (l.take i) * ev m ≤ pw i * ev m := Int.mul_le_mul_of_nonneg_right (by omega) h2.1
  have h5 : pw i * ev m < pw i * pw m.length := Int.mul_lt_mul_of_pos_left h2.2 h3
  omega

theorem big_mul {s t g : Bool} {a b c : List PV} {x y : Int} (ha : Big s a x) (hb : Big t b y) (hc : Big g c (x * y)) : Num c (iabs x * iabs y) ∧ g = ((s != t) && decide (0 < iabs x * iabs y)) := by
  have e : iabs x * iabs y = iabs (x * y) := by
    unfold iabs
    rcases Int.lt_or_le x 0 with hx | hx <;> rcases Int.lt_or_le y 0 with hy | hy
    · have := Int.mul_pos_of_neg_of_neg hx hy
      rw [if_pos hx, if_pos hy, if_neg (by omega), Int.neg_mul_neg]
    · have := Int.mul_nonpos_of_nonpos_of_nonneg (Int.le_of_lt hx) hy
      rw [if_pos hx, if_neg (by omega), Int.neg_mul]
      split <;> omega
    · have := Int.mul_nonpos_of_nonneg_of_nonpos hx (Int.le_of_lt hy)
      rw [if_neg (by omega), if_pos hy, Int.mul_neg]
      split <;> omega
    · have := Int.mul_nonneg hx hy
      rw [if_neg (by omega), if_neg (by omega), if_neg (by omega)]
  rw [e]
  refine ⟨hc.1, ?_⟩
  rw [hc.2, ha.2, hb.2, Bool.eq_iff_iff]
  simp only [decide_eq_true_eq, Bool.and_eq_true, bne_iff_ne, ne_eq]
  rcases Int.lt_or_le x 0 with hx | hx <;> rcases Int.lt_or_le y 0 with hy | hy
  · have := Int.mul_pos_of_neg_of_neg hx hy
    simp [hx, hy]; omega
  · have := Int.mul_nonpos_of_nonpos_of_nonneg (Int.le_of_lt hx) hy
    unfold iabs
    simp [hx, show ¬ y < 0 by omega]; (try split) <;> omega
  · have := Int.mul_nonpos_of_nonneg_of_nonpos hx (Int.le_of_lt hy)
    unfold iabs
    simp [hy, show ¬ x < 0 by omega]; (try split) <;> omega
  · have := Int.mul_nonneg hx hy
    simp [show ¬ x < 0 by omega, show ¬ y < 0 by omega]; omega

theorem c_impl_Big_mul : Callable Tryz.prog 103 := ⟨_, Tryz.func103, rfl, by kernel_rfl⟩
theorem d_impl_Big_mul {s t g : Bool} {a b c : List PV} {x y : Int} (ha : Big s a x) (hb : Big t b y) (hl : a.length ≤ 400000 ∧ b.length ≤ 400000) (hc : Big g c (x * y)) : Does Tryz.prog 103 [.agg [bl s, .sl a], .agg [bl t, .sl b]] (.ag [.pv (bl g), .row c 1 .free]) [] := by
  refine does_of hT hM Tryz.func103 rfl (D := []) (by kernel_rfl) rfl rfl rfl (fun A K hA hK => ?_)
  obtain ⟨hc', hg⟩ := big_mul ha hb hc
  obtain ⟨l, hes, h1, h2⟩ := ha.1
  obtain ⟨m, hes', h3, h4⟩ := hb.1
  rw [← h2, ← h4] at hc' hg
  have hlen : a.length = l.length := by simp [hes]
  have hlen' : b.length = m.length := by simp [hes']
  cbv
  refine Ar.len_ hA (fun n hn hn' => ?_)
  cbv
  refine Ar.len_ hA (fun n2 hn2 hn2' => ?_)
  cbv
  refine Ar.add_ hA (by omega) (fun n3 hn3 => ?_)
  cbv
  refine Ar.nn_ hA (by omega) ?_
  cbv
  refine Ar.toN_ hA (fun z hz => ?_)
  cbv
  refine Ar.fits_ hA (by omega) ?_
  cbv
  refine Ar.rep_ hA (fun o0 ho0 => ?_)
  cbv
  refine Ar.len_ hA (fun n4 hn4 hn4' => ?_)
  cbv
  refine Ar.loop_ hA (α := Int × List PV) (fun x => (n4 - x.1).toNat) (fun x => 0 ≤ x.1 ∧ x.1 ≤ n4 ∧ ∃ o : List Int, x.2 = o.map i64 ∧ o.length = l.length + m.length ∧ Lim o ∧ ev o = ev (l.take x.1.toNat) * ev m) 76 (fun x => [(2, .ref 2 0), (3, .ref 3 0), (4, .ref 4 0), (5, .own 18 none), (20, .pv (.sl a) []), (21, .pv (i64 n4) []), (22, .pv (i64 x.1) [])]) (fun x => [(2, some (.cell [.pv (bl s) [], .pv (.sl a) []])), (3, some (.cell [.pv (bl t) [], .pv (.sl b) []])), (4, some (.cell [.pv (bl false) [], .pv (.val (.slice none 0 0)) []])), (18, some (.row x.2 1 .free false))]) (0, o0) (by refine ⟨?_, ⟨?_, ?_, ?_, ?_, ?_, ?_, ?_, trivial⟩, ?_, ?_, ?_, ?_, trivial⟩ <;> cbv) ⟨by simp, by simp; omega, List.replicate z 0, by simp [ho0], by simp; omega, Lim.rep _, by simp [ev_rep, ev]⟩ ?_
  rintro ⟨i, e⟩ st f ⟨g1, g2, o, g3, g4, g5, g6⟩
  simp only at g1 g2 g3 g6
  cbv
  refine Ar.lss_ hA (fun h => ?_) (fun h => ?_)
  · cbv
    refine Ar.nn_ hA (by omega) ?_
    cbv
    refine Ar.toN_ hA (fun j hj => ?_)
    cbv
    obtain ⟨x0, hx0⟩ : ∃ p, l[j]? = some p := ⟨l[j]'(by omega), List.getElem?_eq_getElem _⟩
    refine Ar.idx_ hA (x := i64 x0) (by rw [hes, List.getElem?_map, hx0]; rfl) ?_
    cbv
    refine Ar.len_ hA (fun n5 hn5 hn5' => ?_)
    cbv
    have hxb := h1.1.get hx0
    refine Ar.loop_ hA (α := Int × Int × List PV) (fun x => (n5 - x.1).toNat) (fun x => 0 ≤ x.1 ∧ x.1 ≤ n5 ∧ (0 ≤ x.2.1 ∧ x.2.1 < 65536) ∧ ∃ o : List Int, x.2.2 = o.map i64 ∧ o.length = l.length + m.length ∧ Lim o ∧ ev o + pw (j + x.1.toNat) * x.2.1 = ev (l.take j) * ev m + pw j * (x0 * ev (m.take x.1.toNat))) 76 (fun x => [(2, .ref 2 0), (3, .ref 3 0), (4, .ref 4 0), (5, .own 18 none), (6, .pv (i64 i) []), (7, .pv (i64 x0) []), (8, .pv (i64 x.2.1) []), (20, .pv (.sl a) []), (21, .pv (i64 n4) []), (22, .pv (i64 i) []), (28, .pv (.sl b) []), (29, .pv (i64 n5) []), (30, .pv (i64 x.1) [])]) (fun x => [(2, some (.cell [.pv (bl s) [], .pv (.sl a) []])), (3, some (.cell [.pv (bl t) [], .pv (.sl b) []])), (4, some (.cell [.pv (bl false) [], .pv (.val (.slice none 0 0)) []])), (18, some (.row x.2.2 1 .free false))]) (0, 0, e) (by refine ⟨?_, ⟨?_, ?_, ?_, ?_, ?_, ?_, ?_, ?_, ?_, ?_, ?_, ?_, ?_, trivial⟩, ?_, ?_, ?_, ?_, trivial⟩ <;> cbv) ⟨by simp, by simp; omega, by simp, o, g3, g4, g5, by simp [ev]; rw [g6, hj]⟩ ?_
    rintro ⟨k, cc, e⟩ st f ⟨k1, k2, k3, o, k4, k5, k6, k7⟩
    simp only at k1 k2 k3 k4 k7
    cbv
    refine Ar.lss_ hA (fun h6 => ?_) (fun h6 => ?_)
    · cbv
      refine Ar.nn_ hA (by omega) ?_
      cbv
      refine Ar.toN_ hA (fun j2 hj2 => ?_)
      cbv
      obtain ⟨y0, hy0⟩ : ∃ p, m[j2]? = some p := ⟨m[j2]'(by omega), List.getElem?_eq_getElem _⟩
      refine Ar.idx_ hA (x := i64 y0) (by rw [hes', List.getElem?_map, hy0]; rfl) ?_
      cbv
      have hyb := h3.1.get hy0
      have hmb := mul_lim hxb hyb
      refine Ar.add_ hA (by omega) (fun p hp => ?_)
      cbv
      obtain ⟨v, hv⟩ : ∃ v, o[p.toNat]? = some v := ⟨o[p.toNat]'(by omega), List.getElem?_eq_getElem _⟩
      have hvb := k6.get hv
      have hx : ∀ j, j = p.toNat → e[j]? = some (i64 v) := fun j hj => by rw [hj, k4, List.getElem?_map, hv]; rfl
      repeat' (first
        | (refine Ar.nn_ hA (by omega) ?_; cbv)
        | (refine Ar.toN_ hA (fun _ _ => ?_); cbv)
        | (refine Ar.idx_ hA (x := i64 v) (hx _ (by omega)) ?_; cbv))
      refine Ar.mul_ hA (by omega) (fun t1 ht1 => ?_)
      cbv
      refine Ar.add_ hA (by omega) (fun t2 ht2 => ?_)
      cbv
      refine Ar.add_ hA (by omega) (fun tt htt => ?_)
      cbv
      refine Ar.add_ hA (by omega) (fun p2 hp2 => ?_)
      cbv
      refine Ar.nz_ hA (by omega) ?_
      cbv
      refine Ar.rem_ hA (by omega) (fun d hd => ?_)
      cbv
      repeat' (first
        | (refine Ar.nn_ hA (by omega) ?_; cbv)
        | (refine Ar.toN_ hA (fun _ _ => ?_); cbv)
        | (refine Ar.idx_ hA (x := i64 v) (hx _ (by omega)) ?_; cbv))
      refine Ar.set_ hA (fun e1 he1 => ?_)
      obtain ⟨_, he1', _⟩ := set_get he1 (i := p.toNat) (by omega) (by rw [k4]; simp; omega)
      clear he1
      cbv
      refine Ar.nz_ hA (by omega) ?_
      cbv
      refine Ar.quo_ hA (by omega) (fun q hq => ?_)
      cbv
      refine Ar.add_ hA (by omega) (fun k' hk' => ?_)
      cbv
      have hpj : p.toNat = j + k.toNat := by omega
      rw [hpj] at hv he1'
      obtain ⟨s1, s2⟩ := mul_step k6 k7 hv (t := tt) (q := q) (d := d) (by rw [show k.toNat = j2 by omega, lg_some hy0]; omega) (by omega) hq hd
      exact ⟨(k', q, e1), by show (n5 - k').toNat < (n5 - k).toNat; omega, ⟨by show 0 ≤ k'; omega, by show k' ≤ n5; omega, by show 0 ≤ q ∧ q < 65536; omega, o.set (j + k.toNat) d, by show e1 = _; rw [he1', k4, List.map_set], by simp [k5], s1, by show ev _ + pw (j + k'.toNat) * q = _; rw [show k'.toNat = k.toNat + 1 by omega]; exact s2⟩, rfl, ⟨rfl, rfl, rfl, rfl, rfl, rfl, rfl, rfl, rfl, rfl, rfl, rfl, rfl, trivial⟩, rfl, rfl, rfl, rfl, trivial⟩
    · cbv
      refine Ar.len_ hA (fun n6 hn6 hn6' => ?_)
      cbv
      refine Ar.add_ hA (by omega) (fun p hp => ?_)
      cbv
      obtain ⟨v, hv⟩ : ∃ v, o[p.toNat]? = some v := ⟨o[p.toNat]'(by omega), List.getElem?_eq_getElem _⟩
      have hvb := k6.get hv
      have hx : ∀ j, j = p.toNat → e[j]? = some (i64 v) := fun j hj => by rw [hj, k4, List.getElem?_map, hv]; rfl
      rw [show j + k.toNat = p.toNat by omega, ev_tk_all (show m.length ≤ k.toNat by omega), mul_out hx0] at k7
      have hT := (mul_size (i := j + 1) h1.1 h3.1).2
      rw [show j + 1 + m.length = p.toNat + 1 by omega] at hT
      have htop := mul_top k6 hv k7 hT
      repeat' (first
        | (refine Ar.nn_ hA (by omega) ?_; cbv)
        | (refine Ar.toN_ hA (fun _ _ => ?_); cbv)
        | (refine Ar.idx_ hA (x := i64 v) (hx _ (by omega)) ?_; cbv))
      refine Ar.add_ hA (by omega) (fun d hd => ?_)
      cbv
      repeat' (first
        | (refine Ar.nn_ hA (by omega) ?_; cbv)
        | (refine Ar.toN_ hA (fun _ _ => ?_); cbv)
        | (refine Ar.idx_ hA (x := i64 v) (hx _ (by omega)) ?_; cbv))
      refine Ar.set_ hA (fun e1 he1 => ?_)
      obtain ⟨_, he1', _⟩ := set_get he1 (i := p.toNat) (by omega) (by rw [k4]; simp; omega)
      clear he1
      cbv
      refine Ar.add_ hA (by omega) (fun i' hi' => ?_)
      cbv
      refine ⟨(i', e1), by show (n4 - i').toNat < (n4 - i).toNat; omega, ⟨by show 0 ≤ i'; omega, by show i' ≤ n4; omega, o.set p.toNat d, by show e1 = _; rw [he1', k4, List.map_set], by simp [k5], k6.set (by omega), ?_⟩, rfl, ⟨rfl, rfl, rfl, rfl, rfl, rfl, rfl, trivial⟩, rfl, rfl, rfl, rfl, trivial⟩
      show ev _ = ev (l.take i'.toNat) * ev m
      rw [ev_set hv, show i'.toNat = j + 1 by omega, ← k7, hd, show v + cc - v = cc by omega]
  · have hall := ev_tk_all (l := l) (i := i.toNat) (by omega)
    rw [hall] at g6
    rw [← g6] at hc' hg
    have dB := fun gg (hgg : g = (gg && decide (0 < ev o))) => d_impl_bigOf (g := gg) g3 g5 (by omega) hc' hgg
    cbv
    refine Ar.bneq_ hA (fun hst => ?_) (fun hst => ?_)
    · cbv
      refine Ar.call_ hA c_impl_bigOf (dB true (by rw [hg]; simp [hst])) rfl ?_
      cbv
      exact hK _ _ rfl rfl
    · cbv
      refine Ar.call_ hA c_impl_bigOf (dB false (by rw [hg]; simp [hst])) rfl ?_
      cbv
      exact hK _ _ rfl rfl

end Go.VAI
