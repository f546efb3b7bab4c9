/- Numbers with a sign: neg, abs, add, sub, mul of both sides. -/
import Derived.Test.YtialfhjffkoakaaGreatNF
namespace Go.VAI
open Go.Proofs
set_option maxRecDepth 100000
set_option maxHeartbeats 8000000

theorem Num.lt {es : List PV} {n : Int} (h : Num es n) : n < pw es.length := by
  obtain ⟨l, rfl, h1, rfl⟩ := h
  have := h1.1.bound.2
  simpa using this
theorem Num.len {es : List PV} {n : Int} {k : Nat} (h : Num es n) (hn : n < pw k) : es.length ≤ k := by
  obtain ⟨l, rfl, h1, rfl⟩ := h
  have := h1.len_le hn
  simpa using this
theorem Num.len_add {a b c : List PV} {x y : Int} (ha : Num a x) (hb : Num b y) (hc : Num c (x + y)) : c.length ≤ max a.length b.length + 1 := by
  refine hc.len ?_
  have h1 := ha.lt
  have h2 := hb.lt
  have h3 := pw_le (m := a.length) (n := max a.length b.length) (by omega)
  have h4 := pw_le (m := b.length) (n := max a.length b.length) (by omega)
  have h5 := pw_pos (max a.length b.length)
  simp only [pw]
  omega
theorem Num.len_mul {a b c : List PV} {x y : Int} (ha : Num a x) (hb : Num b y) (hc : Num c (x * y)) : c.length ≤ a.length + b.length := by
  refine hc.len ?_
  rw [pw_add]
  have h1 := ha.lt
  have h2 := hb.lt
  have h3 := pw_pos a.length
  have h4 : x * y ≤ pw a.length * y := Int.mul_le_mul_of_nonneg_right (by omega) hb.nonneg
  have h5 : pw a.length * y < pw a.length * pw b.length := Int.mul_lt_mul_of_pos_left h2 h3
  omega
theorem Num.len_le {a c : List PV} {x y : Int} (ha : Num a x) (hc : Num c y) (h : y ≤ x) : c.length ≤ a.length := hc.len (by have := ha.lt; omega)
theorem Num.lims' {es : List PV} {n : Int} (h : Num es n) : ∃ l : List Int, es = l.map i64 ∧ Lim l ∧ ev l = n ∧ l.length = es.length := by
  obtain ⟨l, rfl, h1, h2⟩ := h
  exact ⟨l, rfl, h1.1, h2, by simp⟩

theorem bigOf_num {g s : Bool} {es : List PV} {n : Int} (h : Num es n) (hb : es.length ≤ 1000000) (hs : s = (g && decide (0 < n))) : Does Tryz.prog 133 [bl g, .sl es] (.ag [.pv (bl s), .row es 1 .free]) [] := by
  obtain ⟨l, h1, h2, h3, h4⟩ := h.lims'
  subst h3
  exact d_impl_bigOf h1 h2 (by omega) h hs

theorem l1Make_num {g s : Bool} {es : List PV} {n : Int} (h : Num es n) (hb : es.length ≤ 1000000) (hs : s = (g && decide (0 < n))) : Does Tryz.prog 75 [bl g, .sl es] (.ag [.pv (bl s), .row es 1 .free]) [] := by
  obtain ⟨l, h1, h2, h3, h4⟩ := h.lims'
  subst h3
  exact d_spec_l1Make h1 h2 (by omega) h hs

theorem iabs_neg {x : Int} : iabs (-x) = iabs x := by unfold iabs; (repeat' split) <;> omega
theorem big_neg {s g : Bool} {a c : List PV} {x : Int} (ha : Big s a x) (hc : Big g c (-x)) : c = a ∧ g = (!s && decide (0 < iabs x)) := by
  obtain ⟨h1, h2⟩ := hc
  rw [iabs_neg] at h1
  refine ⟨h1.inj ha.1, ?_⟩
  rw [h2, ha.2, Bool.eq_iff_iff]
  simp only [decide_eq_true_eq, Bool.and_eq_true, Bool.not_eq_true', decide_eq_false_iff_not]
  unfold iabs; split <;> omega
theorem big_abs {s g : Bool} {a c : List PV} {x : Int} (ha : Big s a x) (hc : Big g c (iabs x)) : c = a ∧ g = false := by
  obtain ⟨h1, h2⟩ := hc
  have e : iabs (iabs x) = iabs x := by unfold iabs; (repeat' split) <;> omega
  rw [e] at h1
  refine ⟨h1.inj ha.1, ?_⟩
  rw [h2]; simp; unfold iabs; split <;> omega
theorem big_add {s t g : Bool} {a b c : List PV} {x y : Int} (ha : Big s a x) (hb : Big t b y) (hc : Big g c (x + y)) :
    (s = t → Num c (iabs x + iabs y) ∧ g = (s && decide (0 < iabs x + iabs y))) ∧ (s ≠ t → iabs y ≤ iabs x → Num c (iabs x - iabs y) ∧ g = (s && decide (0 < iabs x - iabs y))) ∧ (s ≠ t → iabs x < iabs y → Num c (iabs y - iabs x) ∧ g = (t && decide (0 < iabs y - iabs x))) := by
  obtain ⟨h1, h2⟩ := hc
  have hs : s = true ↔ x < 0 := by rw [ha.2]; simp
  have ht : t = true ↔ y < 0 := by rw [hb.2]; simp
  have key : ∀ (n : Int) (p : Bool), iabs (x + y) = n → ((x + y < 0) ↔ (p = true ∧ 0 < n)) → Num c n ∧ g = (p && decide (0 < n)) := fun n p e hp => by
    rw [e] at h1
    refine ⟨h1, ?_⟩
    rw [h2, Bool.eq_iff_iff]
    simp only [decide_eq_true_eq, Bool.and_eq_true]
    exact hp
  clear ha hb h1 h2
  refine ⟨fun e => key _ _ ?_ ?_, fun e h => key _ _ ?_ ?_, fun e h => key _ _ ?_ ?_⟩
  all_goals
    clear key
    unfold iabs at *
    cases s <;> cases t <;> simp at hs ht e <;> (try simp) <;> (repeat' split at h) <;> (repeat' split) <;> omega

def B (s : Bool) (es : List PV) : PV := .agg [bl s, .sl es]

theorem c_impl_Big_neg : Callable Tryz.prog 131 := ⟨_, Tryz.func131, rfl, by kernel_rfl⟩
theorem d_impl_Big_neg {s g : Bool} {a c : List PV} {x : Int} (ha : Big s a x) (hl : a.length ≤ 200000) (hc : Big g c (-x)) : Does Tryz.prog 131 [.agg [bl s, .sl a]] (.ag [.pv (bl g), .row c 1 .free]) [] := by
  refine does_of hT hM Tryz.func131 rfl (D := []) (by kernel_rfl) rfl rfl rfl (fun A K hA hK => ?_)
  obtain ⟨rfl, hg⟩ := big_neg ha hc
  have d := fun p hp => bigOf_num (g := p) (s := g) ha.1 (by omega) hp
  generalize iabs x = n at *
  cbv
  refine Ar.not_ hA (fun b hb => ?_)
  cbv
  refine Ar.call_ hA c_impl_bigOf (d b (by rw [hb]; exact hg)) rfl ?_
  cbv
  exact hK _ _ rfl rfl

theorem c_spec_l1Neg : Callable Tryz.prog 129 := ⟨_, Tryz.func129, rfl, by kernel_rfl⟩
theorem d_spec_l1Neg {s g : Bool} {a c : List PV} {x : Int} (ha : Big s a x) (hl : a.length ≤ 200000) (hc : Big g c (-x)) : Does Tryz.prog 129 [.agg [bl s, .sl a]] (.ag [.pv (bl g), .row c 1 .free]) [] := by
  refine does_of hT hM Tryz.func129 rfl (D := []) (by kernel_rfl) rfl rfl rfl (fun A K hA hK => ?_)
  obtain ⟨rfl, hg⟩ := big_neg ha hc
  have d := fun p hp => l1Make_num (g := p) (s := g) ha.1 (by omega) hp
  generalize iabs x = n at *
  cbv
  refine Ar.not_ hA (fun b hb => ?_)
  cbv
  refine Ar.call_ hA c_spec_l1Make (d b (by rw [hb]; exact hg)) rfl ?_
  cbv
  exact hK _ _ rfl rfl

theorem c_impl_Big_add : Callable Tryz.prog 104 := ⟨_, Tryz.func104, rfl, by kernel_rfl⟩
theorem d_impl_Big_add {s t g : Bool} {a b c : List PV} {x y : Int} (ha : Big s a x) (hb : Big t b y) (hl : a.length ≤ 200000 ∧ b.length ≤ 200000) (hc : Big g c (x + y)) : Does Tryz.prog 104 [.agg [bl s, .sl a], .agg [bl t, .sl b]] (.ag [.pv (bl g), .row c 1 .free]) [] := by
  refine does_of hT hM Tryz.func104 rfl (D := []) (by kernel_rfl) rfl rfl rfl (fun A K hA hK => ?_)
  obtain ⟨k1, k2, k3⟩ := big_add ha hb hc
  have l1 := fun h => Num.len_add ha.1 hb.1 (k1 h).1
  have l2 := fun h h' => Num.len_le ha.1 (k2 h h').1 (by have := hb.1.nonneg; omega)
  have l3 := fun h h' => Num.len_le hb.1 (k3 h h').1 (by have := ha.1.nonneg; omega)
  have hcmp := d_impl_compareLimbs ha.1 hb.1 (by omega)
  have e1 : 0 ≤ cmpI (iabs x) (iabs y) ↔ iabs y ≤ iabs x := by unfold cmpI; (repeat' split) <;> omega
  have h1 := ha.1
  have h2 := hb.1
  clear ha hb hc
  generalize iabs x = X at *
  generalize iabs y = Y at *
  generalize cmpI X Y = D at *
  cbv
  refine Ar.beq_ hA (fun hst => ?_) (fun hst => ?_)
  · cbv
    have := l1 hst
    refine Ar.call_ hA c_impl_addLimbs (d_impl_addLimbs h1 h2 (by omega) (k1 hst).1) rfl ?_
    cbv
    refine Ar.call_ hA c_impl_bigOf (bigOf_num (k1 hst).1 (by omega) (k1 hst).2) rfl ?_
    cbv
    exact hK _ _ rfl rfl
  · cbv
    refine Ar.callI hA c_impl_compareLimbs hcmp rfl (fun r hr => ?_)
    cbv
    refine Ar.geq_ hA (fun h0 => ?_) (fun h0 => ?_)
    · cbv
      have hle := e1.1 (by omega)
      have := l2 hst hle
      refine Ar.call_ hA c_impl_subLimbs (d_impl_subLimbs h1 h2 (by omega) hle (k2 hst hle).1) rfl ?_
      cbv
      refine Ar.call_ hA c_impl_bigOf (bigOf_num (k2 hst hle).1 (by omega) (k2 hst hle).2) rfl ?_
      cbv
      exact hK _ _ rfl rfl
    · cbv
      have hle : X < Y := by omega
      have := l3 hst hle
      refine Ar.call_ hA c_impl_subLimbs (d_impl_subLimbs h2 h1 (by omega) (by omega) (k3 hst hle).1) rfl ?_
      cbv
      refine Ar.call_ hA c_impl_bigOf (bigOf_num (k3 hst hle).1 (by omega) (k3 hst hle).2) rfl ?_
      cbv
      exact hK _ _ rfl rfl

theorem c_spec_l1Add : Callable Tryz.prog 113 := ⟨_, Tryz.func113, rfl, by kernel_rfl⟩
theorem d_spec_l1Add {s t g : Bool} {a b c : List PV} {x y : Int} (ha : Big s a x) (hb : Big t b y) (hl : a.length ≤ 200000 ∧ b.length ≤ 200000) (hc : Big g c (x + y)) : Does Tryz.prog 113 [.agg [bl s, .sl a], .agg [bl t, .sl b]] (.ag [.pv (bl g), .row c 1 .free]) [] := by
  refine does_of hT hM Tryz.func113 rfl (D := []) (by kernel_rfl) rfl rfl rfl (fun A K hA hK => ?_)
  obtain ⟨k1, k2, k3⟩ := big_add ha hb hc
  have l1 := fun h => Num.len_add ha.1 hb.1 (k1 h).1
  have l2 := fun h h' => Num.len_le ha.1 (k2 h h').1 (by have := hb.1.nonneg; omega)
  have l3 := fun h h' => Num.len_le hb.1 (k3 h h').1 (by have := ha.1.nonneg; omega)
  have hcmp := d_spec_l1Cmp ha.1 hb.1 (by omega)
  have e1 : 0 ≤ cmpI (iabs x) (iabs y) ↔ iabs y ≤ iabs x := by unfold cmpI; (repeat' split) <;> omega
  have h1 := ha.1
  have h2 := hb.1
  clear ha hb hc
  generalize iabs x = X at *
  generalize iabs y = Y at *
  generalize cmpI X Y = D at *
  cbv
  refine Ar.beq_ hA (fun hst => ?_) (fun hst => ?_)
  · cbv
    have := l1 hst
    refine Ar.call_ hA c_spec_l1AddLimbs (d_spec_l1AddLimbs h1 h2 (by omega) (k1 hst).1) rfl ?_
    cbv
    refine Ar.call_ hA c_spec_l1Make (l1Make_num (k1 hst).1 (by omega) (k1 hst).2) rfl ?_
    cbv
    exact hK _ _ rfl rfl
  · cbv
    refine Ar.callI hA c_spec_l1Cmp hcmp rfl (fun r hr => ?_)
    cbv
    refine Ar.geq_ hA (fun h0 => ?_) (fun h0 => ?_)
    · cbv
      have hle := e1.1 (by omega)
      have := l2 hst hle
      refine Ar.call_ hA c_spec_l1SubLimbs (d_spec_l1SubLimbs h1 h2 (by omega) hle (k2 hst hle).1) rfl ?_
      cbv
      refine Ar.call_ hA c_spec_l1Make (l1Make_num (k2 hst hle).1 (by omega) (k2 hst hle).2) rfl ?_
      cbv
      exact hK _ _ rfl rfl
    · cbv
      have hle : X < Y := by omega
      have := l3 hst hle
      refine Ar.call_ hA c_spec_l1SubLimbs (d_spec_l1SubLimbs h2 h1 (by omega) (by omega) (k3 hst hle).1) rfl ?_
      cbv
      refine Ar.call_ hA c_spec_l1Make (l1Make_num (k3 hst hle).1 (by omega) (k3 hst hle).2) rfl ?_
      cbv
      exact hK _ _ rfl rfl

theorem Big.len_neg {s g : Bool} {a c : List PV} {x : Int} (ha : Big s a x) (hc : Big g c (-x)) : c.length = a.length := by rw [(big_neg ha hc).1]

theorem c_spec_l1MulLimbs : Callable Tryz.prog 142 := ⟨_, Tryz.func142, rfl, by kernel_rfl⟩
theorem d_spec_l1MulLimbs {a b c : List PV} {x y : Int} (ha : Num a x) (hb : Num b y) (hl : a.length ≤ 400000 ∧ b.length ≤ 400000) (hc : Num c (x * y)) : Does Tryz.prog 142 [.sl a, .sl b] (.row c 1 .free) [] := by
  refine does_of hT hM Tryz.func142 rfl (D := []) (by kernel_rfl) rfl rfl rfl (fun A K hA hK => ?_)
  obtain ⟨l, hes, h1, rfl⟩ := ha
  obtain ⟨m, hes', h3, rfl⟩ := hb
  have hlen : a.length = l.length := by simp [hes]
  have hlen' : b.length = m.length := by simp [hes']
  cbv
  refine Ar.len_ hA (fun n hn hn' => ?_)
  cbv
  refine Ar.len_ hA (fun n2 hn2 hn2' => ?_)
  cbv
  refine Ar.add_ hA (by omega) (fun n3 hn3 => ?_)
  cbv
  refine Ar.add_ hA (by omega) (fun n3' hn3' => ?_)
  cbv
  refine Ar.nn_ hA (by omega) ?_
  cbv
  refine Ar.toN_ hA (fun z hz => ?_)
  cbv
  refine Ar.fits_ hA (by omega) ?_
  cbv
  refine Ar.rep_ hA (fun o0 ho0 => ?_)
  cbv
  refine Ar.len_ hA (fun n4 hn4 hn4' => ?_)
  cbv
  refine Ar.loop_ hA (α := Int × List PV) (fun x => (n4 - x.1).toNat) (fun x => 0 ≤ x.1 ∧ x.1 ≤ n4 ∧ ∃ o : List Int, x.2 = o.map i64 ∧ o.length = l.length + m.length + 1 ∧ Lim o ∧ ev o = ev (l.take x.1.toNat) * ev m) 61 (fun x => [(1, .pv (.sl b) []), (5, .own 17 none), (18, .pv (.sl a) []), (19, .pv (i64 n4) []), (20, .pv (i64 x.1) [])]) (fun x => [(17, some (.row x.2 1 .free false))]) (0, o0) (by refine ⟨?_, ⟨?_, ?_, ?_, ?_, ?_, trivial⟩, ?_, trivial⟩ <;> cbv) ⟨by simp, by simp; omega, List.replicate z 0, by simp [ho0], by simp; omega, Lim.rep _, by simp [ev_rep, ev]⟩ ?_
  rintro ⟨i, e⟩ st f ⟨g1, g2, o, g3, g4, g5, g6⟩
  simp only at g1 g2 g3 g6
  cbv
  refine Ar.lss_ hA (fun h => ?_) (fun h => ?_)
  · cbv
    refine Ar.nn_ hA (by omega) ?_
    cbv
    refine Ar.toN_ hA (fun j hj => ?_)
    cbv
    obtain ⟨x0, hx0⟩ : ∃ p, l[j]? = some p := ⟨l[j]'(by omega), List.getElem?_eq_getElem _⟩
    refine Ar.idx_ hA (x := i64 x0) (by rw [hes, List.getElem?_map, hx0]; rfl) ?_
    cbv
    have hxb := h1.1.get hx0
    refine Ar.loop_ hA (α := Int × Int × List PV) (fun x => (m.length + 2) - x.1.toNat) (fun x => 0 ≤ x.1 ∧ (x.1.toNat ≤ m.length ∨ x.1.toNat = m.length + 1 ∧ x.2.1 = 0) ∧ (0 ≤ x.2.1 ∧ x.2.1 < 65536) ∧ ∃ o : List Int, x.2.2 = o.map i64 ∧ o.length = l.length + m.length + 1 ∧ Lim o ∧ ev o + pw (j + x.1.toNat) * x.2.1 = ev (l.take j) * ev m + pw j * (x0 * ev (m.take x.1.toNat))) 61 (fun x => [(1, .pv (.sl b) []), (5, .own 17 none), (6, .pv (i64 i) []), (7, .pv (i64 x0) []), (8, .pv (i64 x.2.1) []), (9, .pv (i64 x.1) []), (18, .pv (.sl a) []), (19, .pv (i64 n4) []), (20, .pv (i64 i) [])]) (fun x => [(17, some (.row x.2.2 1 .free false))]) (0, 0, e) (by refine ⟨?_, ⟨?_, ?_, ?_, ?_, ?_, ?_, ?_, ?_, ?_, trivial⟩, ?_, trivial⟩ <;> cbv) ⟨by simp, by simp, by simp, o, g3, g4, g5, by simp [ev]; rw [g6, hj]⟩ ?_
    rintro ⟨k, cc, e⟩ st f ⟨k1, k2, k3, o, k4, k5, k6, k7⟩
    simp only at k1 k2 k3 k4 k7
    cbv
    refine Ar.len_ hA (fun n5 hn5 hn5' => ?_)
    cbv
    refine Ar.lss_ hA (fun h6 => ?_) (fun h6 => ?_)
    · cbv
      refine Ar.add_ hA (by omega) (fun p hp => ?_)
      cbv
      obtain ⟨v, hv⟩ : ∃ v, o[p.toNat]? = some v := ⟨o[p.toNat]'(by omega), List.getElem?_eq_getElem _⟩
      have hvb := k6.get hv
      have hx : ∀ j, j = p.toNat → e[j]? = some (i64 v) := fun j hj => by rw [hj, k4, List.getElem?_map, hv]; rfl
      have hyb := h3.1.lg k.toNat
      have hmb := mul_lim hxb hyb
      have hyz : m.length ≤ k.toNat → lg m k.toNat = 0 := lg_none
      repeat' (first
        | (refine Ar.nn_ hA (by omega) ?_; cbv)
        | (refine Ar.toN_ hA (fun _ _ => ?_); cbv)
        | (refine Ar.idx_ hA (x := i64 v) (hx _ (by omega)) ?_; cbv))
      refine Ar.callI hA c_spec_l1Limb (d_spec_l1Limb hes' k1) rfl (fun y0 hy0 => ?_)
      cbv
      rw [← hy0] at hyb hmb hyz
      refine Ar.mul_ hA (by omega) (fun t1 ht1 => ?_)
      cbv
      repeat' (first
        | (refine Ar.nn_ hA (by omega) ?_; cbv)
        | (refine Ar.toN_ hA (fun _ _ => ?_); cbv)
        | (refine Ar.idx_ hA (x := i64 v) (hx _ (by omega)) ?_; cbv))
      refine Ar.add_ hA (by omega) (fun t2 ht2 => ?_)
      cbv
      refine Ar.add_ hA (by omega) (fun tt htt => ?_)
      cbv
      refine Ar.add_ hA (by omega) (fun p2 hp2 => ?_)
      cbv
      refine Ar.nz_ hA (by omega) ?_
      cbv
      refine Ar.rem_ hA (by omega) (fun d hd => ?_)
      cbv
      repeat' (first
        | (refine Ar.nn_ hA (by omega) ?_; cbv)
        | (refine Ar.toN_ hA (fun _ _ => ?_); cbv)
        | (refine Ar.idx_ hA (x := i64 v) (hx _ (by omega)) ?_; cbv))
      refine Ar.set_ hA (fun e1 he1 => ?_)
      obtain ⟨_, he1', _⟩ := set_get he1 (i := p.toNat) (by omega) (by rw [k4]; simp; omega)
      clear he1
      cbv
      refine Ar.nz_ hA (by omega) ?_
      cbv
      refine Ar.quo_ hA (by omega) (fun q hq => ?_)
      cbv
      refine Ar.add_ hA (by omega) (fun k' hk' => ?_)
      cbv
      have hpj : p.toNat = j + k.toNat := by omega
      rw [hpj] at hv he1'
      obtain ⟨s1, s2⟩ := mul_step k6 k7 hv (t := tt) (q := q) (d := d) (by rw [← hy0]; omega) (by omega) hq hd
      have hfit : k.toNat < m.length ∨ q = 0 := by
        rcases Nat.lt_or_ge k.toNat m.length with hh | hh
        · exact .inl hh
        · have hk0 : k.toNat = m.length := by omega
          have hT := (mul_size (i := j + 1) h1.1 h3.1).2
          rw [hk0] at k7 hv
          rw [ev_tk_all (Nat.le_refl _), mul_out hx0] at k7
          have htop := mul_top k6 hv k7 (by rw [show j + m.length + 1 = j + 1 + m.length by omega]; exact hT)
          rw [hyz hh] at ht1
          rw [Int.mul_zero] at ht1
          exact .inr (by omega)
      exact ⟨(k', q, e1), by show _ - k'.toNat < _ - k.toNat; omega, ⟨by show 0 ≤ k'; omega, by show k'.toNat ≤ m.length ∨ k'.toNat = m.length + 1 ∧ q = 0; omega, by show 0 ≤ q ∧ q < 65536; omega, o.set (j + k.toNat) d, by show e1 = _; rw [he1', k4, List.map_set], by simp [k5], s1, by show ev _ + pw (j + k'.toNat) * q = _; rw [show k'.toNat = k.toNat + 1 by omega]; exact s2⟩, rfl, ⟨rfl, rfl, rfl, rfl, rfl, rfl, rfl, rfl, rfl, trivial⟩, rfl, trivial⟩
    · cbv
      refine Ar.gtr_ hA (fun h7 => ?_) (fun h7 => ?_)
      · cbv
        refine Ar.add_ hA (by omega) (fun p hp => ?_)
        cbv
        obtain ⟨v, hv⟩ : ∃ v, o[p.toNat]? = some v := ⟨o[p.toNat]'(by omega), List.getElem?_eq_getElem _⟩
        have hvb := k6.get hv
        have hx : ∀ j, j = p.toNat → e[j]? = some (i64 v) := fun j hj => by rw [hj, k4, List.getElem?_map, hv]; rfl
        have hyb := h3.1.lg k.toNat
        have hmb := mul_lim hxb hyb
        have hyz : m.length ≤ k.toNat → lg m k.toNat = 0 := lg_none
        repeat' (first
          | (refine Ar.nn_ hA (by omega) ?_; cbv)
          | (refine Ar.toN_ hA (fun _ _ => ?_); cbv)
          | (refine Ar.idx_ hA (x := i64 v) (hx _ (by omega)) ?_; cbv))
        refine Ar.callI hA c_spec_l1Limb (d_spec_l1Limb hes' k1) rfl (fun y0 hy0 => ?_)
        cbv
        rw [← hy0] at hyb hmb hyz
        refine Ar.mul_ hA (by omega) (fun t1 ht1 => ?_)
        cbv
        repeat' (first
          | (refine Ar.nn_ hA (by omega) ?_; cbv)
          | (refine Ar.toN_ hA (fun _ _ => ?_); cbv)
          | (refine Ar.idx_ hA (x := i64 v) (hx _ (by omega)) ?_; cbv))
        refine Ar.add_ hA (by omega) (fun t2 ht2 => ?_)
        cbv
        refine Ar.add_ hA (by omega) (fun tt htt => ?_)
        cbv
        refine Ar.add_ hA (by omega) (fun p2 hp2 => ?_)
        cbv
        refine Ar.nz_ hA (by omega) ?_
        cbv
        refine Ar.rem_ hA (by omega) (fun d hd => ?_)
        cbv
        repeat' (first
          | (refine Ar.nn_ hA (by omega) ?_; cbv)
          | (refine Ar.toN_ hA (fun _ _ => ?_); cbv)
          | (refine Ar.idx_ hA (x := i64 v) (hx _ (by omega)) ?_; cbv))
        refine Ar.set_ hA (fun e1 he1 => ?_)
        obtain ⟨_, he1', _⟩ := set_get he1 (i := p.toNat) (by omega) (by rw [k4]; simp; omega)
        clear he1
        cbv
        refine Ar.nz_ hA (by omega) ?_
        cbv
        refine Ar.quo_ hA (by omega) (fun q hq => ?_)
        cbv
        refine Ar.add_ hA (by omega) (fun k' hk' => ?_)
        cbv
        have hpj : p.toNat = j + k.toNat := by omega
        rw [hpj] at hv he1'
        obtain ⟨s1, s2⟩ := mul_step k6 k7 hv (t := tt) (q := q) (d := d) (by rw [← hy0]; omega) (by omega) hq hd
        have hfit : k.toNat < m.length ∨ q = 0 := by
          rcases Nat.lt_or_ge k.toNat m.length with hh | hh
          · exact .inl hh
          · have hk0 : k.toNat = m.length := by omega
            have hT := (mul_size (i := j + 1) h1.1 h3.1).2
            rw [hk0] at k7 hv
            rw [ev_tk_all (Nat.le_refl _), mul_out hx0] at k7
            have htop := mul_top k6 hv k7 (by rw [show j + m.length + 1 = j + 1 + m.length by omega]; exact hT)
            rw [hyz hh] at ht1
            rw [Int.mul_zero] at ht1
            exact .inr (by omega)
        exact ⟨(k', q, e1), by show _ - k'.toNat < _ - k.toNat; omega, ⟨by show 0 ≤ k'; omega, by show k'.toNat ≤ m.length ∨ k'.toNat = m.length + 1 ∧ q = 0; omega, by show 0 ≤ q ∧ q < 65536; omega, o.set (j + k.toNat) d, by show e1 = _; rw [he1', k4, List.map_set], by simp [k5], s1, by show ev _ + pw (j + k'.toNat) * q = _; rw [show k'.toNat = k.toNat + 1 by omega]; exact s2⟩, rfl, ⟨rfl, rfl, rfl, rfl, rfl, rfl, rfl, rfl, rfl, trivial⟩, rfl, trivial⟩
      · cbv
        refine Ar.add_ hA (by omega) (fun i' hi' => ?_)
        cbv
        rw [show cc = 0 by omega, ev_tk_all (show m.length ≤ k.toNat by omega), mul_out hx0, Int.mul_zero, Int.add_zero] at k7
        exact ⟨(i', e), by show (n4 - i').toNat < (n4 - i).toNat; omega, ⟨by show 0 ≤ i'; omega, by show i' ≤ n4; omega, o, k4, k5, k6, by show ev o = ev (l.take i'.toNat) * ev m; rw [show i'.toNat = j + 1 by omega]; exact k7⟩, rfl, ⟨rfl, rfl, rfl, rfl, rfl, trivial⟩, rfl, trivial⟩
  · cbv
    have hall := ev_tk_all (l := l) (i := i.toNat) (by omega)
    rw [hall] at g6
    rw [← g6] at hc
    refine Ar.call_ hA c_spec_l1Cut (d_spec_l1Cut g3 g5 (by omega) hc) rfl ?_
    cbv
    exact hK _ _ rfl rfl

theorem c_spec_l1Mul : Callable Tryz.prog 114 := ⟨_, Tryz.func114, rfl, by kernel_rfl⟩
theorem d_spec_l1Mul {s t g : Bool} {a b c : List PV} {x y : Int} (ha : Big s a x) (hb : Big t b y) (hl : a.length ≤ 400000 ∧ b.length ≤ 400000) (hc : Big g c (x * y)) : Does Tryz.prog 114 [.agg [bl s, .sl a], .agg [bl t, .sl b]] (.ag [.pv (bl g), .row c 1 .free]) [] := by
  refine does_of hT hM Tryz.func114 rfl (D := []) (by kernel_rfl) rfl rfl rfl (fun A K hA hK => ?_)
  obtain ⟨hc', hg⟩ := big_mul ha hb hc
  have hcl := Num.len_mul ha.1 hb.1 hc'
  have d1 := d_spec_l1MulLimbs ha.1 hb.1 hl hc'
  have d2 := fun p hp => l1Make_num (g := p) (s := g) hc' (by omega) hp
  generalize iabs x * iabs y = n at *
  cbv
  refine Ar.bneq_ hA (fun hst => ?_) (fun hst => ?_)
  · cbv
    refine Ar.call_ hA c_spec_l1MulLimbs d1 rfl ?_
    cbv
    refine Ar.call_ hA c_spec_l1Make (d2 true (by rw [hg]; simp [hst])) rfl ?_
    cbv
    exact hK _ _ rfl rfl
  · cbv
    refine Ar.call_ hA c_spec_l1MulLimbs d1 rfl ?_
    cbv
    refine Ar.call_ hA c_spec_l1Make (d2 false (by rw [hg]; simp [hst])) rfl ?_
    cbv
    exact hK _ _ rfl rfl

end Go.VAI
