/- Cutting noughts off, comparing limbs, numbers with a sign: what each function does. -/
import Derived.Test.YtialfhjffkoakaaGreatNA
namespace Go.VAI
open Go.Proofs
set_option maxRecDepth 100000
set_option maxHeartbeats 8000000

theorem c_impl_cut : Callable Tryz.prog 152 := ⟨_, Tryz.func152, rfl, by kernel_rfl⟩
theorem d_impl_cut {es c : List PV} {l : List Int} (hes : es = l.map i64) (hl : Lim l) (hb : l.length ≤ 1000000) (hc : Num c (ev l)) : Does Tryz.prog 152 [.sl es] (.pv (.sl c)) [] := by
  refine does_of hT hM Tryz.func152 rfl (D := []) (by kernel_rfl) rfl rfl rfl (fun A K hA hK => ?_)
  have hlen : es.length = l.length := by simp [hes]
  cbv
  refine Ar.len_ hA (fun n hn hn' => ?_)
  cbv
  refine Ar.loop_ hA (α := Int) (fun i => i.toNat) (fun i => 0 ≤ i ∧ i ≤ n ∧ ∀ x ∈ l.drop i.toNat, x = 0) 21 (fun i => [(0, .pv (.sl es) []), (3, .pv (i64 i) [])]) (fun _ => []) n ⟨rfl, ⟨rfl, rfl, trivial⟩, trivial⟩ ⟨hn, by omega, by rw [List.drop_of_length_le (by omega)]; simp⟩ ?_
  intro i s f ⟨h1, h2, h3⟩
  have fin : (∀ x, 0 < i.toNat → l[i.toNat - 1]? = some x → x ≠ 0) → es.take i.toNat = c := fun h => by
    obtain ⟨k1, k2⟩ := can_cut hl (m := i.toNat) (by omega) h3 h
    have : Num (es.take i.toNat) (ev l) := by rw [hes, ← List.map_take]; exact Num.of k1 k2
    exact this.inj hc
  cbv
  refine Ar.gtr_ hA (fun h => ?_) (fun h => ?_)
  · cbv
    refine Ar.sub_ hA (by omega) (fun k hk => ?_)
    cbv
    refine Ar.nn_ hA (by omega) ?_
    cbv
    refine Ar.toN_ hA (fun j hj => ?_)
    cbv
    obtain ⟨x, hx⟩ : ∃ p, l[j]? = some p := ⟨l[j]'(by omega), List.getElem?_eq_getElem _⟩
    refine Ar.idx_ hA (x := i64 x) (by rw [hes, List.getElem?_map, hx]; rfl) ?_
    cbv
    refine Ar.eql_ hA (fun h0 => ?_) (fun h0 => ?_)
    · cbv
      refine Ar.sub_ hA (by omega) (fun k' hk' => ?_)
      cbv
      refine ⟨k', by omega, ⟨by omega, by omega, ?_⟩, rfl, ⟨rfl, rfl, trivial⟩, trivial⟩
      rw [show k'.toNat = j by omega, drop_cons hx, show j + 1 = i.toNat by omega]
      intro y hy
      rcases List.mem_cons.1 hy with rfl | hy
      · exact h0
      · exact h3 y hy
    · cbv
      repeat' (first
        | (refine Ar.wid_ hA (by rw [hes]; exact wid_i64) ?_; cbv)
        | (refine Ar.lenN_ hA (fun _ _ => ?_); cbv)
        | (refine Ar.nn_ hA (by omega) ?_; cbv)
        | (refine Ar.toN_ hA (fun _ _ => ?_); cbv)
        | (refine Ar.rng_ hA (by omega) ?_; cbv)
        | (refine Ar.subN_ hA (fun _ _ => ?_); cbv))
      refine Ar.slN_ hA (fun r hr => ?_)
      cbv
      have hr2 : r = c := by
        rw [hr, ← fin (fun y _ hy => by rw [show i.toNat - 1 = j by omega, hx] at hy; cases hy; exact h0)]
        simp only [List.drop_zero]
        congr 1
      exact hK _ _ (by rw [hr2]) rfl
  · cbv
    repeat' (first
      | (refine Ar.wid_ hA (by rw [hes]; exact wid_i64) ?_; cbv)
      | (refine Ar.lenN_ hA (fun _ _ => ?_); cbv)
      | (refine Ar.nn_ hA (by omega) ?_; cbv)
      | (refine Ar.toN_ hA (fun _ _ => ?_); cbv)
      | (refine Ar.rng_ hA (by omega) ?_; cbv)
      | (refine Ar.subN_ hA (fun _ _ => ?_); cbv))
    refine Ar.slN_ hA (fun r hr => ?_)
    cbv
    have hr2 : r = c := by
      rw [hr, ← fin (fun y hy _ => by omega)]
      simp only [List.drop_zero]
      congr 1
    exact hK _ _ (by rw [hr2]) rfl

theorem c_spec_l1Cut : Callable Tryz.prog 112 := ⟨_, Tryz.func112, rfl, by kernel_rfl⟩
theorem d_spec_l1Cut {es c : List PV} {l : List Int} (hes : es = l.map i64) (hl : Lim l) (hb : l.length ≤ 1000000) (hc : Num c (ev l)) : Does Tryz.prog 112 [.sl es] (.row c 1 .free) [] := by
  refine does_of hT hM Tryz.func112 rfl (D := []) (by kernel_rfl) rfl rfl rfl (fun A K hA hK => ?_)
  have hlen : es.length = l.length := by simp [hes]
  cbv
  refine Ar.loop_ hA (α := Nat × List PV) (fun i => i.1) (fun i => i.1 ≤ l.length ∧ (∀ x ∈ l.drop i.1, x = 0) ∧ i.2 = es.take i.1) 23 (fun i => [(0, .pv (.sl i.2) [])]) (fun _ => []) (l.length, es) ⟨rfl, ⟨rfl, trivial⟩, trivial⟩ ⟨Nat.le_refl _, by simp, by rw [List.take_of_length_le (by omega)]⟩ ?_
  rintro ⟨i, e⟩ s f ⟨h2, h3, h4⟩
  simp only at h2 h3 h4
  have fin : (∀ x, 0 < i → l[i - 1]? = some x → x ≠ 0) → es.take i = c := fun h => by
    obtain ⟨k1, k2⟩ := can_cut hl (m := i) h2 h3 h
    have : Num (es.take i) (ev l) := by rw [hes, ← List.map_take]; exact Num.of k1 k2
    exact this.inj hc
  have he : e = (l.take i).map i64 := by rw [h4, hes, List.map_take]
  have hel : e.length = i := by rw [he]; simp; omega
  have hw : ∀ x ∈ e, (leaves x).length = 1 ∧ (true = true → isFree x = true) := by rw [he]; exact wid_i64
  cbv
  refine Ar.len_ hA (fun n hn hn' => ?_)
  cbv
  refine Ar.gtr_ hA (fun h => ?_) (fun h => ?_)
  · cbv
    refine Ar.len_ hA (fun n2 hn2 hn2' => ?_)
    cbv
    refine Ar.sub_ hA (by omega) (fun k hk => ?_)
    cbv
    refine Ar.nn_ hA (by omega) ?_
    cbv
    refine Ar.toN_ hA (fun j hj => ?_)
    cbv
    obtain ⟨x, hx⟩ : ∃ p, l[j]? = some p := ⟨l[j]'(by omega), List.getElem?_eq_getElem _⟩
    refine Ar.idx_ hA (x := i64 x) (by rw [he, List.getElem?_map, List.getElem?_take, if_pos (by omega), hx]; rfl) ?_
    cbv
    refine Ar.eql_ hA (fun h0 => ?_) (fun h0 => ?_)
    · cbv
      refine Ar.len_ hA (fun n3 hn3 hn3' => ?_)
      cbv
      refine Ar.sub_ hA (by omega) (fun k' hk' => ?_)
      cbv
      repeat' (first
        | (refine Ar.wid_ hA (by rw [he]; exact wid_i64) ?_; cbv)
        | (refine Ar.lenN_ hA (fun _ _ => ?_); cbv)
        | (refine Ar.nn_ hA (by omega) ?_; cbv)
        | (refine Ar.toN_ hA (fun _ _ => ?_); cbv)
        | (refine Ar.rng_ hA (by omega) ?_; cbv)
        | (refine Ar.subN_ hA (fun _ _ => ?_); cbv))
      refine Ar.slN_ hA (fun r hr => ?_)
      cbv
      refine ⟨(i - 1, r), by show i - 1 < i; omega, ⟨by show i - 1 ≤ _; omega, ?_, ?_⟩, rfl, ⟨rfl, trivial⟩, trivial⟩
      · show ∀ x ∈ l.drop (i - 1), x = 0
        rw [show i - 1 = j by omega, drop_cons hx, show j + 1 = i by omega]
        intro y hy
        rcases List.mem_cons.1 hy with rfl | hy
        · exact h0
        · exact h3 y hy
      · show r = es.take (i - 1)
        rw [hr, h4, List.drop_zero, List.take_take]
        congr 1; omega
    · cbv
      refine Ar.wid_ hA hw ?_
      cbv
      refine Ar.app_ hA (fun r hr => ?_)
      cbv
      refine Ar.fitsL_ hA (by rw [hr]; simp; omega) ?_
      cbv
      exact hK _ _ (by rw [hr, List.nil_append, h4, fin (fun y _ hy => by rw [show i - 1 = j by omega, hx] at hy; cases hy; exact h0)]) rfl
  · cbv
    refine Ar.wid_ hA hw ?_
    cbv
    refine Ar.app_ hA (fun r hr => ?_)
    cbv
    refine Ar.fitsL_ hA (by rw [hr]; simp; omega) ?_
    cbv
    exact hK _ _ (by rw [hr, List.nil_append, h4, fin (fun y hy _ => by omega)]) rfl

theorem c_slices_Clone_int_int : Callable Tryz.prog 151 := ⟨_, Tryz.func151, rfl, by kernel_rfl⟩
theorem d_slices_Clone_int_int {es : List PV} {l : List Int} (hes : es = l.map i64) (hb : l.length ≤ 1000000) : Does Tryz.prog 151 [.sl es] (.row es 1 .free) [] := by
  refine does_of hT hM Tryz.func151 rfl (D := []) (by kernel_rfl) rfl rfl rfl (fun A K hA hK => ?_)
  have hlen : es.length = l.length := by simp [hes]
  cbv
  refine Ar.isNil_ hA (fun h => ?_) (fun h => ?_) (fun h => ?_)
  rotate_left
  · cbv
    exact hK _ _ (by rw [h]) rfl
  all_goals
    cbv
    refine Ar.wid_ hA (by rw [hes]; exact wid_i64) ?_
    cbv
    refine Ar.app_ hA (fun r' hr' => ?_)
    cbv
    refine Ar.fitsL_ hA (by rw [hr', List.length_append]; simp only [List.length_nil]; omega) ?_
    cbv
    exact hK _ _ (by rw [hr']; rfl) rfl

theorem c_impl_bigOf : Callable Tryz.prog 133 := ⟨_, Tryz.func133, rfl, by kernel_rfl⟩
theorem d_impl_bigOf {g s : Bool} {es c : List PV} {l : List Int} (hes : es = l.map i64) (hl : Lim l) (hb : l.length ≤ 1000000) (hc : Num c (ev l)) (hs : s = (g && decide (0 < ev l))) : Does Tryz.prog 133 [bl g, .sl es] (.ag [.pv (bl s), .row c 1 .free]) [] := by
  refine does_of hT hM Tryz.func133 rfl (D := []) (by kernel_rfl) rfl rfl rfl (fun A K hA hK => ?_)
  have hcl : ∃ m : List Int, c = m.map i64 ∧ m.length ≤ 1000000 := by
    obtain ⟨m, h1, h2, h3⟩ := hc
    exact ⟨m, h1, by have := h2.len_le (n := l.length) (by rw [h3]; exact hl.bound.2); omega⟩
  obtain ⟨m, hm, hm2⟩ := hcl
  have h0 := hc.zero
  have h1 := hc.nonneg
  cases g
  all_goals
    cbv
    refine Ar.call_ hA c_impl_cut (d_impl_cut hes hl hb hc) rfl ?_
    cbv
    refine Ar.call_ hA c_slices_Clone_int_int (d_slices_Clone_int_int hm hm2) rfl ?_
    cbv
  · exact hK _ _ (by rw [hs]; rfl) rfl
  · refine Ar.len_ hA (fun n hn hn' => ?_)
    cbv
    refine Ar.gtr_ hA (fun h => ?_) (fun h => ?_)
    · cbv
      refine hK _ _ ?_ rfl
      have : c ≠ [] := by rintro rfl; simp at hn'; omega
      have : s = true := by rw [hs]; simp; have := mt h0.2 this; omega
      rw [this]
    · cbv
      refine hK _ _ ?_ rfl
      have : c = [] := List.eq_nil_of_length_eq_zero (by omega)
      have : s = false := by rw [hs, h0.1 this]; rfl
      rw [this]

theorem c_spec_l1Make : Callable Tryz.prog 75 := ⟨_, Tryz.func75, rfl, by kernel_rfl⟩
theorem d_spec_l1Make {g s : Bool} {es c : List PV} {l : List Int} (hes : es = l.map i64) (hl : Lim l) (hb : l.length ≤ 1000000) (hc : Num c (ev l)) (hs : s = (g && decide (0 < ev l))) : Does Tryz.prog 75 [bl g, .sl es] (.ag [.pv (bl s), .row c 1 .free]) [] := by
  refine does_of hT hM Tryz.func75 rfl (D := []) (by kernel_rfl) rfl rfl rfl (fun A K hA hK => ?_)
  have h0 := hc.zero
  have h1 := hc.nonneg
  cases g
  all_goals
    cbv
    refine Ar.call_ hA c_spec_l1Cut (d_spec_l1Cut hes hl hb hc) rfl ?_
    cbv
  · exact hK _ _ (by rw [hs]; rfl) rfl
  · refine Ar.len_ hA (fun n hn hn' => ?_)
    cbv
    refine Ar.gtr_ hA (fun h => ?_) (fun h => ?_)
    · cbv
      refine hK _ _ ?_ rfl
      have : c ≠ [] := by rintro rfl; simp at hn'; omega
      have : s = true := by rw [hs]; simp; have := mt h0.2 this; omega
      rw [this]
    · cbv
      refine hK _ _ ?_ rfl
      have : c = [] := List.eq_nil_of_length_eq_zero (by omega)
      have : s = false := by rw [hs, h0.1 this]; rfl
      rw [this]

theorem c_cmp_isNaN_int : Callable Tryz.prog 164 := ⟨_, Tryz.func164, rfl, by kernel_rfl⟩
theorem d_cmp_isNaN_int {a : Int} : Does Tryz.prog 164 [i64 a] (.pv (bl false)) [] := by
  refine does_of hT hM Tryz.func164 rfl (D := []) (by kernel_rfl) rfl rfl rfl (fun A K hA hK => ?_)
  cbv
  repeat' (first
    | (refine Ar.nn_ hA (by omega) ?_; cbv)
    | (refine Ar.toN_ hA (fun _ _ => ?_); cbv)
    | (refine Ar.notT_ hA ?_; cbv)
    | (refine Ar.notF_ hA ?_; cbv)
    | (refine Ar.lss_ hA (fun _ => ?_) (fun _ => ?_) <;> cbv)
    | (refine Ar.leq_ hA (fun _ => ?_) (fun _ => ?_) <;> cbv)
    | (refine Ar.gtr_ hA (fun _ => ?_) (fun _ => ?_) <;> cbv)
    | (refine Ar.geq_ hA (fun _ => ?_) (fun _ => ?_) <;> cbv)
    | (refine Ar.eql_ hA (fun _ => ?_) (fun _ => ?_) <;> cbv)
    | (refine Ar.neq_ hA (fun _ => ?_) (fun _ => ?_) <;> cbv)
    | (refine Ar.add_ hA (by omega) (fun _ _ => ?_); cbv)
    | (refine Ar.sub_ hA (by omega) (fun _ _ => ?_); cbv)
    | (refine Ar.neg_ hA (by omega) (fun _ _ => ?_); cbv)
    | (refine Ar.mulB hA 2000 2000 (by omega) (by omega) (by omega) (fun _ _ _ _ => ?_); cbv)
    | (refine Ar.mulB hA 3000000000 3000000000 (by omega) (by omega) (by omega) (fun _ _ _ _ => ?_); cbv)
    | (refine Ar.nz_ hA (by omega) ?_; cbv)
    | (refine Ar.rem_ hA (by omega) (fun _ _ => ?_); cbv)
    | (refine Ar.quo_ hA (by omega) (fun _ _ => ?_); cbv)
    | (refine Ar.mx_ hA (fun _ _ => ?_); cbv)
    | (refine Ar.mn_ hA (fun _ _ => ?_); cbv)
    | (refine Ar.len_ hA (fun _ _ _ => ?_); cbv)
    | (refine Ar.lenN_ hA (fun _ _ => ?_); cbv)
    | (refine Ar.bneq_ hA (fun _ => ?_) (fun _ => ?_) <;> cbv)
    | (refine Ar.beq_ hA (fun _ => ?_) (fun _ => ?_) <;> cbv)
    | (refine Ar.ofN_ hA (fun _ _ _ => ?_); cbv)
)
  all_goals first
    | exact hK _ _ rfl rfl
    | (exfalso; omega)

theorem c_cmp_Compare_int : Callable Tryz.prog 147 := ⟨_, Tryz.func147, rfl, by kernel_rfl⟩
theorem d_cmp_Compare_int {a b : Int} : Does Tryz.prog 147 [i64 a, i64 b] (.pv (i64 (cmpI a b))) [] := by
  refine does_of hT hM Tryz.func147 rfl (D := []) (by kernel_rfl) rfl rfl rfl (fun A K hA hK => ?_)
  cbv
  repeat' (first
    | (refine Ar.nn_ hA (by omega) ?_; cbv)
    | (refine Ar.toN_ hA (fun _ _ => ?_); cbv)
    | (refine Ar.notT_ hA ?_; cbv)
    | (refine Ar.notF_ hA ?_; cbv)
    | (refine Ar.lss_ hA (fun _ => ?_) (fun _ => ?_) <;> cbv)
    | (refine Ar.leq_ hA (fun _ => ?_) (fun _ => ?_) <;> cbv)
    | (refine Ar.gtr_ hA (fun _ => ?_) (fun _ => ?_) <;> cbv)
    | (refine Ar.geq_ hA (fun _ => ?_) (fun _ => ?_) <;> cbv)
    | (refine Ar.eql_ hA (fun _ => ?_) (fun _ => ?_) <;> cbv)
    | (refine Ar.neq_ hA (fun _ => ?_) (fun _ => ?_) <;> cbv)
    | (refine Ar.add_ hA (by omega) (fun _ _ => ?_); cbv)
    | (refine Ar.sub_ hA (by omega) (fun _ _ => ?_); cbv)
    | (refine Ar.neg_ hA (by omega) (fun _ _ => ?_); cbv)
    | (refine Ar.mulB hA 2000 2000 (by omega) (by omega) (by omega) (fun _ _ _ _ => ?_); cbv)
    | (refine Ar.mulB hA 3000000000 3000000000 (by omega) (by omega) (by omega) (fun _ _ _ _ => ?_); cbv)
    | (refine Ar.nz_ hA (by omega) ?_; cbv)
    | (refine Ar.rem_ hA (by omega) (fun _ _ => ?_); cbv)
    | (refine Ar.quo_ hA (by omega) (fun _ _ => ?_); cbv)
    | (refine Ar.mx_ hA (fun _ _ => ?_); cbv)
    | (refine Ar.mn_ hA (fun _ _ => ?_); cbv)
    | (refine Ar.len_ hA (fun _ _ _ => ?_); cbv)
    | (refine Ar.lenN_ hA (fun _ _ => ?_); cbv)
    | (refine Ar.bneq_ hA (fun _ => ?_) (fun _ => ?_) <;> cbv)
    | (refine Ar.beq_ hA (fun _ => ?_) (fun _ => ?_) <;> cbv)
    | (refine Ar.ofN_ hA (fun _ _ _ => ?_); cbv)
    | (refine Ar.call_ hA c_cmp_isNaN_int (d_cmp_isNaN_int) rfl ?_; cbv))
  all_goals exact hK _ _ (by unfold cmpI; (repeat' split) <;> first | rfl | (exfalso; omega)) rfl

theorem cmp_len {a b : List PV} {x y : Int} (ha : Num a x) (hb : Num b y) (h : a.length ≠ b.length) : cmpI a.length b.length = cmpI x y ∧ (a.length < b.length → x < y) ∧ (b.length < a.length → y < x) := by
  obtain ⟨l, rfl, h1, h2⟩ := ha
  obtain ⟨m, rfl, h3, h4⟩ := hb
  simp only [List.length_map] at h ⊢
  have k1 := fun hh => h1.lt h3 hh
  have k2 := fun hh => h3.lt h1 hh
  rw [h2, h4] at k1 k2
  refine ⟨?_, k1, k2⟩
  unfold cmpI
  rcases Nat.lt_or_ge l.length m.length with hh | hh
  · have := k1 hh
    rw [if_pos (by omega), if_pos (by omega)]
  · have := k2 (by omega)
    rw [if_neg (by omega), if_pos (by omega), if_neg (by omega), if_pos (by omega)]

theorem c_impl_compareLimbs : Callable Tryz.prog 135 := ⟨_, Tryz.func135, rfl, by kernel_rfl⟩
theorem d_impl_compareLimbs {a b : List PV} {x y : Int} (ha : Num a x) (hb : Num b y) (hl : a.length ≤ 1000000 ∧ b.length ≤ 1000000) : Does Tryz.prog 135 [.sl a, .sl b] (.pv (i64 (cmpI x y))) [] := by
  refine does_of hT hM Tryz.func135 rfl (D := []) (by kernel_rfl) rfl rfl rfl (fun A K hA hK => ?_)
  have hne := fun h => cmp_len ha hb h
  obtain ⟨l, hes, h1, h2⟩ := ha
  obtain ⟨m, hes', h3, h4⟩ := hb
  have hlen : a.length = l.length := by simp [hes]
  have hlen' : b.length = m.length := by simp [hes']
  cbv
  refine Ar.len_ hA (fun n hn hn' => ?_)
  cbv
  refine Ar.len_ hA (fun n2 hn2 hn2' => ?_)
  cbv
  refine Ar.neq_ hA (fun hh => ?_) (fun hh => ?_)
  · cbv
    refine Ar.len_ hA (fun n3 hn3 hn3' => ?_)
    cbv
    refine Ar.len_ hA (fun n4 hn4 hn4' => ?_)
    cbv
    refine Ar.callI hA c_cmp_Compare_int d_cmp_Compare_int rfl (fun r hr => ?_)
    cbv
    exact hK _ _ (by rw [hr, ← (hne (by omega)).1, show n3 = a.length by omega, show n4 = b.length by omega]) rfl
  · cbv
    refine Ar.len_ hA (fun n3 hn3 hn3' => ?_)
    cbv
    refine Ar.sub_ hA (by omega) (fun k hk => ?_)
    cbv
    refine Ar.loop_ hA (α := Int) (fun i => (i + 1).toNat) (fun i => -1 ≤ i ∧ i < n ∧ l.drop (i + 1).toNat = m.drop (i + 1).toNat) 41 (fun i => [(0, .pv (.sl a) []), (1, .pv (.sl b) []), (5, .pv (i64 i) [])]) (fun _ => []) k ⟨rfl, ⟨rfl, rfl, rfl, trivial⟩, trivial⟩ ⟨by omega, by omega, by rw [List.drop_of_length_le (by omega), List.drop_of_length_le (by omega)]⟩ ?_
    intro i s f ⟨g1, g2, g3⟩
    cbv
    refine Ar.geq_ hA (fun h => ?_) (fun h => ?_)
    · cbv
      refine Ar.nn_ hA (by omega) ?_
      cbv
      refine Ar.toN_ hA (fun j hj => ?_)
      cbv
      obtain ⟨p, hp⟩ : ∃ p, l[j]? = some p := ⟨l[j]'(by omega), List.getElem?_eq_getElem _⟩
      refine Ar.idx_ hA (x := i64 p) (by rw [hes, List.getElem?_map, hp]; rfl) ?_
      cbv
      refine Ar.nn_ hA (by omega) ?_
      cbv
      refine Ar.toN_ hA (fun j2 hj2 => ?_)
      cbv
      obtain ⟨q, hq⟩ : ∃ p, m[j2]? = some p := ⟨m[j2]'(by omega), List.getElem?_eq_getElem _⟩
      refine Ar.idx_ hA (x := i64 q) (by rw [hes', List.getElem?_map, hq]; rfl) ?_
      cbv
      have hjj : j2 = j := by omega
      subst hjj
      have e1 : (i + 1).toNat = j2 + 1 := by omega
      rw [e1] at g3
      refine Ar.neq_ hA (fun h0 => ?_) (fun h0 => ?_)
      · cbv
        refine Ar.nn_ hA (by omega) ?_
        cbv
        refine Ar.toN_ hA (fun j3 hj3 => ?_)
        cbv
        obtain ⟨p3, hp3⟩ : ∃ p, l[j3]? = some p := ⟨l[j3]'(by omega), List.getElem?_eq_getElem _⟩
        refine Ar.idx_ hA (x := i64 p3) (by rw [hes, List.getElem?_map, hp3]; rfl) ?_
        cbv
        refine Ar.nn_ hA (by omega) ?_
        cbv
        refine Ar.toN_ hA (fun j4 hj4 => ?_)
        cbv
        obtain ⟨q4, hq4⟩ : ∃ p, m[j4]? = some p := ⟨m[j4]'(by omega), List.getElem?_eq_getElem _⟩
        refine Ar.idx_ hA (x := i64 q4) (by rw [hes', List.getElem?_map, hq4]; rfl) ?_
        cbv
        refine Ar.callI hA c_cmp_Compare_int d_cmp_Compare_int rfl (fun r hr => ?_)
        cbv
        refine hK _ _ ?_ rfl
        rw [show j3 = j2 by omega, hp] at hp3
        rw [show j4 = j2 by omega, hq] at hq4
        cases hp3
        cases hq4
        have w1 := fun hh => lt_at h1.1 h3.1 hp hq g3 hh
        have w2 := fun hh => lt_at h3.1 h1.1 hq hp g3.symm hh
        rw [h2, h4] at w1 w2
        have : cmpI p q = cmpI x y := by
          unfold cmpI
          rcases Int.lt_trichotomy p q with hh | hh | hh
          · have := w1 hh; rw [if_pos hh, if_pos this]
          · exact absurd hh h0
          · have := w2 hh; rw [if_neg (by omega), if_pos hh, if_neg (by omega), if_pos this]
        rw [hr, this]
      · cbv
        refine Ar.sub_ hA (by omega) (fun k' hk' => ?_)
        cbv
        refine ⟨k', by omega, ⟨by omega, by omega, ?_⟩, rfl, ⟨rfl, rfl, rfl, trivial⟩, trivial⟩
        rw [show (k' + 1).toNat = j2 by omega, drop_cons hp, drop_cons hq, g3, h0]
    · cbv
      refine hK _ _ ?_ rfl
      rw [show (i + 1).toNat = 0 by omega] at g3
      have : l = m := by simpa using g3
      subst this
      have : x = y := by omega
      subst this
      have : cmpI x x = 0 := by unfold cmpI; rw [if_neg (by omega), if_neg (by omega)]
      rw [this]

theorem c_spec_l1Cmp : Callable Tryz.prog 120 := ⟨_, Tryz.func120, rfl, by kernel_rfl⟩
theorem d_spec_l1Cmp {a b : List PV} {x y : Int} (ha : Num a x) (hb : Num b y) (hl : a.length ≤ 1000000 ∧ b.length ≤ 1000000) : Does Tryz.prog 120 [.sl a, .sl b] (.pv (i64 (cmpI x y))) [] := by
  refine does_of hT hM Tryz.func120 rfl (D := []) (by kernel_rfl) rfl rfl rfl (fun A K hA hK => ?_)
  have hne := fun h => cmp_len ha hb h
  obtain ⟨l, hes, h1, h2⟩ := ha
  obtain ⟨m, hes', h3, h4⟩ := hb
  have hlen : a.length = l.length := by simp [hes]
  have hlen' : b.length = m.length := by simp [hes']
  cbv
  refine Ar.len_ hA (fun n hn hn' => ?_)
  cbv
  refine Ar.len_ hA (fun n2 hn2 hn2' => ?_)
  cbv
  refine Ar.neq_ hA (fun hh => ?_) (fun hh => ?_)
  · cbv
    refine Ar.len_ hA (fun n3 hn3 hn3' => ?_)
    cbv
    refine Ar.len_ hA (fun n4 hn4 hn4' => ?_)
    cbv
    refine Ar.lss_ hA (fun h0 => ?_) (fun h0 => ?_)
    · cbv
      refine hK _ _ ?_ rfl
      have := (hne (by omega)).2.1 (by omega)
      have : cmpI x y = -1 := by unfold cmpI; rw [if_pos this]
      rw [this]
    · cbv
      refine hK _ _ ?_ rfl
      have := (hne (by omega)).2.2 (by omega)
      have : cmpI x y = 1 := by unfold cmpI; rw [if_neg (by omega), if_pos this]
      rw [this]
  · cbv
    refine Ar.len_ hA (fun n3 hn3 hn3' => ?_)
    cbv
    refine Ar.sub_ hA (by omega) (fun k hk => ?_)
    cbv
    refine Ar.loop_ hA (α := Int) (fun i => (i + 1).toNat) (fun i => -1 ≤ i ∧ i < n ∧ l.drop (i + 1).toNat = m.drop (i + 1).toNat) 41 (fun i => [(0, .pv (.sl a) []), (1, .pv (.sl b) []), (5, .pv (i64 i) [])]) (fun _ => []) k ⟨rfl, ⟨rfl, rfl, rfl, trivial⟩, trivial⟩ ⟨by omega, by omega, by rw [List.drop_of_length_le (by omega), List.drop_of_length_le (by omega)]⟩ ?_
    intro i s f ⟨g1, g2, g3⟩
    cbv
    refine Ar.geq_ hA (fun h => ?_) (fun h => ?_)
    · cbv
      refine Ar.nn_ hA (by omega) ?_
      cbv
      refine Ar.toN_ hA (fun j hj => ?_)
      cbv
      obtain ⟨p, hp⟩ : ∃ p, l[j]? = some p := ⟨l[j]'(by omega), List.getElem?_eq_getElem _⟩
      refine Ar.idx_ hA (x := i64 p) (by rw [hes, List.getElem?_map, hp]; rfl) ?_
      cbv
      refine Ar.nn_ hA (by omega) ?_
      cbv
      refine Ar.toN_ hA (fun j2 hj2 => ?_)
      cbv
      obtain ⟨q, hq⟩ : ∃ p, m[j2]? = some p := ⟨m[j2]'(by omega), List.getElem?_eq_getElem _⟩
      refine Ar.idx_ hA (x := i64 q) (by rw [hes', List.getElem?_map, hq]; rfl) ?_
      cbv
      have hjj : j2 = j := by omega
      subst hjj
      have e1 : (i + 1).toNat = j2 + 1 := by omega
      rw [e1] at g3
      have w1 := fun hh => lt_at h1.1 h3.1 hp hq g3 hh
      have w2 := fun hh => lt_at h3.1 h1.1 hq hp g3.symm hh
      rw [h2, h4] at w1 w2
      refine Ar.lss_ hA (fun h0 => ?_) (fun h0 => ?_)
      · cbv
        refine hK _ _ ?_ rfl
        have := w1 h0
        have : cmpI x y = -1 := by unfold cmpI; rw [if_pos this]
        rw [this]
      · cbv
        refine Ar.nn_ hA (by omega) ?_
        cbv
        refine Ar.toN_ hA (fun j3 hj3 => ?_)
        cbv
        obtain ⟨p3, hp3⟩ : ∃ p, l[j3]? = some p := ⟨l[j3]'(by omega), List.getElem?_eq_getElem _⟩
        refine Ar.idx_ hA (x := i64 p3) (by rw [hes, List.getElem?_map, hp3]; rfl) ?_
        cbv
        refine Ar.nn_ hA (by omega) ?_
        cbv
        refine Ar.toN_ hA (fun j4 hj4 => ?_)
        cbv
        obtain ⟨q4, hq4⟩ : ∃ p, m[j4]? = some p := ⟨m[j4]'(by omega), List.getElem?_eq_getElem _⟩
        refine Ar.idx_ hA (x := i64 q4) (by rw [hes', List.getElem?_map, hq4]; rfl) ?_
        cbv
        rw [show j3 = j2 by omega, hp] at hp3
        rw [show j4 = j2 by omega, hq] at hq4
        cases hp3
        cases hq4
        refine Ar.gtr_ hA (fun h5 => ?_) (fun h5 => ?_)
        · cbv
          refine hK _ _ ?_ rfl
          have := w2 h5
          have : cmpI x y = 1 := by unfold cmpI; rw [if_neg (by omega), if_pos this]
          rw [this]
        · cbv
          refine Ar.sub_ hA (by omega) (fun k' hk' => ?_)
          cbv
          refine ⟨k', by omega, ⟨by omega, by omega, ?_⟩, rfl, ⟨rfl, rfl, rfl, trivial⟩, trivial⟩
          rw [show (k' + 1).toNat = j2 by omega, drop_cons hp, drop_cons hq, g3, show p = q by omega]
    · cbv
      refine hK _ _ ?_ rfl
      rw [show (i + 1).toNat = 0 by omega] at g3
      have : l = m := by simpa using g3
      subst this
      have : x = y := by omega
      subst this
      have : cmpI x x = 0 := by unfold cmpI; rw [if_neg (by omega), if_neg (by omega)]
      rw [this]

end Go.VAI
