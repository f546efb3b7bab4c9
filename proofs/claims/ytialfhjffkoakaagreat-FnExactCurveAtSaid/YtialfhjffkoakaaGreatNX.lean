/- Fractions and points that are not too long; mixtures of two points; both sides. -/
import Derived.Test.YtialfhjffkoakaaGreatNW
namespace Go.VAI
open Go.Proofs
set_option maxRecDepth 100000
set_option maxHeartbeats 8000000

theorem one_cast : ((1 : Int) : Rat) = 1 := rfl
theorem sz_one : Sz 1 (1 : Rat) := by rw [← one_cast]; exact Sz.int (by unfold iabs; simp only [pw]; omega) (by omega)

theorem isShort_q {s t : Bool} {a b : List PV} {q : Rat} {n : Int} {k m : Nat} (h : RatP s a t b q) (hn : n = k) (hm : Sz m q) (hb : m ≤ 90000) : Does Tryz.prog 84 [rpv s a t b, i64 n] (.pv (bl (fits k q))) [] := by
  obtain ⟨ea, eb, es, et⟩ := h.lims
  have hl := b4_len hm
  exact d_impl_Rat_isShort (s := s) (t := t) ea eb hn (Nat.le_trans hl.1 (by omega)) (Nat.le_trans hl.2 (by omega))

def z4 : R4 := ((false, []), (false, []))
def z8 : R8 := (z4, z4)
def res4 (q : Rat) : R4 := if fits 40 q then b4 q else z4
def okP (p : Rat × Rat) : Bool := fits 40 p.1 && fits 40 p.2
def res8 (p : Rat × Rat) : R8 := if okP p then b8 p else z8
def rs4 (r : R4) : RS := rrs r.1.1 (r.1.2.map i64) r.2.1 (r.2.2.map i64)
def rs8 (r : R8) : RS := prs r.1.1.1 (r.1.1.2.map i64) r.1.2.1 (r.1.2.2.map i64) r.2.1.1 (r.2.1.2.map i64) r.2.2.1 (r.2.2.2.map i64)
theorem rs4_eq {s t : Bool} {a b : List PV} {q : Rat} (h : RatP s a t b q) : rs4 (b4 q) = rrs s a t b := by
  obtain ⟨ea, eb, es, et⟩ := h.lims
  rw [ea, eb, es, et]; rfl
theorem rs8_eq {s1 t1 s2 t2 : Bool} {a1 b1 a2 b2 : List PV} {p : Rat × Rat} (h1 : RatP s1 a1 t1 b1 p.1) (h2 : RatP s2 a2 t2 b2 p.2) : rs8 (b8 p) = prs s1 a1 t1 b1 s2 a2 t2 b2 := by
  obtain ⟨ea, eb, es, et⟩ := h1.lims
  obtain ⟨fa, fb, fs, ft⟩ := h2.lims
  rw [ea, eb, es, et, fa, fb, fs, ft]; rfl
theorem fits_len {s t : Bool} {a b : List PV} {q : Rat} (h : RatP s a t b q) : fits 40 q = (decide (a.length ≤ 40) && decide (b.length ≤ 40)) := by
  obtain ⟨ea, eb, _⟩ := h.lims
  rw [ea, eb]; simp [fits, shortR]

abbrev vrs4 (s : Bool) (a : List PV) (t : Bool) (b : List PV) : RS := .ag [.pv (bl s), .pv (.sl a), .pv (bl t), .pv (.sl b)]
abbrev vrs8 (s1 : Bool) (a1 : List PV) (t1 : Bool) (b1 : List PV) (s2 : Bool) (a2 : List PV) (t2 : Bool) (b2 : List PV) : RS := .ag [.pv (bl s1), .pv (.sl a1), .pv (bl t1), .pv (.sl b1), .pv (bl s2), .pv (.sl a2), .pv (bl t2), .pv (.sl b2)]

/-! ### What is handed back as it is -/

theorem All2.two {α β : Type} {p : α → β → Prop} {x y : α} {l : List β} (h : All2 p [x, y] l) : ∃ u v, l = [u, v] ∧ p x u ∧ p y v := by
  cases h with
  | cons h1 t =>
  cases t with
  | cons h2 t =>
  cases t
  exact ⟨_, _, rfl, h1, h2⟩
theorem All2.four {α β : Type} {p : α → β → Prop} {x y z u : α} {l : List β} (h : All2 p [x, y, z, u] l) : ∃ a b c d, l = [a, b, c, d] ∧ p x a ∧ p y b ∧ p z c ∧ p u d := by
  cases h with
  | cons h1 t =>
  cases t with
  | cons h2 t =>
  cases t with
  | cons h3 t =>
  cases t with
  | cons h4 t =>
  cases t
  exact ⟨_, _, _, _, rfl, h1, h2, h3, h4⟩

theorem isShort_raw {s t : Bool} {n m : Nat} {x y : Option Addr} {c e : Nat} : Does Tryz.prog 84 [.agg [bl s, .val (.slice x n c), bl t, .val (.slice y m e)], i64 40] (.pv (bl (decide (n ≤ 40) && decide (m ≤ 40)))) [] := by
  refine does_of hT hM Tryz.func84 rfl (D := []) (by kernel_rfl) rfl rfl rfl (fun A K hA hK => ?_)
  cbv
  refine Ar.ofN_ hA (fun n1 hn1 hn1' => ?_)
  cbv
  refine Ar.leq_ hA (fun h1 => ?_) (fun h1 => ?_)
  · cbv
    refine Ar.ofN_ hA (fun n2 hn2 hn2' => ?_)
    cbv
    refine Ar.leq_ hA (fun h2 => ?_) (fun h2 => ?_)
    · cbv
      exact hK _ _ (by rw [decide_eq_true (show n ≤ 40 by omega), decide_eq_true (show m ≤ 40 by omega)]; rfl) rfl
    · cbv
      exact hK _ _ (by rw [decide_eq_true (show n ≤ 40 by omega), decide_eq_false (show ¬ m ≤ 40 by omega)]; rfl) rfl
  · cbv
    exact hK _ _ (by rw [decide_eq_false (show ¬ n ≤ 40 by omega)]; rfl) rfl

theorem pass_checkedRat {s t : Bool} {a b : List PV} {B : Bool} (hB : B = (decide (a.length ≤ 40) && decide (b.length ≤ 40))) : Passes Tryz.prog 40 [bl s, .sl a, bl t, .sl b] B [bl false, .val (.slice none 0 0), bl false, .val (.slice none 0 0)] := by
  refine ⟨⟨_, Tryz.func40, rfl, by kernel_rfl⟩, rfl, rfl, fun ys hy => ?_⟩
  obtain ⟨y1, y2, y3, y4, rfl, rfl, ⟨p, c, rfl⟩, rfl, ⟨q, d, rfl⟩⟩ := hy.four
  have d1 := @isShort_raw s t a.length b.length p q c d
  rw [← hB] at d1
  clear hB hy
  generalize a.length = n at *
  generalize b.length = m at *
  have c1 : Callable Tryz.prog 84 := ⟨_, Tryz.func84, rfl, by kernel_rfl⟩
  cases B
  all_goals
    refine does_of hT hM Tryz.func40 rfl (D := []) (by kernel_rfl) rfl rfl rfl (fun A K hA hK => ?_)
    cbv
    refine Ar.call_ hA c1 d1 rfl ?_
    cbv
    first
      | (refine Ar.notT_ hA ?_; cbv; exact hK _ _ rfl rfl)
      | (refine Ar.notF_ hA ?_; cbv; exact hK _ _ rfl rfl)

/-! ### Copies of what is not too long -/

theorem c_impl_checkedRPt : Callable Tryz.prog 55 := ⟨_, Tryz.func55, rfl, by kernel_rfl⟩
theorem d_impl_checkedRPt {s1 t1 s2 t2 : Bool} {a1 b1 a2 b2 : List PV} {p : Rat × Rat} {k : Nat} (h1 : RatP s1 a1 t1 b1 p.1) (h2 : RatP s2 a2 t2 b2 p.2) (hk : Szp k p) (hb : k ≤ 90000) : Does Tryz.prog 55 [ppv s1 a1 t1 b1 s2 a2 t2 b2] (.tup [rs8 (res8 p), .pv (bl (okP p))]) [] := by
  have d1 := isShort_q (n := 40) (k := 40) h1 rfl hk.1 hb
  have d2 := isShort_q (n := 40) (k := 40) h2 rfl hk.2 hb
  have d3 := d_impl_ownRPt h1 h2 hk hb
  have e := rs8_eq h1 h2
  have c1 : Callable Tryz.prog 84 := ⟨_, Tryz.func84, rfl, by kernel_rfl⟩
  unfold res8 okP
  clear h1 h2 hk
  generalize fits 40 p.1 = B1 at *
  generalize fits 40 p.2 = B2 at *
  cases B1
  · have : Does Tryz.prog 55 [ppv s1 a1 t1 b1 s2 a2 t2 b2] (.tup [.ag [.pv (bl false), .pv (.val (.slice none 0 0)), .pv (bl false), .pv (.val (.slice none 0 0)), .pv (bl false), .pv (.val (.slice none 0 0)), .pv (bl false), .pv (.val (.slice none 0 0))], .pv (bl false)]) [] := by
      refine does_of hT hM Tryz.func55 rfl (D := []) (by kernel_rfl) rfl rfl rfl (fun A K hA hK => ?_)
      cbv
      refine Ar.call_ hA c1 d1 rfl ?_
      cbv
      refine Ar.notF_ hA ?_
      cbv
      exact hK _ _ rfl rfl
    exact this.nr
  · cases B2
    · have : Does Tryz.prog 55 [ppv s1 a1 t1 b1 s2 a2 t2 b2] (.tup [.ag [.pv (bl false), .pv (.val (.slice none 0 0)), .pv (bl false), .pv (.val (.slice none 0 0)), .pv (bl false), .pv (.val (.slice none 0 0)), .pv (bl false), .pv (.val (.slice none 0 0))], .pv (bl false)]) [] := by
        refine does_of hT hM Tryz.func55 rfl (D := []) (by kernel_rfl) rfl rfl rfl (fun A K hA hK => ?_)
        cbv
        refine Ar.call_ hA c1 d1 rfl ?_
        cbv
        refine Ar.notT_ hA ?_
        cbv
        refine Ar.call_ hA c1 d2 rfl ?_
        cbv
        refine Ar.notF_ hA ?_
        cbv
        exact hK _ _ rfl rfl
      exact this.nr
    · show Does _ _ _ (.tup [rs8 (b8 p), .pv (bl true)]) []
      rw [e]
      refine does_of hT hM Tryz.func55 rfl (D := []) (by kernel_rfl) rfl rfl rfl (fun A K hA hK => ?_)
      cbv
      refine Ar.call_ hA c1 d1 rfl ?_
      cbv
      refine Ar.notT_ hA ?_
      cbv
      refine Ar.call_ hA c1 d2 rfl ?_
      cbv
      refine Ar.notT_ hA ?_
      cbv
      refine Ar.call_ hA c_impl_ownRPt d3 rfl ?_
      cbv
      exact hK _ _ rfl rfl

theorem c_spec_l2Fits : Callable Tryz.prog 36 := ⟨_, Tryz.func36, rfl, by kernel_rfl⟩
theorem d_spec_l2Fits {s t : Bool} {a b : List PV} {q : Rat} {k : Nat} (h : RatP s a t b q) (hk : Sz k q) (hb : k ≤ 90000) : Does Tryz.prog 36 [rpv s a t b] (.tup [rs4 (res4 q), .pv (bl (fits 40 q))]) [] := by
  have hl := h.len hk
  have hf := fits_len h
  have e := rs4_eq h
  have d1 := l1Make_num (g := s) (s := s) h.1.1 (by omega) h.1.self
  have h0 := (h.2.pos (by omega)).1
  subst h0
  have d2 := l1Make_num (g := false) (s := false) (h.2.pos (by omega)).2 (by omega) rfl
  unfold res4
  clear h hk
  generalize fits 40 q = B at *
  cases B
  · have : Does Tryz.prog 36 [rpv s a false b] (.tup [.ag [.pv (bl false), .pv (.val (.slice none 0 0)), .pv (bl false), .pv (.val (.slice none 0 0))], .pv (bl false)]) [] := by
      have hf' : 40 < a.length ∨ 40 < b.length := by
        rcases Nat.lt_or_ge 40 a.length with h | h
        · exact .inl h
        · rcases Nat.lt_or_ge 40 b.length with h2 | h2
          · exact .inr h2
          · rw [decide_eq_true h, decide_eq_true h2] at hf; cases hf
      clear hf
      refine does_of hT hM Tryz.func36 rfl (D := []) (by kernel_rfl) rfl rfl rfl (fun A K hA hK => ?_)
      cbv
      refine Ar.len_ hA (fun n1 hn1 hn1' => ?_)
      cbv
      refine Ar.gtr_ hA (fun h1 => ?_) (fun h1 => ?_)
      · cbv
        exact hK _ _ rfl rfl
      · cbv
        refine Ar.len_ hA (fun n2 hn2 hn2' => ?_)
        cbv
        refine Ar.gtr_ hA (fun h2 => ?_) (fun h2 => absurd h2 (by omega))
        cbv
        exact hK _ _ rfl rfl
    exact this.nr
  · show Does _ _ _ (.tup [rs4 (b4 q), .pv (bl true)]) []
    rw [e]
    have hf' : a.length ≤ 40 ∧ b.length ≤ 40 := by
      have := hf.symm
      simpa using this
    clear hf
    refine does_of hT hM Tryz.func36 rfl (D := []) (by kernel_rfl) rfl rfl rfl (fun A K hA hK => ?_)
    cbv
    refine Ar.len_ hA (fun n1 hn1 hn1' => ?_)
    cbv
    refine Ar.gtr_ hA (fun h1 => absurd h1 (by omega)) (fun h1 => ?_)
    cbv
    refine Ar.len_ hA (fun n2 hn2 hn2' => ?_)
    cbv
    refine Ar.gtr_ hA (fun h2 => absurd h2 (by omega)) (fun h2 => ?_)
    cbv
    repeat' (first
      | (refine Ar.notT_ hA ?_; cbv)
      | (refine Ar.notF_ hA ?_; cbv)
      | (refine Ar.call_ hA c_spec_l1Make d1 rfl ?_; cbv)
      | (refine Ar.call_ hA c_spec_l1Make d2 rfl ?_; cbv))
    exact hK _ _ rfl rfl

theorem c_spec_l12Fits : Callable Tryz.prog 50 := ⟨_, Tryz.func50, rfl, by kernel_rfl⟩
theorem d_spec_l12Fits {s1 t1 s2 t2 : Bool} {a1 b1 a2 b2 : List PV} {p : Rat × Rat} {k : Nat} (h1 : RatP s1 a1 t1 b1 p.1) (h2 : RatP s2 a2 t2 b2 p.2) (hk : Szp k p) (hb : k ≤ 90000) : Does Tryz.prog 50 [ppv s1 a1 t1 b1 s2 a2 t2 b2] (.tup [rs8 (res8 p), .pv (bl (okP p))]) [] := by
  have d1 := d_spec_l2Fits h1 hk.1 hb
  have d2 := d_spec_l2Fits h2 hk.2 hb
  have e := rs8_eq h1 h2
  have e1 := rs4_eq h1
  have e2 := rs4_eq h2
  unfold res8 okP
  unfold res4 at d1 d2
  clear h1 h2 hk
  generalize fits 40 p.1 = B1 at *
  generalize fits 40 p.2 = B2 at *
  have d1 : Does Tryz.prog 36 [rpv s1 a1 t1 b1] (.tup [if B1 then rrs s1 a1 t1 b1 else rrs false [] false [], .pv (bl B1)]) [] := by
    cases B1
    · exact d1
    · rw [← e1]; exact d1
  have d2 : Does Tryz.prog 36 [rpv s2 a2 t2 b2] (.tup [if B2 then rrs s2 a2 t2 b2 else rrs false [] false [], .pv (bl B2)]) [] := by
    cases B2
    · exact d2
    · rw [← e2]; exact d2
  have bad : B1 = false ∨ B2 = false → Does Tryz.prog 50 [ppv s1 a1 t1 b1 s2 a2 t2 b2] (.tup [.ag [.pv (bl false), .pv (.val (.slice none 0 0)), .pv (bl false), .pv (.val (.slice none 0 0)), .pv (bl false), .pv (.val (.slice none 0 0)), .pv (bl false), .pv (.val (.slice none 0 0))], .pv (bl false)]) [] := by
    intro hbad
    cases B1 <;> cases B2 <;> first | (simp at hbad; done) | skip
    all_goals
      simp only [if_true, Bool.false_eq_true, if_false] at d1 d2
      refine does_of hT hM Tryz.func50 rfl (D := []) (by kernel_rfl) rfl rfl rfl (fun A K hA hK => ?_)
      cbv
      repeat' (first
        | (refine Ar.notT_ hA ?_; cbv)
        | (refine Ar.notF_ hA ?_; cbv)
        | (refine Ar.call_ hA c_spec_l2Fits d1 rfl ?_; cbv)
        | (refine Ar.call_ hA c_spec_l2Fits d2 rfl ?_; cbv))
      exact hK _ _ rfl rfl
  cases B1
  · exact (bad (.inl rfl)).nr
  · cases B2
    · exact (bad (.inr rfl)).nr
    · show Does _ _ _ (.tup [rs8 (b8 p), .pv (bl true)]) []
      rw [e]
      clear bad
      simp only [if_true] at d1 d2
      refine does_of hT hM Tryz.func50 rfl (D := []) (by kernel_rfl) rfl rfl rfl (fun A K hA hK => ?_)
      cbv
      repeat' (first
        | (refine Ar.notT_ hA ?_; cbv)
        | (refine Ar.notF_ hA ?_; cbv)
        | (refine Ar.call_ hA c_spec_l2Fits d1 rfl ?_; cbv)
        | (refine Ar.call_ hA c_spec_l2Fits d2 rfl ?_; cbv))
      exact hK _ _ rfl rfl

/-! ### Mixtures -/

def mixR (t x y : Rat) : Rat := x + t * (y - x)
def mixP (t : Rat) (a b : Rat × Rat) : Rat × Rat := (mixR t a.1 b.1, mixR t a.2 b.2)
theorem mixR_eq (t x y : Rat) : (1 - t) * x + t * y = mixR t x y := by unfold mixR; grind
theorem Sz.mixR {t x y : Rat} {kt kx ky : Nat} (ht : Sz kt t) (hx : Sz kx x) (hy : Sz ky y) : Sz (kx + ky + 2 * kt + 3) (mixR t x y) := by
  rw [← mixR_eq]
  exact (((sz_one.sub ht).mul hx).add (ht.mul hy)).mono (by omega)
theorem Szp.mixP {t : Rat} {a b : Rat × Rat} {kt ka kb : Nat} (ht : Sz kt t) (ha : Szp ka a) (hb : Szp kb b) : Szp (ka + kb + 2 * kt + 3) (mixP t a b) := ⟨ht.mixR ha.1 hb.1, ht.mixR ha.2 hb.2⟩


theorem c_impl_mix : Callable Tryz.prog 65 := ⟨_, Tryz.func65, rfl, by kernel_rfl⟩
theorem d_impl_mix {s1 t1 s2 t2 s3 t3 s4 t4 s5 t5 s6 t6 s7 t7 : Bool} {a1 b1 a2 b2 a3 b3 a4 b4 a5 b5 a6 b6 a7 b7 : List PV} {p q : Rat × Rat} {t : Rat} {kp kq kt : Nat} (h1 : RatP s1 a1 t1 b1 p.1) (h2 : RatP s2 a2 t2 b2 p.2) (h3 : RatP s3 a3 t3 b3 q.1) (h4 : RatP s4 a4 t4 b4 q.2) (h5 : RatP s5 a5 t5 b5 t) (hp : Szp kp p) (hq : Szp kq q) (ht : Sz kt t) (hb : kp + kq + 2 * kt + 3 ≤ 90000) (h6 : RatP s6 a6 t6 b6 (mixR t p.1 q.1)) (h7 : RatP s7 a7 t7 b7 (mixR t p.2 q.2)) : Does Tryz.prog 65 [ppv s1 a1 t1 b1 s2 a2 t2 b2, ppv s3 a3 t3 b3 s4 a4 t4 b4, rpv s5 a5 t5 b5] (prs s6 a6 t6 b6 s7 a7 t7 b7) [] := by
  refine does_of hT hM Tryz.func65 rfl (D := []) (by kernel_rfl) rfl rfl rfl (fun A K hA hK => ?_)
  obtain ⟨u1, e1, v1, f1, g1⟩ := RatP.ex (1 : Rat)
  obtain ⟨u2, e2, v2, f2, g2⟩ := RatP.ex (1 - t)
  obtain ⟨u3, e3, v3, f3, g3⟩ := RatP.ex ((1 - t) * p.1)
  obtain ⟨u4, e4, v4, f4, g4⟩ := RatP.ex (t * q.1)
  obtain ⟨u5, e5, v5, f5, g5⟩ := RatP.ex ((1 - t) * p.2)
  obtain ⟨u6, e6, v6, f6, g6⟩ := RatP.ex (t * q.2)
  rw [← mixR_eq] at h6 h7
  have z2 := sz_one.sub ht
  have d1 := d_impl_whole (n := 1) (by omega) g1
  have d2 := d_impl_Rat_sub g1 h5 sz_one ht (by omega) g2
  have d3 := d_impl_Rat_mul g2 h1 z2 hp.1 (by omega) g3
  have d4 := d_impl_Rat_mul h5 h3 ht hq.1 (by omega) g4
  have d5 := d_impl_Rat_mul g2 h2 z2 hp.2 (by omega) g5
  have d6 := d_impl_Rat_mul h5 h4 ht hq.2 (by omega) g6
  have d7 := d_impl_Rat_add g3 g4 (z2.mul hp.1) (ht.mul hq.1) (by omega) h6
  have d8 := d_impl_Rat_add g5 g6 (z2.mul hp.2) (ht.mul hq.2) (by omega) h7
  clear h1 h2 h3 h4 h5 h6 h7 g1 g2 g3 g4 g5 g6 hp hq ht z2
  cbv
  repeat' (first
    | (refine Ar.notT_ hA ?_; cbv)
    | (refine Ar.notF_ hA ?_; cbv)
    | (refine Ar.call_ hA c_impl_whole d1 rfl ?_; cbv)
    | (refine Ar.call_ hA c_impl_Rat_sub d2 rfl ?_; cbv)
    | (refine Ar.call_ hA c_impl_Rat_mul d3 rfl ?_; cbv)
    | (refine Ar.call_ hA c_impl_Rat_mul d4 rfl ?_; cbv)
    | (refine Ar.call_ hA c_impl_Rat_mul d5 rfl ?_; cbv)
    | (refine Ar.call_ hA c_impl_Rat_mul d6 rfl ?_; cbv)
    | (refine Ar.call_ hA c_impl_Rat_add d7 rfl ?_; cbv)
    | (refine Ar.call_ hA c_impl_Rat_add d8 rfl ?_; cbv))
  exact hK _ _ rfl rfl

theorem c_spec_l12Mix1 : Callable Tryz.prog 122 := ⟨_, Tryz.func122, rfl, by kernel_rfl⟩
theorem d_spec_l12Mix1 {s1 t1 s2 t2 s3 t3 s4 t4 : Bool} {a1 b1 a2 b2 a3 b3 a4 b4 : List PV} {x y t : Rat} {kx ky kt : Nat} (h1 : RatP s1 a1 t1 b1 x) (h2 : RatP s2 a2 t2 b2 y) (h3 : RatP s3 a3 t3 b3 t) (hx : Sz kx x) (hy : Sz ky y) (ht : Sz kt t) (hb : 2 * kx + ky + kt + 3 ≤ 90000) (h4 : RatP s4 a4 t4 b4 (mixR t x y)) : Does Tryz.prog 122 [rpv s1 a1 t1 b1, rpv s2 a2 t2 b2, rpv s3 a3 t3 b3] (rrs s4 a4 t4 b4) [] := by
  refine does_of hT hM Tryz.func122 rfl (D := []) (by kernel_rfl) rfl rfl rfl (fun A K hA hK => ?_)
  obtain ⟨u1, e1, v1, f1, g1⟩ := RatP.ex (y - x)
  obtain ⟨u2, e2, v2, f2, g2⟩ := RatP.ex (t * (y - x))
  unfold mixR at h4
  have d1 := d_spec_l2Sub h2 h1 hy hx (by omega) g1
  have d2 := d_spec_l2Mul h3 g1 ht (hy.sub hx) (by omega) g2
  have d3 := d_spec_l2Add h1 g2 hx (ht.mul (hy.sub hx)) (by omega) h4
  clear h1 h2 h3 h4 g1 g2 hx hy ht
  cbv
  repeat' (first
    | (refine Ar.notT_ hA ?_; cbv)
    | (refine Ar.notF_ hA ?_; cbv)
    | (refine Ar.call_ hA c_spec_l2Sub d1 rfl ?_; cbv)
    | (refine Ar.call_ hA c_spec_l2Mul d2 rfl ?_; cbv)
    | (refine Ar.call_ hA c_spec_l2Add d3 rfl ?_; cbv))
  exact hK _ _ rfl rfl

theorem c_spec_l12Mix : Callable Tryz.prog 91 := ⟨_, Tryz.func91, rfl, by kernel_rfl⟩
theorem d_spec_l12Mix {s1 t1 s2 t2 s3 t3 s4 t4 s5 t5 s6 t6 s7 t7 : Bool} {a1 b1 a2 b2 a3 b3 a4 b4 a5 b5 a6 b6 a7 b7 : List PV} {p q : Rat × Rat} {t : Rat} {kp kq kt : Nat} (h1 : RatP s1 a1 t1 b1 p.1) (h2 : RatP s2 a2 t2 b2 p.2) (h3 : RatP s3 a3 t3 b3 q.1) (h4 : RatP s4 a4 t4 b4 q.2) (h5 : RatP s5 a5 t5 b5 t) (hp : Szp kp p) (hq : Szp kq q) (ht : Sz kt t) (hb : 2 * kp + kq + kt + 3 ≤ 90000) (h6 : RatP s6 a6 t6 b6 (mixR t p.1 q.1)) (h7 : RatP s7 a7 t7 b7 (mixR t p.2 q.2)) : Does Tryz.prog 91 [ppv s1 a1 t1 b1 s2 a2 t2 b2, ppv s3 a3 t3 b3 s4 a4 t4 b4, rpv s5 a5 t5 b5] (prs s6 a6 t6 b6 s7 a7 t7 b7) [] := by
  refine does_of hT hM Tryz.func91 rfl (D := []) (by kernel_rfl) rfl rfl rfl (fun A K hA hK => ?_)
  have d1 := d_spec_l12Mix1 h1 h3 h5 hp.1 hq.1 ht hb h6
  have d2 := d_spec_l12Mix1 h2 h4 h5 hp.2 hq.2 ht hb h7
  clear h1 h2 h3 h4 h5 h6 h7 hp hq ht
  cbv
  repeat' (first
    | (refine Ar.notT_ hA ?_; cbv)
    | (refine Ar.notF_ hA ?_; cbv)
    | (refine Ar.call_ hA c_spec_l12Mix1 d1 rfl ?_; cbv)
    | (refine Ar.call_ hA c_spec_l12Mix1 d2 rfl ?_; cbv))
  exact hK _ _ rfl rfl

theorem c_impl_isShare : Callable Tryz.prog 53 := ⟨_, Tryz.func53, rfl, by kernel_rfl⟩
theorem d_impl_isShare {s t : Bool} {a b : List PV} {l m : List Int} (ha : a = l.map i64) (hb : b = m.map i64) (hl : lenOk ((s, l), (t, m))) : Does Tryz.prog 53 [.agg [bl s, .sl a, bl t, .sl b]] (.pv (bl (goodR ((s, l), (t, m)) && shortR 2 ((s, l), (t, m))))) [] := by
  refine does_of hT hM Tryz.func53 rfl (D := []) (by kernel_rfl) rfl rfl rfl (fun A K hA hK => ?_)
  have d1 := d_impl_GoodRat (s := s) (t := t) ha hb hl.1 hl.2
  have d2 := d_impl_Rat_isShort (s := s) (t := t) (n := 2) (k := 2) ha hb rfl hl.1 hl.2
  generalize goodR ((s, l), (t, m)) = G at *
  generalize shortR 2 ((s, l), (t, m)) = S at *
  clear ha hb hl
  cbv
  refine Ar.callT hA c_impl_GoodRat d1 rfl (fun h1 => ?_) (fun h1 => ?_)
  · cbv
    refine Ar.call_ hA c_impl_Rat_isShort d2 rfl ?_
    cbv
    exact hK _ _ (by rw [h1]; rfl) rfl
  · cbv
    exact hK _ _ (by rw [h1]; rfl) rfl

/-! ### Read only -/

theorem wk_impl_whole {n : Int} {g h : Bool} {c d : List PV} (hn : -9223372036854775808 ≤ n ∧ n ≤ 9223372036854775807) (hr : RatP g c h d (n : Rat)) : Does Tryz.prog 58 [i64 n] (.pv (rpv g c h d)) [] := (d_impl_whole hn hr).wk

theorem wk_impl_Rat_add {s t s2 t2 g h : Bool} {a b c d n m : List PV} {p q : Rat} {k l : Nat} (hp : RatP s a t b p) (hq : RatP s2 c t2 d q) (hk : Sz k p) (hl : Sz l q) (hb : k + l ≤ 90000) (hr : RatP g n h m (p + q)) : Does Tryz.prog 59 [rpv s a t b, rpv s2 c t2 d] (.pv (rpv g n h m)) [] := (d_impl_Rat_add hp hq hk hl hb hr).wk

theorem wk_impl_Rat_sub {s t s2 t2 g h : Bool} {a b c d n m : List PV} {p q : Rat} {k l : Nat} (hp : RatP s a t b p) (hq : RatP s2 c t2 d q) (hk : Sz k p) (hl : Sz l q) (hb : k + l ≤ 90000) (hr : RatP g n h m (p - q)) : Does Tryz.prog 85 [rpv s a t b, rpv s2 c t2 d] (.pv (rpv g n h m)) [] := (d_impl_Rat_sub hp hq hk hl hb hr).wk

theorem wk_impl_Rat_mul {s t s2 t2 g h : Bool} {a b c d n m : List PV} {p q : Rat} {k l : Nat} (hp : RatP s a t b p) (hq : RatP s2 c t2 d q) (hk : Sz k p) (hl : Sz l q) (hb : k + l ≤ 90000) (hr : RatP g n h m (p * q)) : Does Tryz.prog 60 [rpv s a t b, rpv s2 c t2 d] (.pv (rpv g n h m)) [] := (d_impl_Rat_mul hp hq hk hl hb hr).wk

theorem wk_impl_Rat_div {s t s2 t2 g h : Bool} {a b c d n m : List PV} {p q : Rat} {k l : Nat} (hp : RatP s a t b p) (hq : RatP s2 c t2 d q) (hk : Sz k p) (hl : Sz l q) (hb : k + l ≤ 90000) (h0 : q ≠ 0) (hr : RatP g n h m (p / q)) : Does Tryz.prog 61 [rpv s a t b, rpv s2 c t2 d] (.pv (rpv g n h m)) [] := (d_impl_Rat_div hp hq hk hl hb h0 hr).wk

theorem wk_spec_l2Int {n : Int} {g h : Bool} {c d : List PV} (hn : -9223372036854775808 ≤ n ∧ n ≤ 9223372036854775807) (hr : RatP g c h d (n : Rat)) : Does Tryz.prog 76 [i64 n] (.pv (rpv g c h d)) [] := (d_spec_l2Int hn hr).wk

theorem wk_spec_l2Add {s t s2 t2 g h : Bool} {a b c d n m : List PV} {p q : Rat} {k l : Nat} (hp : RatP s a t b p) (hq : RatP s2 c t2 d q) (hk : Sz k p) (hl : Sz l q) (hb : k + l ≤ 90000) (hr : RatP g n h m (p + q)) : Does Tryz.prog 77 [rpv s a t b, rpv s2 c t2 d] (.pv (rpv g n h m)) [] := (d_spec_l2Add hp hq hk hl hb hr).wk

theorem wk_spec_l2Sub {s t s2 t2 g h : Bool} {a b c d n m : List PV} {p q : Rat} {k l : Nat} (hp : RatP s a t b p) (hq : RatP s2 c t2 d q) (hk : Sz k p) (hl : Sz l q) (hb : k + l ≤ 90000) (hr : RatP g n h m (p - q)) : Does Tryz.prog 78 [rpv s a t b, rpv s2 c t2 d] (.pv (rpv g n h m)) [] := (d_spec_l2Sub hp hq hk hl hb hr).wk

theorem wk_spec_l2Mul {s t s2 t2 g h : Bool} {a b c d n m : List PV} {p q : Rat} {k l : Nat} (hp : RatP s a t b p) (hq : RatP s2 c t2 d q) (hk : Sz k p) (hl : Sz l q) (hb : k + l ≤ 90000) (hr : RatP g n h m (p * q)) : Does Tryz.prog 79 [rpv s a t b, rpv s2 c t2 d] (.pv (rpv g n h m)) [] := (d_spec_l2Mul hp hq hk hl hb hr).wk

theorem wk_spec_l2Div {s t s2 t2 g h : Bool} {a b c d n m : List PV} {p q : Rat} {k l : Nat} (hp : RatP s a t b p) (hq : RatP s2 c t2 d q) (hk : Sz k p) (hl : Sz l q) (hb : k + l ≤ 90000) (h0 : q ≠ 0) (hr : RatP g n h m (p / q)) : Does Tryz.prog 80 [rpv s a t b, rpv s2 c t2 d] (.pv (rpv g n h m)) [] := (d_spec_l2Div hp hq hk hl hb h0 hr).wk

theorem wk_spec_l2Make {s t g h : Bool} {a b n d : List PV} {x y : Int} (ha : Big s a x) (hb : Big t b y) (hy : y ≠ 0) (hl : a.length ≤ 100000 ∧ b.length ≤ 100000) (hr : RatP g n h d (Rat.divInt x y)) : Does Tryz.prog 97 [.agg [bl s, .sl a], .agg [bl t, .sl b]] (.pv (rpv g n h d)) [] := (d_spec_l2Make ha hb hy hl hr).wk

end Go.VAI
