/- Plane geometry of simple closed ways: each turns one way, each has an ear. -/
import Derived.Test.YtjkcnepcppljpaaAA
namespace Go.VAI
namespace Geo

/-! ### Segments have a point in common -/

/-- p is on the segment a b. -/
def OnS (a b p : P2) : Prop := ∃ l m : Int, 0 ≤ l ∧ 0 ≤ m ∧ 0 < l + m ∧ l * a.x + m * b.x = (l + m) * p.x ∧ l * a.y + m * b.y = (l + m) * p.y
/-- The segments a b and c d have a point in common. -/
def Meets (a b c d : P2) : Prop := ∃ l m r t : Int, 0 ≤ l ∧ 0 ≤ m ∧ 0 ≤ r ∧ 0 ≤ t ∧ 0 < l + m ∧ l + m = r + t ∧ l * a.x + m * b.x = r * c.x + t * d.x ∧ l * a.y + m * b.y = r * c.y + t * d.y

theorem mix_pos {l m u v : Int} (hl : 0 ≤ l) (hm : 0 ≤ m) (h : 0 < l + m) (hu : 0 < u) (hv : 0 < v) : 0 < l * u + m * v := by
  have h1 := Int.mul_nonneg hl (Int.le_of_lt hu)
  have h2 := Int.mul_nonneg hm (Int.le_of_lt hv)
  by_cases e : l = 0
  · have : 0 < m := by omega
    have := Int.mul_pos this hv
    omega
  · have : 0 < l := by omega
    have := Int.mul_pos this hu
    omega
theorem mix_nn {l m u v : Int} (hl : 0 ≤ l) (hm : 0 ≤ m) (hu : 0 ≤ u) (hv : 0 ≤ v) : 0 ≤ l * u + m * v := by
  have h1 := Int.mul_nonneg hl hu
  have h2 := Int.mul_nonneg hm hv
  omega
theorem pos_of_mul {n u : Int} (hn : 0 < n) (h : n * u = 0) : u = 0 := by
  rcases Int.mul_eq_zero.1 h with e | e
  · omega
  · exact e

/-- A weighted mean lies between. -/
theorem between {l m a b p : Int} (hl : 0 ≤ l) (hm : 0 ≤ m) (h : 0 < l + m) (e : l * a + m * b = (l + m) * p) : min a b ≤ p ∧ p ≤ max a b := by
  constructor
  · rcases (show p < min a b ∨ min a b ≤ p by omega) with hp | hp
    · have := mix_pos (u := a - p) (v := b - p) hl hm h (by omega) (by omega)
      have e2 : l * (a - p) + m * (b - p) = 0 := by grind
      omega
    · exact hp
  · rcases (show max a b < p ∨ p ≤ max a b by omega) with hp | hp
    · have := mix_pos (u := p - a) (v := p - b) hl hm h (by omega) (by omega)
      have e2 : l * (p - a) + m * (p - b) = 0 := by grind
      omega
    · exact hp

theorem sgn_zero {n : Int} : sgn n = 0 ↔ n = 0 := by unfold sgn; split <;> (try split) <;> omega
theorem onSeg_def {a b p : P2} : onSeg a b p = true ↔ cross a b p = 0 ∧ (min a.x b.x ≤ p.x ∧ p.x ≤ max a.x b.x) ∧ (min a.y b.y ≤ p.y ∧ p.y ≤ max a.y b.y) := by
  unfold onSeg btw
  simp only [Bool.and_eq_true, beq_iff_eq, decide_eq_true_eq, sgn_zero, and_assoc]

theorem onSeg_iff {a b p : P2} : onSeg a b p = true ↔ OnS a b p := by
  rw [onSeg_def]
  constructor
  · rintro ⟨h1, ⟨h2, h3⟩, h4, h5⟩
    unfold cross at h1
    rcases Int.lt_trichotomy a.x b.x with e | e | e
    · exact ⟨b.x - p.x, p.x - a.x, by omega, by omega, by omega, by grind, by grind⟩
    · rcases Int.lt_trichotomy a.y b.y with f | f | f
      · exact ⟨b.y - p.y, p.y - a.y, by omega, by omega, by omega, by grind, by grind⟩
      · exact ⟨1, 0, by omega, by omega, by omega, by omega, by omega⟩
      · exact ⟨p.y - b.y, a.y - p.y, by omega, by omega, by omega, by grind, by grind⟩
    · exact ⟨p.x - b.x, a.x - p.x, by omega, by omega, by omega, by grind, by grind⟩
  · rintro ⟨l, m, hl, hm, h, hx, hy⟩
    refine ⟨pos_of_mul h ?_, between hl hm h hx, between hl hm h hy⟩
    unfold cross
    grind

theorem cross_swap (a b c d : P2) : cross a b c - cross a b d = cross c d b - cross c d a := by unfold cross; grind

theorem opp_iff {u v : Int} : sgn u * sgn v < 0 ↔ u < 0 ∧ 0 < v ∨ 0 < u ∧ v < 0 := by
  unfold sgn
  split <;> split <;> (try split) <;> (try split) <;> simp <;> omega

theorem meets_of_test {a b c d : P2} (h : meetF a b c d = true) : Meets a b c d := by
  unfold meetF at h
  simp only [Bool.or_eq_true, Bool.and_eq_true, decide_eq_true_eq] at h
  rcases h with (((h | h) | h) | h) | ⟨h1, h2⟩
  · obtain ⟨l, m, hl, hm, h0, hx, hy⟩ := onSeg_iff.1 h
    exact ⟨l, m, l + m, 0, hl, hm, by omega, by omega, h0, by omega, by grind, by grind⟩
  · obtain ⟨l, m, hl, hm, h0, hx, hy⟩ := onSeg_iff.1 h
    exact ⟨l, m, 0, l + m, hl, hm, by omega, by omega, h0, by omega, by grind, by grind⟩
  · obtain ⟨l, m, hl, hm, h0, hx, hy⟩ := onSeg_iff.1 h
    exact ⟨l + m, 0, l, m, by omega, by omega, hl, hm, by omega, by omega, by grind, by grind⟩
  · obtain ⟨l, m, hl, hm, h0, hx, hy⟩ := onSeg_iff.1 h
    exact ⟨0, l + m, l, m, by omega, by omega, hl, hm, by omega, by omega, by grind, by grind⟩
  · rw [opp_iff] at h1 h2
    have key := cross_swap a b c d
    obtain ⟨o1, e1⟩ : ∃ o, o = cross a b c := ⟨_, rfl⟩
    obtain ⟨o2, e2⟩ : ∃ o, o = cross a b d := ⟨_, rfl⟩
    obtain ⟨o3, e3⟩ : ∃ o, o = cross c d a := ⟨_, rfl⟩
    obtain ⟨o4, e4⟩ : ∃ o, o = cross c d b := ⟨_, rfl⟩
    rw [← e1, ← e2] at h1 key
    rw [← e3, ← e4] at h2 key
    unfold cross at e1 e2 e3 e4
    rcases h1 with ⟨p1, p2⟩ | ⟨p1, p2⟩ <;> rcases h2 with ⟨q1, q2⟩ | ⟨q1, q2⟩
    · omega
    · exact ⟨-o4, o3, o2, -o1, by omega, by omega, by omega, by omega, by omega, by omega, by grind, by grind⟩
    · exact ⟨o4, -o3, -o2, o1, by omega, by omega, by omega, by omega, by omega, by omega, by grind, by grind⟩
    · omega

/-- On a line that is not upright the abscissa tells. -/
theorem onS_of_x {a b p : P2} (hne : a.x ≠ b.x) (h : cross a b p = 0) (hx : min a.x b.x ≤ p.x ∧ p.x ≤ max a.x b.x) : OnS a b p := by
  unfold cross at h
  rcases (show a.x < b.x ∨ b.x < a.x by omega) with e | e
  · exact ⟨b.x - p.x, p.x - a.x, by omega, by omega, by omega, by grind, by grind⟩
  · exact ⟨p.x - b.x, a.x - p.x, by omega, by omega, by omega, by grind, by grind⟩

def swp (p : P2) : P2 := ⟨p.y, p.x⟩
theorem onS_swp {a b p : P2} (h : OnS (swp a) (swp b) (swp p)) : OnS a b p := by
  obtain ⟨l, m, h1, h2, h3, h4, h5⟩ := h
  exact ⟨l, m, h1, h2, h3, h5, h4⟩
theorem meets_swp {a b c d : P2} (h : Meets a b c d) : Meets (swp a) (swp b) (swp c) (swp d) := by
  obtain ⟨l, m, r, t, h1, h2, h3, h4, h5, h6, h7, h8⟩ := h
  exact ⟨l, m, r, t, h1, h2, h3, h4, h5, h6, h8, h7⟩
theorem cross_swp (a b c : P2) : cross (swp a) (swp b) (swp c) = -cross a b c := by unfold cross swp; grind
theorem swp_inj {a b : P2} (h : swp a = swp b) : a = b := by
  cases a; cases b; simp [swp] at h; simp [h]

theorem overlap {l m r t a b c d : Int} (hl : 0 ≤ l) (hm : 0 ≤ m) (hr : 0 ≤ r) (ht : 0 ≤ t) (h0 : 0 < l + m) (hs : l + m = r + t) (e : l * a + m * b = r * c + t * d) :
    (min a b ≤ c ∧ c ≤ max a b) ∨ (min a b ≤ d ∧ d ≤ max a b) ∨ (min c d ≤ a ∧ a ≤ max c d) ∨ (min c d ≤ b ∧ b ≤ max c d) := by
  have n1 : ¬ max a b < min c d := fun h => by
    have h1 := mix_nn (u := max a b - a) (v := max a b - b) hl hm (by omega) (by omega)
    have h2 := mix_pos (u := c - max a b) (v := d - max a b) hr ht (by omega) (by omega) (by omega)
    generalize max a b = M at *
    have : l * (M - a) + m * (M - b) + (r * (c - M) + t * (d - M)) = 0 := by grind
    omega
  have n2 : ¬ max c d < min a b := fun h => by
    have h1 := mix_nn (u := max c d - c) (v := max c d - d) hr ht (by omega) (by omega)
    have h2 := mix_pos (u := a - max c d) (v := b - max c d) hl hm (by omega) (by omega) (by omega)
    generalize max c d = M at *
    have : r * (M - c) + t * (M - d) + (l * (a - M) + m * (b - M)) = 0 := by grind
    omega
  omega

/-- Two segments on one line that is not upright. -/
theorem line_x {a b c d : P2} (h : Meets a b c d) (hne : a.x ≠ b.x) (hc : cross a b c = 0) (hd : cross a b d = 0) : OnS a b c ∨ OnS a b d ∨ OnS c d a ∨ OnS c d b := by
  obtain ⟨l, m, r, t, hl, hm, hr, ht, h0, hs, ex, ey⟩ := h
  by_cases hcd : c.x = d.x
  · have hcy : c.y = d.y := by
      unfold cross at hc hd
      have : (b.x - a.x) * (c.y - d.y) = 0 := by grind
      rcases Int.mul_eq_zero.1 this with e | e <;> omega
    exact .inl ⟨l, m, hl, hm, h0, by grind, by grind⟩
  · have ha : cross c d a = 0 := by
      unfold cross at hc hd ⊢
      have : (b.x - a.x) * ((d.x - c.x) * (a.y - c.y) - (d.y - c.y) * (a.x - c.x)) = 0 := by grind
      rcases Int.mul_eq_zero.1 this with e | e
      · omega
      · exact e
    have hb : cross c d b = 0 := by
      unfold cross at hc hd ⊢
      have : (b.x - a.x) * ((d.x - c.x) * (b.y - c.y) - (d.y - c.y) * (b.x - c.x)) = 0 := by grind
      rcases Int.mul_eq_zero.1 this with e | e
      · omega
      · exact e
    rcases overlap hl hm hr ht h0 hs ex with g | g | g | g
    · exact .inl (onS_of_x hne hc g)
    · exact .inr (.inl (onS_of_x hne hd g))
    · exact .inr (.inr (.inl (onS_of_x hcd ha g)))
    · exact .inr (.inr (.inr (onS_of_x hcd hb g)))

theorem line_any {a b c d : P2} (h : Meets a b c d) (hne : a ≠ b) (hc : cross a b c = 0) (hd : cross a b d = 0) : OnS a b c ∨ OnS a b d ∨ OnS c d a ∨ OnS c d b := by
  by_cases hx : a.x = b.x
  · have hy : (swp a).x ≠ (swp b).x := fun e => hne (by cases a; cases b; simp [swp] at hx e; simp [hx, e])
    have := line_x (meets_swp h) hy (by rw [cross_swp, hc]; rfl) (by rw [cross_swp, hd]; rfl)
    exact this.imp onS_swp (fun h => h.imp onS_swp (fun h => h.imp onS_swp onS_swp))
  · exact line_x h hx hc hd

theorem test_of_meets {a b c d : P2} (h : Meets a b c d) : meetF a b c d = true := by
  have four : OnS a b c ∨ OnS a b d ∨ OnS c d a ∨ OnS c d b → meetF a b c d = true := fun g => by
    unfold meetF
    rcases g with g | g | g | g <;> rw [onSeg_iff.2 g] <;> simp
  have hh := h
  obtain ⟨l, m, r, t, hl, hm, hr, ht, h0, hs, ex, ey⟩ := h
  by_cases r0 : r = 0
  · exact four (.inr (.inl ⟨l, m, hl, hm, h0, by grind, by grind⟩))
  by_cases t0 : t = 0
  · exact four (.inl ⟨l, m, hl, hm, h0, by grind, by grind⟩)
  by_cases l0 : l = 0
  · exact four (.inr (.inr (.inr ⟨r, t, hr, ht, by omega, by grind, by grind⟩)))
  by_cases m0 : m = 0
  · exact four (.inr (.inr (.inl ⟨r, t, hr, ht, by omega, by grind, by grind⟩)))
  have e1 : r * cross a b c + t * cross a b d = 0 := by unfold cross; grind
  have e2 : l * cross c d a + m * cross c d b = 0 := by unfold cross; grind
  by_cases o1 : cross a b c = 0
  · have o2 : cross a b d = 0 := by
      rw [o1, Int.mul_zero, Int.zero_add] at e1
      exact pos_of_mul (by omega) e1
    by_cases hab : a = b
    · subst hab
      exact four (.inr (.inr (.inl ⟨r, t, hr, ht, by omega, by grind, by grind⟩)))
    · exact four (line_any hh hab o1 o2)
  · have key := cross_swap a b c d
    have opp : ∀ {u v x y : Int}, 0 < x → 0 < y → x * u + y * v = 0 → u ≠ 0 → (u < 0 ∧ 0 < v ∨ 0 < u ∧ v < 0) := by
      intro u v x y hx hy e hu
      rcases (show u < 0 ∨ 0 < u by omega) with g | g
      · have := Int.mul_pos hx (show 0 < -u by omega)
        have h2 : 0 < y * v := by grind
        refine .inl ⟨g, ?_⟩
        rcases (show v ≤ 0 ∨ 0 < v by omega) with q | q
        · have := Int.mul_nonneg (show 0 ≤ y by omega) (show 0 ≤ -v by omega)
          have : y * -v = -(y * v) := by grind
          omega
        · exact q
      · have := Int.mul_pos hx g
        have h2 : y * v < 0 := by omega
        refine .inr ⟨g, ?_⟩
        rcases (show 0 ≤ v ∨ v < 0 by omega) with q | q
        · have := Int.mul_nonneg (show 0 ≤ y by omega) q
          omega
        · exact q
    have p1 := opp (by omega) (by omega) e1 o1
    have o3 : cross c d a ≠ 0 := fun e => by
      rw [e, Int.mul_zero, Int.zero_add] at e2
      have := pos_of_mul (by omega) e2
      omega
    have p2 := opp (by omega) (by omega) e2 o3
    unfold meetF
    rw [decide_eq_true (opp_iff.2 p1), decide_eq_true (opp_iff.2 p2)]
    simp

theorem meets_iff {a b c d : P2} : meetF a b c d = true ↔ Meets a b c d := ⟨meets_of_test, test_of_meets⟩

/-! ### The triangle u v w -/

theorem nn_of_mul {l x : Int} (hl : 0 < l) (h : 0 ≤ l * x) : 0 ≤ x := by
  rcases (show x < 0 ∨ 0 ≤ x by omega) with g | g
  · have := Int.mul_pos hl (show 0 < -x by omega)
    have e : l * -x = -(l * x) := by grind
    omega
  · exact g
theorem pos_of_mul' {l x : Int} (hl : 0 < l) (h : 0 < l * x) : 0 < x := by
  rcases (show x ≤ 0 ∨ 0 < x by omega) with g | g
  · have := Int.mul_nonneg (Int.le_of_lt hl) (show 0 ≤ -x by omega)
    have e : l * -x = -(l * x) := by grind
    omega
  · exact g

theorem Meets.swapL {a b c d : P2} (h : Meets a b c d) : Meets b a c d := by
  obtain ⟨l, m, r, t, h1, h2, h3, h4, h5, h6, h7, h8⟩ := h
  exact ⟨m, l, r, t, h2, h1, h3, h4, by omega, by omega, by omega, by omega⟩
theorem Meets.swapR {a b c d : P2} (h : Meets a b c d) : Meets a b d c := by
  obtain ⟨l, m, r, t, h1, h2, h3, h4, h5, h6, h7, h8⟩ := h
  exact ⟨l, m, t, r, h1, h2, h4, h3, by omega, by omega, by omega, by omega⟩
theorem Meets.symm {a b c d : P2} (h : Meets a b c d) : Meets c d a b := by
  obtain ⟨l, m, r, t, h1, h2, h3, h4, h5, h6, h7, h8⟩ := h
  exact ⟨r, t, l, m, h3, h4, h1, h2, by omega, by omega, by omega, by omega⟩
theorem OnS.swap {a b p : P2} (h : OnS a b p) : OnS b a p := by
  obtain ⟨l, m, h1, h2, h3, h4, h5⟩ := h
  exact ⟨m, l, h2, h1, by omega, by grind, by grind⟩
theorem OnS.left {a b : P2} : OnS a b a := ⟨1, 0, by omega, by omega, by omega, by omega, by omega⟩
theorem OnS.right {a b : P2} : OnS a b b := ⟨0, 1, by omega, by omega, by omega, by omega, by omega⟩
theorem OnS.eq {a p : P2} (h : OnS a a p) : p = a := by
  obtain ⟨l, m, h1, h2, h3, h4, h5⟩ := h
  have e1 : p.x - a.x = 0 := pos_of_mul h3 (by grind)
  have e2 : p.y - a.y = 0 := pos_of_mul h3 (by grind)
  cases a; cases p; simp at e1 e2 ⊢; omega
/-- A point that lies on both. -/
theorem meets_of_on {a b c d p : P2} (h : OnS a b p) (g : OnS c d p) : Meets a b c d := by
  obtain ⟨l, m, h1, h2, h3, h4, h5⟩ := h
  obtain ⟨r, t, g1, g2, g3, g4, g5⟩ := g
  refine ⟨l * (r + t), m * (r + t), r * (l + m), t * (l + m), Int.mul_nonneg h1 (by omega), Int.mul_nonneg h2 (by omega), Int.mul_nonneg g1 (by omega), Int.mul_nonneg g2 (by omega), ?_, by grind, by grind, by grind⟩
  have := Int.mul_pos h3 g3
  grind

theorem cross_rot (a b c : P2) : cross b c a = cross a b c := by unfold cross; grind
theorem cross_flip (a b c : P2) : cross c b a = -cross a b c := by unfold cross; grind
theorem cross_sum (u v w x : P2) : cross v w x + cross w u x + cross u v x = cross u v w := by unfold cross; grind
theorem bary_x (u v w x : P2) : cross u v w * x.x = cross v w x * u.x + cross w u x * v.x + cross u v x * w.x := by unfold cross; grind
theorem bary_y (u v w x : P2) : cross u v w * x.y = cross v w x * u.y + cross w u x * v.y + cross u v x * w.y := by unfold cross; grind

/-- x lies in the closed triangle u v w, whose way round has the sign of s. -/
def InT (s : Int) (u v w x : P2) : Prop := 0 ≤ s * cross v w x ∧ 0 ≤ s * cross w u x ∧ 0 ≤ s * cross u v x

theorem InT.flip {s : Int} {u v w x : P2} (h : InT s u v w x) : InT (-s) w v u x := by
  unfold InT at *
  have e1 : -s * cross v u x = s * cross u v x := by unfold cross; grind
  have e2 : -s * cross u w x = s * cross w u x := by unfold cross; grind
  have e3 : -s * cross w v x = s * cross v w x := by unfold cross; grind
  rw [e1, e2, e3]
  exact ⟨h.2.2, h.2.1, h.1⟩

theorem mix_id {D c d u v w Fc Fd Gc Gd Hc Hd : Int} (xc : D * c = Fc * u + Gc * v + Hc * w) (xd : D * d = Fd * u + Gd * v + Hd * w) :
    (-Fd * Gc + Fc * Gd) * v + (-Fd * Hc + Fc * Hd) * w = D * -Fd * c + D * Fc * d := by grind
theorem mix_sum {D Fc Fd Gc Gd Hc Hd : Int} (sc : Fc + Gc + Hc = D) (sd : Fd + Gd + Hd = D) : -Fd * Gc + Fc * Gd + (-Fd * Hc + Fc * Hd) = D * -Fd + D * Fc := by grind
theorem sc3 {s a b c d : Int} (h : a + b + c = d) : s * a + s * b + s * c = s * d := by grind
theorem sc4 {s D x f u g v h w : Int} (e : D * x = f * u + g * v + h * w) : (s * D) * x = (s * f) * u + (s * g) * v + (s * h) * w := by grind

/-- An end beyond v w, on the other end's side of the rest: the line crosses v w. -/
theorem hit_vw {s l m : Int} {u v w c d : P2} (hD : 0 < s * cross u v w) (hl : 0 ≤ l) (hm : 0 ≤ m) (h0 : 0 < l + m) (hFd : s * cross v w d < 0)
    (hF : 0 ≤ l * (s * cross v w c) + m * (s * cross v w d)) (hG : 0 ≤ l * (s * cross w u c) + m * (s * cross w u d)) (hGd : 0 ≤ s * cross w u d)
    (hH : 0 ≤ -(s * cross v w d) * (s * cross u v c) + (s * cross v w c) * (s * cross u v d)) : Meets v w c d := by
  have xc := sc4 (s := s) (bary_x u v w c)
  have yc := sc4 (s := s) (bary_y u v w c)
  have xd := sc4 (s := s) (bary_x u v w d)
  have yd := sc4 (s := s) (bary_y u v w d)
  have sc := sc3 (s := s) (cross_sum u v w c)
  have sd := sc3 (s := s) (cross_sum u v w d)
  generalize s * cross u v w = D at *
  generalize s * cross v w c = Fc at *
  generalize s * cross v w d = Fd at *
  generalize s * cross w u c = Gc at *
  generalize s * cross w u d = Gd at *
  generalize s * cross u v c = Hc at *
  generalize s * cross u v d = Hd at *
  have hl0 : 0 < l := by
    rcases (show l = 0 ∨ 0 < l by omega) with g | g
    · subst g
      have := Int.mul_pos (show 0 < m by omega) (show 0 < -Fd by omega)
      have e : m * -Fd = -(m * Fd) := by grind
      omega
    · exact g
  have hFc : 0 ≤ Fc := by
    have := Int.mul_nonneg hm (show 0 ≤ -Fd by omega)
    have e : m * -Fd = -(m * Fd) := by grind
    exact nn_of_mul hl0 (by omega)
  have hGy : 0 ≤ -Fd * Gc + Fc * Gd := by
    refine nn_of_mul hl0 ?_
    have a1 := Int.mul_nonneg (show 0 ≤ -Fd by omega) hG
    have a2 := Int.mul_nonneg hGd hF
    have e : l * (-Fd * Gc + Fc * Gd) = -Fd * (l * Gc + m * Gd) + Gd * (l * Fc + m * Fd) := by grind
    omega
  refine ⟨-Fd * Gc + Fc * Gd, -Fd * Hc + Fc * Hd, D * -Fd, D * Fc, hGy, hH, Int.mul_nonneg (Int.le_of_lt hD) (by omega), Int.mul_nonneg (Int.le_of_lt hD) hFc, ?_, mix_sum sc sd, mix_id xc xd, mix_id yc yd⟩
  have := Int.mul_pos hD (show 0 < Fc - Fd by omega)
  have e := mix_sum sc sd
  have e2 : D * (Fc - Fd) = D * -Fd + D * Fc := by grind
  omega

theorem hit_uv {s l m : Int} {u v w c d : P2} (hD : 0 < s * cross u v w) (hl : 0 ≤ l) (hm : 0 ≤ m) (h0 : 0 < l + m) (hHd : s * cross u v d < 0)
    (hH : 0 ≤ l * (s * cross u v c) + m * (s * cross u v d)) (hG : 0 ≤ l * (s * cross w u c) + m * (s * cross w u d)) (hGd : 0 ≤ s * cross w u d)
    (hF : 0 ≤ -(s * cross u v d) * (s * cross v w c) + (s * cross u v c) * (s * cross v w d)) : Meets u v c d := by
  have e1 : ∀ x, -s * cross v u x = s * cross u v x := fun x => by unfold cross; grind
  have e2 : ∀ x, -s * cross u w x = s * cross w u x := fun x => by unfold cross; grind
  have e3 : ∀ x, -s * cross w v x = s * cross v w x := fun x => by unfold cross; grind
  have e4 : -s * cross w v u = s * cross u v w := by unfold cross; grind
  exact (hit_vw (s := -s) (u := w) (v := v) (w := u) (c := c) (d := d) (l := l) (m := m) (by rw [e4]; exact hD) hl hm h0 (by rw [e1]; exact hHd) (by rw [e1, e1]; exact hH) (by rw [e2, e2]; exact hG) (by rw [e2]; exact hGd) (by rw [e1, e1, e3, e3]; exact hF)).swapL

/-- A segment with a point in the triangle has an end in it that is at least as far from w u, or meets u v or v w. -/
theorem exit_aux {s l m : Int} {u v w c d : P2} (hD : 0 < s * cross u v w) (hl : 0 ≤ l) (hm : 0 ≤ m) (h0 : 0 < l + m)
    (hF : 0 ≤ l * (s * cross v w c) + m * (s * cross v w d)) (hG : 0 ≤ l * (s * cross w u c) + m * (s * cross w u d)) (hH : 0 ≤ l * (s * cross u v c) + m * (s * cross u v d))
    (hle : s * cross w u c ≤ s * cross w u d) :
    Meets u v c d ∨ Meets v w c d ∨ (InT s u v w d ∧ l * (s * cross w u c) + m * (s * cross w u d) ≤ (l + m) * (s * cross w u d)) := by
  have k1 := Int.mul_nonneg hl (show 0 ≤ s * cross w u d - s * cross w u c by omega)
  have k2 : l * (s * cross w u c) + m * (s * cross w u d) ≤ (l + m) * (s * cross w u d) := by
    have e : l * (s * cross w u d - s * cross w u c) = (l + m) * (s * cross w u d) - (l * (s * cross w u c) + m * (s * cross w u d)) := by grind
    omega
  have hGd : 0 ≤ s * cross w u d := nn_of_mul h0 (by omega)
  by_cases f : s * cross v w d < 0
  · by_cases h : s * cross u v d < 0
    · rcases (show 0 ≤ -(s * cross v w d) * (s * cross u v c) + (s * cross v w c) * (s * cross u v d) ∨ 0 ≤ -(-(s * cross v w d) * (s * cross u v c) + (s * cross v w c) * (s * cross u v d)) by omega) with g | g
      · exact .inr (.inl (hit_vw hD hl hm h0 f hF hG hGd g))
      · exact .inl (hit_uv hD hl hm h0 h hH hG hGd (by grind))
    · refine .inr (.inl (hit_vw hD hl hm h0 f hF hG hGd ?_))
      have a1 := Int.mul_nonneg (show 0 ≤ -(s * cross v w d) by omega) hH
      have a2 := Int.mul_nonneg (show 0 ≤ s * cross u v d by omega) hF
      have hl0 : 0 < l := by
        rcases (show l = 0 ∨ 0 < l by omega) with g | g
        · subst g
          have := Int.mul_pos (show 0 < m by omega) (show 0 < -(s * cross v w d) by omega)
          have e : m * -(s * cross v w d) = -(m * (s * cross v w d)) := by grind
          omega
        · exact g
      refine nn_of_mul hl0 ?_
      generalize s * cross v w c = Fc at *
      generalize s * cross v w d = Fd at *
      generalize s * cross u v c = Hc at *
      generalize s * cross u v d = Hd at *
      have e : l * (-Fd * Hc + Fc * Hd) = -Fd * (l * Hc + m * Hd) + Hd * (l * Fc + m * Fd) := by grind
      omega
  · by_cases h : s * cross u v d < 0
    · refine .inl (hit_uv hD hl hm h0 h hH hG hGd ?_)
      have a1 := Int.mul_nonneg (show 0 ≤ -(s * cross u v d) by omega) hF
      have a2 := Int.mul_nonneg (show 0 ≤ s * cross v w d by omega) hH
      have hl0 : 0 < l := by
        rcases (show l = 0 ∨ 0 < l by omega) with g | g
        · subst g
          have := Int.mul_pos (show 0 < m by omega) (show 0 < -(s * cross u v d) by omega)
          have e : m * -(s * cross u v d) = -(m * (s * cross u v d)) := by grind
          omega
        · exact g
      refine nn_of_mul hl0 ?_
      generalize s * cross v w c = Fc at *
      generalize s * cross v w d = Fd at *
      generalize s * cross u v c = Hc at *
      generalize s * cross u v d = Hd at *
      have e : l * (-Hd * Fc + Hc * Fd) = -Hd * (l * Fc + m * Fd) + Fd * (l * Hc + m * Hd) := by grind
      omega
    · exact .inr (.inr ⟨⟨by omega, hGd, by omega⟩, k2⟩)

theorem exit {s l m : Int} {u v w c d : P2} (hD : 0 < s * cross u v w) (hl : 0 ≤ l) (hm : 0 ≤ m) (h0 : 0 < l + m)
    (hF : 0 ≤ l * (s * cross v w c) + m * (s * cross v w d)) (hG : 0 ≤ l * (s * cross w u c) + m * (s * cross w u d)) (hH : 0 ≤ l * (s * cross u v c) + m * (s * cross u v d)) :
    Meets u v c d ∨ Meets v w c d ∨ (InT s u v w c ∧ l * (s * cross w u c) + m * (s * cross w u d) ≤ (l + m) * (s * cross w u c)) ∨ (InT s u v w d ∧ l * (s * cross w u c) + m * (s * cross w u d) ≤ (l + m) * (s * cross w u d)) := by
  rcases (show s * cross w u c ≤ s * cross w u d ∨ s * cross w u d ≤ s * cross w u c by omega) with g | g
  · rcases exit_aux hD hl hm h0 hF hG hH g with h | h | h
    · exact .inl h
    · exact .inr (.inl h)
    · exact .inr (.inr (.inr h))
  · rcases exit_aux (c := d) (d := c) hD hm hl (by omega) (by omega) (by omega) (by omega) g with h | h | ⟨h, h'⟩
    · exact .inl h.swapR
    · exact .inr (.inl h.swapR)
    · exact .inr (.inr (.inl ⟨h, by rw [Int.add_comm l m]; omega⟩))

/-- The same from w itself. -/
theorem exit_w {s l m : Int} {u v w x : P2} (hD : 0 < s * cross u v w) (hl : 0 ≤ l) (hm : 0 < m)
    (hF : 0 ≤ m * (s * cross v w x)) (hG : 0 ≤ m * (s * cross w u x)) (hH : 0 ≤ l * (s * cross u v w) + m * (s * cross u v x)) :
    Meets u v w x ∨ InT s u v w x := by
  have f := nn_of_mul hm hF
  have g := nn_of_mul hm hG
  by_cases h : s * cross u v x < 0
  · have e1 : cross v w w = 0 := by unfold cross; grind
    have e2 : cross w u w = 0 := by unfold cross; grind
    refine .inl (hit_uv (l := l) (m := m) hD hl (by omega) (by omega) h hH (by rw [e2]; omega) g ?_)
    rw [e1]
    have := Int.mul_nonneg (Int.le_of_lt hD) f
    omega
  · exact .inr ⟨f, g, by omega⟩
theorem exit_u {s l m : Int} {u v w x : P2} (hD : 0 < s * cross u v w) (hl : 0 ≤ l) (hm : 0 < m)
    (hF : 0 ≤ l * (s * cross u v w) + m * (s * cross v w x)) (hG : 0 ≤ m * (s * cross w u x)) (hH : 0 ≤ m * (s * cross u v x)) :
    Meets v w u x ∨ InT s u v w x := by
  have e1 : ∀ x, -s * cross v u x = s * cross u v x := fun x => by unfold cross; grind
  have e2 : ∀ x, -s * cross u w x = s * cross w u x := fun x => by unfold cross; grind
  have e3 : ∀ x, -s * cross w v x = s * cross v w x := fun x => by unfold cross; grind
  have e4 : -s * cross w v u = s * cross u v w := by unfold cross; grind
  rcases exit_w (s := -s) (u := w) (v := v) (w := u) (x := x) (l := l) (m := m) (by rw [e4]; exact hD) hl hm (by rw [e1]; exact hH) (by rw [e2]; exact hG) (by rw [e4, e3]; exact hF) with h | h
  · exact .inl h.swapL
  · have := h.flip
    rw [Int.neg_neg] at this
    exact .inr this

/-! ### Closed ways as functions that repeat -/

structure Simple (n : Nat) (p : Nat → P2) : Prop where
  n3 : 3 ≤ n
  per : ∀ i, p (i + n) = p i
  back : ∀ i, i < n → ¬ OnS (p i) (p (i + 1)) (p (i + 2))
  fwd : ∀ i, i < n → ¬ OnS (p (i + 1)) (p (i + 2)) (p i)
  apart : ∀ i j, i + 2 ≤ j → j < n → j + 2 ≤ i + n → ¬ Meets (p i) (p (i + 1)) (p j) (p (j + 1))

theorem per_mul {n : Nat} {p : Nat → P2} (h : ∀ i, p (i + n) = p i) (i k : Nat) : p (i + n * k) = p i := by
  induction k with
  | zero => rfl
  | succ k ih => rw [Nat.mul_succ, ← Nat.add_assoc, h, ih]
theorem per_mod {n : Nat} {p : Nat → P2} (h : ∀ i, p (i + n) = p i) (i : Nat) : p (i % n) = p i := by
  have := per_mul h (i % n) (i / n)
  rw [Nat.mod_add_div] at this
  exact this.symm

namespace Simple
variable {n : Nat} {p : Nat → P2}

theorem back' (h : Simple n p) (i : Nat) : ¬ OnS (p i) (p (i + 1)) (p (i + 2)) := by
  have := h.back (i % n) (Nat.mod_lt _ (by have := h.n3; omega))
  have e : ∀ k, p (i % n + k) = p (i + k) := fun k => by rw [← per_mod h.per (i + k), ← per_mod h.per (i % n + k), Nat.mod_add_mod]
  rw [e 1, e 2, per_mod h.per] at this
  exact this
theorem fwd' (h : Simple n p) (i : Nat) : ¬ OnS (p (i + 1)) (p (i + 2)) (p i) := by
  have := h.fwd (i % n) (Nat.mod_lt _ (by have := h.n3; omega))
  have e : ∀ k, p (i % n + k) = p (i + k) := fun k => by rw [← per_mod h.per (i + k), ← per_mod h.per (i % n + k), Nat.mod_add_mod]
  rw [e 1, e 2, per_mod h.per] at this
  exact this
theorem apart' (h : Simple n p) (i j : Nat) (h1 : i + 2 ≤ j) (h2 : j + 2 ≤ i + n) : ¬ Meets (p i) (p (i + 1)) (p j) (p (j + 1)) := by
  have hn : 0 < n := by have := h.n3; omega
  have e : ∀ i k, p (i % n + k) = p (i + k) := fun i k => by rw [← per_mod h.per (i + k), ← per_mod h.per (i % n + k), Nat.mod_add_mod]
  obtain ⟨a, ha⟩ : ∃ a, a = i % n := ⟨_, rfl⟩
  have hi : i = a + n * (i / n) := by rw [ha, Nat.mod_add_div]
  generalize i / n = q at hi
  have ha2 : a < n := by rw [ha]; exact Nat.mod_lt _ hn
  clear ha
  obtain ⟨b, hb⟩ : ∃ b, j = b + n * q := ⟨j - n * q, by omega⟩
  subst hi hb
  have e2 : ∀ k, p (k + n * q + 1) = p (k + 1) := fun k => by rw [show k + n * q + 1 = k + 1 + n * q by omega, per_mul h.per]
  rw [per_mul h.per, per_mul h.per, e2, e2]
  by_cases hb : b < n
  · exact h.apart a b (by omega) hb (by omega)
  · obtain ⟨c, rfl⟩ : ∃ c, b = c + n := ⟨b - n, by omega⟩
    rw [h.per, show c + n + 1 = c + 1 + n by omega, h.per]
    intro hm
    exact h.apart c a (by omega) (by omega) (by omega) hm.symm

theorem shift (h : Simple n p) (t : Nat) : Simple n (fun i => p (i + t)) where
  n3 := h.n3
  per i := by show p (i + n + t) = p (i + t); rw [show i + n + t = i + t + n by omega, h.per]
  back i _ := by
    show ¬ OnS (p (i + t)) (p (i + 1 + t)) (p (i + 2 + t))
    rw [show i + 1 + t = i + t + 1 by omega, show i + 2 + t = i + t + 2 by omega]; exact h.back' _
  fwd i _ := by
    show ¬ OnS (p (i + 1 + t)) (p (i + 2 + t)) (p (i + t))
    rw [show i + 1 + t = i + t + 1 by omega, show i + 2 + t = i + t + 2 by omega]; exact h.fwd' _
  apart i j h1 _ h3 := by
    show ¬ Meets (p (i + t)) (p (i + 1 + t)) (p (j + t)) (p (j + 1 + t))
    rw [show i + 1 + t = i + t + 1 by omega, show j + 1 + t = j + t + 1 by omega]; exact h.apart' _ _ (by omega) (by omega)

/-- The corners differ. -/
theorem ne (h : Simple n p) {i j : Nat} (h1 : i < j) (h2 : j < i + n) : p i ≠ p j := by
  intro e
  have n3 := h.n3
  by_cases e1 : j = i + 1
  · subst e1
    exact h.fwd' i (by rw [e]; exact OnS.left)
  by_cases e2 : j + 1 = i + n
  · have := h.fwd' j
    rw [show j + 1 = i + n by omega, h.per, show j + 2 = i + 1 + n by omega, h.per, ← e] at this
    exact this OnS.left
  · exact h.apart' i j (by omega) (by omega) (meets_of_on OnS.left (by rw [e]; exact OnS.left))
end Simple

/-! ### Parts of a way -/

/-- The corners 0 .. k, closed. -/
def sub (p : Nat → P2) (k : Nat) (i : Nat) : P2 := p (i % (k + 1))
theorem sub_lt {p : Nat → P2} {k i : Nat} (h : i ≤ k) : sub p k i = p i := by unfold sub; rw [Nat.mod_eq_of_lt (by omega)]
theorem sub_per {p : Nat → P2} {k i : Nat} : sub p k (i + (k + 1)) = sub p k i := by unfold sub; rw [Nat.add_mod_right]
theorem sub_k1 {p : Nat → P2} {k : Nat} : sub p k (k + 1) = p 0 := by unfold sub; rw [Nat.mod_self]
theorem sub_k2 {p : Nat → P2} {k : Nat} (h : 1 ≤ k) : sub p k (k + 1 + 1) = p 1 := by
  rw [show k + 1 + 1 = 1 + (k + 1) by omega, sub_per, sub_lt h]

/-- The segment from corner 0 to corner k meets the way between only at its ends. -/
structure Free (p : Nat → P2) (k : Nat) : Prop where
  k2 : 2 ≤ k
  mid : ∀ j, 1 ≤ j → j + 2 ≤ k → ¬ Meets (p 0) (p k) (p j) (p (j + 1))
  a1 : ¬ OnS (p 0) (p k) (p 1)
  a2 : ¬ OnS (p 0) (p 1) (p k)
  b1 : ¬ OnS (p 0) (p k) (p (k - 1))
  b2 : ¬ OnS (p (k - 1)) (p k) (p 0)

theorem Simple.sub {n k : Nat} {p : Nat → P2} (h : Simple n p) (f : Free p k) (hk : k < n) : Simple (k + 1) (sub p k) where
  n3 := by have := f.k2; omega
  per i := sub_per
  back i hi := by
    have k2 := f.k2
    by_cases h1 : i + 2 ≤ k
    · rw [sub_lt (i := i) (by omega), sub_lt (i := i + 1) (by omega), sub_lt h1]; exact h.back' i
    · by_cases h2 : i + 1 = k
      · subst h2; rw [sub_lt (i := i) (by omega), sub_lt (i := i + 1) (by omega), show i + 2 = i + 1 + 1 by omega, sub_k1]
        exact f.b2
      · have : i = k := by omega
        subst this; rw [sub_lt (i := i) (by omega), sub_k1, sub_k2 (by omega)]
        exact fun g => f.a1 g.swap
  fwd i hi := by
    have k2 := f.k2
    by_cases h1 : i + 2 ≤ k
    · rw [sub_lt (i := i) (by omega), sub_lt (i := i + 1) (by omega), sub_lt h1]; exact h.fwd' i
    · by_cases h2 : i + 1 = k
      · subst h2; rw [sub_lt (i := i) (by omega), sub_lt (i := i + 1) (by omega), show i + 2 = i + 1 + 1 by omega, sub_k1]
        exact fun g => f.b1 g.swap
      · have : i = k := by omega
        subst this; rw [sub_lt (i := i) (by omega), sub_k1, sub_k2 (by omega)]
        exact f.a2
  apart i j h1 h2 h3 := by
    by_cases hj : j + 1 ≤ k
    · rw [sub_lt (by omega), sub_lt (by omega), sub_lt (by omega), sub_lt (by omega)]
      exact h.apart' i j h1 (by omega)
    · have : j = k := by omega
      subst this
      rw [sub_lt (i := i) (by omega), sub_lt (i := i + 1) (by omega), sub_lt (i := j) (by omega), sub_k1]
      exact fun g => f.mid i (by omega) (by omega) g.symm.swapL

/-! ### Sums round a way -/

def cyc (f : P2 → P2 → Int) (p : Nat → P2) : Nat → Int
  | 0 => 0
  | n + 1 => cyc f p n + f (p n) (p (n + 1))

theorem cyc_congr {f : P2 → P2 → Int} {p q : Nat → P2} {n : Nat} (h : ∀ i, i ≤ n → p i = q i) : cyc f p n = cyc f q n := by
  induction n with
  | zero => rfl
  | succ n ih => unfold cyc; rw [ih (fun i hi => h i (by omega)), h n (by omega), h (n + 1) (by omega)]
theorem cyc_add (f : P2 → P2 → Int) (p : Nat → P2) (a b : Nat) : cyc f p (a + b) = cyc f p a + cyc f (fun i => p (i + a)) b := by
  induction b with
  | zero => show cyc f p a = cyc f p a + 0; omega
  | succ b ih =>
    show cyc f p (a + b) + f (p (a + b)) (p (a + b + 1)) = cyc f p a + (cyc f (fun i => p (i + a)) b + f (p (b + a)) (p (b + 1 + a)))
    rw [ih, show b + 1 + a = a + b + 1 by omega, show b + a = a + b by omega]; omega
theorem cyc_sub (f : P2 → P2 → Int) (p : Nat → P2) (k : Nat) : cyc f (sub p k) (k + 1) = cyc f p k + f (p k) (p 0) := by
  show cyc f (sub p k) k + f (sub p k k) (sub p k (k + 1)) = _
  rw [cyc_congr (q := p) (fun i hi => sub_lt hi), sub_lt (Nat.le_refl k), sub_k1]

/-- A chord between corners 0 and k parts the sum. -/
theorem cyc_chord {f : P2 → P2 → Int} (hf : ∀ a b, f b a = -f a b) {p : Nat → P2} {n k : Nat} (hp : ∀ i, p (i + n) = p i) (hk : k ≤ n) :
    cyc f p n = cyc f (sub p k) (k + 1) + cyc f (sub (fun i => p (i + k)) (n - k)) (n - k + 1) := by
  rw [cyc_sub, cyc_sub]
  have e := cyc_add f p k (n - k)
  rw [show k + (n - k) = n by omega] at e
  have e0 : p n = p 0 := by have := hp 0; rwa [Nat.zero_add] at this
  have e1 : (n - k) + k = n := by omega
  simp only [e1, Nat.zero_add, e0]
  rw [e]
  have := hf (p 0) (p k)
  omega

theorem cyc_shift1 {f : P2 → P2 → Int} {p : Nat → P2} {n : Nat} (hp : ∀ i, p (i + n) = p i) : cyc f (fun i => p (i + 1)) n = cyc f p n := by
  have e1 := cyc_add f p 1 n
  have e2 := cyc_add f p n 1
  rw [show n + 1 = 1 + n by omega, e1] at e2
  have : cyc f (fun i => p (i + n)) 1 = cyc f p 1 := cyc_congr (fun i _ => hp i)
  omega
theorem cyc_shift {f : P2 → P2 → Int} {p : Nat → P2} {n : Nat} (hp : ∀ i, p (i + n) = p i) (t : Nat) : cyc f (fun i => p (i + t)) n = cyc f p n := by
  induction t with
  | zero => rfl
  | succ t ih =>
    rw [← ih]
    have := cyc_shift1 (f := f) (p := fun i => p (i + t)) (n := n) (fun i => by show p (i + n + t) = p (i + t); rw [show i + n + t = i + t + n by omega, hp])
    rw [← this]
    exact cyc_congr (fun i _ => by show p (i + (t + 1)) = p (i + 1 + t); rw [show i + (t + 1) = i + 1 + t by omega])

/-- Twice the area of the triangle to the origin. -/
def xx (a b : P2) : Int := a.x * b.y - a.y * b.x
theorem xx_anti (a b : P2) : xx b a = -xx a b := by unfold xx; grind
theorem xx_tri (a b c : P2) : xx a b + xx b c + xx c a = cross a b c := by unfold xx cross; grind

theorem cross_mix {a b c d e f : P2} {l m r t : Int} (hs : l + m = r + t) (hx : l * c.x + m * d.x = r * e.x + t * f.x) (hy : l * c.y + m * d.y = r * e.y + t * f.y) (s : Int) :
    l * (s * cross a b c) + m * (s * cross a b d) = r * (s * cross a b e) + t * (s * cross a b f) := by unfold cross; grind
theorem cross_mix1 {a b c d e : P2} {l m : Int} (hx : l * c.x + m * d.x = (l + m) * e.x) (hy : l * c.y + m * d.y = (l + m) * e.y) (s : Int) :
    l * (s * cross a b c) + m * (s * cross a b d) = (l + m) * (s * cross a b e) := by unfold cross; grind
theorem cross_aab (a b : P2) : cross a a b = 0 := by unfold cross; grind
theorem cross_aba (a b : P2) : cross a b a = 0 := by unfold cross; grind
theorem cross_abb (a b : P2) : cross a b b = 0 := by unfold cross; grind

/-- Only v is as far from w u as v. -/
theorem far_lt {s : Int} {u v w x : P2} (hD : 0 < s * cross u v w) (h : InT s u v w x) (hne : x ≠ v) : s * cross w u x < s * cross u v w := by
  obtain ⟨hF, hG, hH⟩ := h
  have sx := sc3 (s := s) (cross_sum u v w x)
  have bx := sc4 (s := s) (bary_x u v w x)
  have by' := sc4 (s := s) (bary_y u v w x)
  rcases (show s * cross w u x < s * cross u v w ∨ s * cross v w x = 0 ∧ s * cross u v x = 0 ∧ s * cross w u x = s * cross u v w by omega) with g | ⟨g1, g2, g3⟩
  · exact g
  · rw [g1, g2, g3] at bx by'
    generalize s * cross u v w = D at *
    have e1 : x.x - v.x = 0 := pos_of_mul hD (by grind)
    have e2 : x.y - v.y = 0 := pos_of_mul hD (by grind)
    exact absurd (by cases x; cases v; simp at e1 e2 ⊢; omega) hne

theorem InT.vtx_w {s : Int} {u v w : P2} (hD : 0 < s * cross u v w) : InT s u v w w := by
  unfold InT
  rw [cross_abb, cross_aba]
  omega
theorem InT.vtx_u {s : Int} {u v w : P2} (hD : 0 < s * cross u v w) : InT s u v w u := by
  unfold InT
  rw [cross_abb, cross_aba, cross_rot]
  omega

theorem Simple.off {n : Nat} {p : Nat → P2} (h : Simple n p) {j c : Nat} (h1 : j + 2 ≤ c) (h2 : c + 1 ≤ j + n) : ¬ OnS (p j) (p (j + 1)) (p c) := by
  intro g
  by_cases e : c + 2 ≤ j + n
  · exact h.apart' j c h1 e (meets_of_on g OnS.left)
  · have e : c + 1 = j + n := by omega
    have := h.fwd' c
    rw [e, show c + 2 = j + 1 + n by omega, h.per, h.per] at this
    exact this g

/-- An edge off corner 0 with a point in its triangle has an end in it that is at least as far from the base. -/
theorem edge_in {n : Nat} {p : Nat → P2} (h : Simple n p) (h4 : 4 ≤ n) {s : Int} (hD : 0 < s * cross (p (n - 1)) (p 0) (p 1)) {j : Nat} (h1 : 1 ≤ j) (h2 : j + 2 ≤ n) {l m : Int} (hl : 0 ≤ l) (hm : 0 ≤ m) (h0 : 0 < l + m)
    (hF : 0 ≤ l * (s * cross (p 0) (p 1) (p j)) + m * (s * cross (p 0) (p 1) (p (j + 1))))
    (hG : 0 ≤ l * (s * cross (p 1) (p (n - 1)) (p j)) + m * (s * cross (p 1) (p (n - 1)) (p (j + 1))))
    (hH : 0 ≤ l * (s * cross (p (n - 1)) (p 0) (p j)) + m * (s * cross (p (n - 1)) (p 0) (p (j + 1)))) :
    ∃ x, (x = j ∨ x = j + 1) ∧ InT s (p (n - 1)) (p 0) (p 1) (p x) ∧ l * (s * cross (p 1) (p (n - 1)) (p j)) + m * (s * cross (p 1) (p (n - 1)) (p (j + 1))) ≤ (l + m) * (s * cross (p 1) (p (n - 1)) (p x)) ∧ (2 ≤ x ∧ x + 2 ≤ n ∨ x = j ∧ m = 0 ∨ x = j + 1 ∧ l = 0) := by
  have pn : p n = p 0 := by have := h.per 0; rwa [Nat.zero_add] at this
  have en : p (n - 1 + 1) = p 0 := by rw [show n - 1 + 1 = n by omega, pn]
  by_cases e1 : j = 1
  · subst e1
    by_cases m0 : m = 0
    · subst m0
      exact ⟨1, .inl rfl, InT.vtx_w hD, by rw [Int.add_zero]; omega, .inr (.inl ⟨rfl, rfl⟩)⟩
    · rw [cross_abb, Int.mul_zero, Int.mul_zero, Int.zero_add] at hF
      rw [cross_aba, Int.mul_zero, Int.mul_zero, Int.zero_add] at hG
      rcases exit_w (x := p (1 + 1)) hD hl (show 0 < m by omega) hF hG hH with g | g
      · refine absurd g ?_
        have := h.apart' 1 (n - 1) (by omega) (by omega)
        rw [en] at this
        exact fun g => this g.symm
      · refine ⟨2, .inr rfl, g, ?_, .inl ⟨by omega, by omega⟩⟩
        rw [cross_aba, Int.mul_zero, Int.mul_zero, Int.zero_add]
        have := Int.mul_nonneg hl g.2.1
        rw [Int.add_mul]
        show m * (s * cross (p 1) (p (n - 1)) (p (1 + 1))) ≤ l * (s * cross (p 1) (p (n - 1)) (p (1 + 1))) + m * (s * cross (p 1) (p (n - 1)) (p (1 + 1)))
        omega
  by_cases e2 : j + 2 = n
  · have ej : j + 1 = n - 1 := by omega
    rw [ej] at hF hG hH ⊢
    by_cases l0 : l = 0
    · subst l0
      refine ⟨n - 1, .inr rfl, InT.vtx_u hD, ?_, .inr (.inr ⟨rfl, rfl⟩)⟩
      rw [Int.zero_add]; omega
    · rw [cross_aba, Int.mul_zero, Int.mul_zero, Int.add_zero] at hH
      rw [cross_abb, Int.mul_zero, Int.mul_zero, Int.add_zero] at hG
      rw [show cross (p 0) (p 1) (p (n - 1)) = cross (p (n - 1)) (p 0) (p 1) by rw [cross_rot]] at hF
      rcases exit_u (x := p j) hD hm (show 0 < l by omega) (by omega) hG hH with g | g
      · refine absurd g ?_
        have := h.apart' 0 j (by omega) (by omega)
        rw [ej] at this
        exact fun g => this g.swapR
      · refine ⟨j, .inl rfl, g, ?_, .inl ⟨by omega, by omega⟩⟩
        rw [cross_abb, Int.mul_zero, Int.mul_zero, Int.add_zero]
        have := Int.mul_nonneg hm g.2.1
        rw [Int.add_mul]
        omega
  rcases exit hD hl hm h0 hF hG hH with g | g | ⟨g, g'⟩ | ⟨g, g'⟩
  · refine absurd g ?_
    have := h.apart' j (n - 1) (by omega) (by omega)
    rw [en] at this
    exact fun g => this g.symm
  · exact absurd g (h.apart' 0 j (by omega) (by omega))
  · exact ⟨j, .inl rfl, g, g', .inl ⟨by omega, by omega⟩⟩
  · exact ⟨j + 1, .inr rfl, g, g', .inl ⟨by omega, by omega⟩⟩

section chord
variable {n : Nat} {p : Nat → P2} {s : Int} {z : Nat}

theorem far_all (hin : InT s (p (n - 1)) (p 0) (p 1) (p z))
    (hmax : ∀ j, 2 ≤ j → j + 2 ≤ n → InT s (p (n - 1)) (p 0) (p 1) (p j) → s * cross (p 1) (p (n - 1)) (p j) ≤ s * cross (p 1) (p (n - 1)) (p z))
    {x : Nat} (h1 : 1 ≤ x) (h2 : x + 1 ≤ n) (hx : InT s (p (n - 1)) (p 0) (p 1) (p x)) : s * cross (p 1) (p (n - 1)) (p x) ≤ s * cross (p 1) (p (n - 1)) (p z) := by
  have := hin.2.1
  by_cases e1 : x = 1
  · subst e1; rw [cross_aba]; omega
  by_cases e2 : x + 1 = n
  · have e2 : x = n - 1 := by omega
    subst e2; rw [cross_abb]; omega
  exact hmax x (by omega) (by omega) hx

/-- No other corner lies on the chord. -/
theorem chord_off (h : Simple n p) (hD : 0 < s * cross (p (n - 1)) (p 0) (p 1)) (hz : 2 ≤ z) (hz' : z + 2 ≤ n) (hin : InT s (p (n - 1)) (p 0) (p 1) (p z))
    (hmax : ∀ j, 2 ≤ j → j + 2 ≤ n → InT s (p (n - 1)) (p 0) (p 1) (p j) → s * cross (p 1) (p (n - 1)) (p j) ≤ s * cross (p 1) (p (n - 1)) (p z))
    {x : Nat} (h1 : 1 ≤ x) (h2 : x + 1 ≤ n) (hx : x ≠ z) : ¬ OnS (p 0) (p z) (p x) := by
  rintro ⟨l, m, hl, hm, h0, ex, ey⟩
  have f := cross_mix1 (a := p 0) (b := p 1) ex ey s
  have g := cross_mix1 (a := p 1) (b := p (n - 1)) ex ey s
  have k := cross_mix1 (a := p (n - 1)) (b := p 0) ex ey s
  rw [cross_aba, Int.mul_zero, Int.mul_zero, Int.zero_add] at f
  rw [cross_abb, Int.mul_zero, Int.mul_zero, Int.zero_add] at k
  have a1 := Int.mul_nonneg hm hin.1
  have a2 := Int.mul_nonneg hm hin.2.1
  have a3 := Int.mul_nonneg hm hin.2.2
  have a4 := Int.mul_nonneg hl (Int.le_of_lt hD)
  have rr : cross (p 1) (p (n - 1)) (p 0) = cross (p (n - 1)) (p 0) (p 1) := by rw [cross_rot, cross_rot]
  rw [rr] at g
  have xin : InT s (p (n - 1)) (p 0) (p 1) (p x) := ⟨nn_of_mul h0 (by omega), nn_of_mul h0 (by omega), nn_of_mul h0 (by omega)⟩
  have le := far_all hin hmax h1 h2 xin
  have lt := far_lt hD hin (fun e => h.ne (i := 0) (j := z) (by omega) (by omega) e.symm)
  have b1 := Int.mul_nonneg (show 0 ≤ l + m by omega) (show 0 ≤ s * cross (p 1) (p (n - 1)) (p z) - s * cross (p 1) (p (n - 1)) (p x) by omega)
  rcases (show l = 0 ∨ 0 < l by omega) with l0 | l0
  · subst l0
    have e1 : (p z).x - (p x).x = 0 := pos_of_mul (n := m) (by omega) (by grind)
    have e2 : (p z).y - (p x).y = 0 := pos_of_mul (n := m) (by omega) (by grind)
    have : p x = p z := by
      generalize p x = a at *; generalize p z = b at *; cases a; cases b; simp at e1 e2 ⊢; omega
    rcases (show x < z ∨ z < x by omega) with o | o
    · exact h.ne o (by omega) this
    · exact h.ne o (by omega) this.symm
  · have b2 := Int.mul_pos l0 (show 0 < s * cross (p (n - 1)) (p 0) (p 1) - s * cross (p 1) (p (n - 1)) (p z) by omega)
    generalize s * cross (p (n - 1)) (p 0) (p 1) = D at *
    generalize s * cross (p 1) (p (n - 1)) (p z) = Z at *
    generalize s * cross (p 1) (p (n - 1)) (p x) = X at *
    have e : l * (D - Z) = (l * D + m * Z) - (l + m) * Z := by grind
    have e' : (l + m) * (Z - X) = (l + m) * Z - (l + m) * X := by grind
    omega

/-- The chord meets no edge but those at its ends. -/
theorem chord_free (h : Simple n p) (hD : 0 < s * cross (p (n - 1)) (p 0) (p 1)) (hz : 2 ≤ z) (hz' : z + 2 ≤ n) (hin : InT s (p (n - 1)) (p 0) (p 1) (p z))
    (hmax : ∀ j, 2 ≤ j → j + 2 ≤ n → InT s (p (n - 1)) (p 0) (p 1) (p j) → s * cross (p 1) (p (n - 1)) (p j) ≤ s * cross (p 1) (p (n - 1)) (p z))
    {j : Nat} (h1 : 1 ≤ j) (h2 : j + 2 ≤ n) (n1 : j ≠ z) (n2 : j + 1 ≠ z) : ¬ Meets (p 0) (p z) (p j) (p (j + 1)) := by
  rintro ⟨r, t, l, m, hr, ht, hl, hm, h0, hs, ex, ey⟩
  have f := cross_mix (a := p 0) (b := p 1) hs ex ey s
  have g := cross_mix (a := p 1) (b := p (n - 1)) hs ex ey s
  have k := cross_mix (a := p (n - 1)) (b := p 0) hs ex ey s
  rw [cross_aba, Int.mul_zero, Int.mul_zero, Int.zero_add] at f
  rw [cross_abb, Int.mul_zero, Int.mul_zero, Int.zero_add] at k
  have a1 := Int.mul_nonneg ht hin.1
  have a2 := Int.mul_nonneg ht hin.2.1
  have a3 := Int.mul_nonneg ht hin.2.2
  have a4 := Int.mul_nonneg hr (Int.le_of_lt hD)
  have rr : cross (p 1) (p (n - 1)) (p 0) = cross (p (n - 1)) (p 0) (p 1) := by rw [cross_rot, cross_rot]
  rw [rr] at g
  obtain ⟨x, hx, xin, xle, -⟩ := edge_in h (by omega) hD h1 h2 hl hm (by omega) (by omega) (by omega) (by omega)
  have le := far_all hin hmax (x := x) (by omega) (by omega) xin
  have lt := far_lt hD hin (fun e => h.ne (i := 0) (j := z) (by omega) (by omega) e.symm)
  have b1 := Int.mul_nonneg (show 0 ≤ l + m by omega) (show 0 ≤ s * cross (p 1) (p (n - 1)) (p z) - s * cross (p 1) (p (n - 1)) (p x) by omega)
  rcases (show r = 0 ∨ 0 < r by omega) with r0 | r0
  · subst r0
    have on : OnS (p j) (p (j + 1)) (p z) := ⟨l, m, hl, hm, by omega, by rw [show l + m = t by omega]; omega, by rw [show l + m = t by omega]; omega⟩
    rcases (show j + 2 ≤ z ∨ z + 1 = j ∨ z + 2 ≤ j by omega) with o | o | o
    · exact h.off o (by omega) on
    · subst o; exact h.fwd' z on
    · have e := h.off (j := j) (c := z + n) (by omega) (by omega)
      rw [h.per] at e
      exact e on
  · have b2 := Int.mul_pos r0 (show 0 < s * cross (p (n - 1)) (p 0) (p 1) - s * cross (p 1) (p (n - 1)) (p z) by omega)
    generalize s * cross (p (n - 1)) (p 0) (p 1) = D at *
    generalize s * cross (p 1) (p (n - 1)) (p z) = Z at *
    generalize s * cross (p 1) (p (n - 1)) (p x) = X at *
    have e : r * (D - Z) = (r * D + t * Z) - (r + t) * Z := by grind
    have e' : (l + m) * (Z - X) = (l + m) * Z - (l + m) * X := by grind
    rw [← hs] at e' xle
    rw [← hs] at b1
    omega

theorem chord_left (h : Simple n p) (hD : 0 < s * cross (p (n - 1)) (p 0) (p 1)) (hz : 2 ≤ z) (hz' : z + 2 ≤ n) (hin : InT s (p (n - 1)) (p 0) (p 1) (p z))
    (hmax : ∀ j, 2 ≤ j → j + 2 ≤ n → InT s (p (n - 1)) (p 0) (p 1) (p j) → s * cross (p 1) (p (n - 1)) (p j) ≤ s * cross (p 1) (p (n - 1)) (p z)) : Free p z where
  k2 := hz
  mid j h1 h2 := chord_free h hD hz hz' hin hmax h1 (by omega) (by omega) (by omega)
  a1 := chord_off h hD hz hz' hin hmax (by omega) (by omega) (by omega)
  a2 := h.off (j := 0) (c := z) (by omega) (by omega)
  b1 := chord_off h hD hz hz' hin hmax (by omega) (by omega) (by omega)
  b2 := by
    have := h.off (j := z - 1) (c := 0 + n) (by omega) (by omega)
    rw [h.per, show z - 1 + 1 = z by omega] at this
    exact this

theorem chord_right (h : Simple n p) (hD : 0 < s * cross (p (n - 1)) (p 0) (p 1)) (hz : 2 ≤ z) (hz' : z + 2 ≤ n) (hin : InT s (p (n - 1)) (p 0) (p 1) (p z))
    (hmax : ∀ j, 2 ≤ j → j + 2 ≤ n → InT s (p (n - 1)) (p 0) (p 1) (p j) → s * cross (p 1) (p (n - 1)) (p j) ≤ s * cross (p 1) (p (n - 1)) (p z)) : Free (fun i => p (i + z)) (n - z) := by
  have pn : p n = p 0 := by have := h.per 0; rwa [Nat.zero_add] at this
  have e1 : n - z + z = n := by omega
  have e2 : n - z - 1 + z = n - 1 := by omega
  refine ⟨by omega, fun j h1 h2 => ?_, ?_, ?_, ?_, ?_⟩
  · show ¬ Meets (p (0 + z)) (p (n - z + z)) (p (j + z)) (p (j + 1 + z))
    rw [Nat.zero_add, e1, pn, show j + 1 + z = j + z + 1 by omega]
    exact fun g => chord_free h hD hz hz' hin hmax (j := j + z) (by omega) (by omega) (by omega) (by omega) g.swapL
  · show ¬ OnS (p (0 + z)) (p (n - z + z)) (p (1 + z))
    rw [Nat.zero_add, e1, pn]
    exact fun g => chord_off h hD hz hz' hin hmax (x := 1 + z) (by omega) (by omega) (by omega) g.swap
  · show ¬ OnS (p (0 + z)) (p (1 + z)) (p (n - z + z))
    rw [Nat.zero_add, e1, Nat.add_comm 1 z]
    exact h.off (by omega) (by omega)
  · show ¬ OnS (p (0 + z)) (p (n - z + z)) (p (n - z - 1 + z))
    rw [Nat.zero_add, e1, pn, e2]
    exact fun g => chord_off h hD hz hz' hin hmax (x := n - 1) (by omega) (by omega) (by omega) g.swap
  · show ¬ OnS (p (n - z - 1 + z)) (p (n - z + z)) (p (0 + z))
    rw [Nat.zero_add, e1, e2]
    have := h.off (j := n - 1) (c := z + n) (by omega) (by omega)
    rw [h.per, show n - 1 + 1 = n by omega] at this
    exact this

/-- Cutting off corner 0. -/
theorem cut_free (h : Simple n p) (h4 : 4 ≤ n) (hD : 0 < s * cross (p (n - 1)) (p 0) (p 1)) (hemp : ∀ j, 2 ≤ j → j + 2 ≤ n → ¬ InT s (p (n - 1)) (p 0) (p 1) (p j)) : Free (fun i => p (i + 1)) (n - 2) := by
  have e1 : n - 2 + 1 = n - 1 := by omega
  have e2 : n - 2 - 1 + 1 = n - 2 := by omega
  have onb : ∀ j, 2 ≤ j → j + 2 ≤ n → ¬ OnS (p 1) (p (n - 1)) (p j) := by
    rintro j h1 h2 ⟨l, m, hl, hm, h0, ex, ey⟩
    have f := cross_mix1 (a := p 0) (b := p 1) ex ey s
    have g := cross_mix1 (a := p 1) (b := p (n - 1)) ex ey s
    have k := cross_mix1 (a := p (n - 1)) (b := p 0) ex ey s
    rw [cross_abb, cross_rot (p (n - 1)) (p 0) (p 1)] at f
    rw [cross_aba, cross_abb] at g
    rw [cross_aba] at k
    have a1 := Int.mul_nonneg hl (Int.le_of_lt hD)
    have a2 := Int.mul_nonneg hm (Int.le_of_lt hD)
    rw [Int.mul_zero, Int.mul_zero] at f g k
    rw [Int.mul_zero] at g
    exact hemp j h1 h2 ⟨nn_of_mul h0 (by omega), nn_of_mul h0 (by omega), nn_of_mul h0 (by omega)⟩
  refine ⟨by omega, fun j h1 h2 => ?_, ?_, ?_, ?_, ?_⟩
  · show ¬ Meets (p (0 + 1)) (p (n - 2 + 1)) (p (j + 1)) (p (j + 1 + 1))
    rw [Nat.zero_add, e1]
    rintro ⟨r, t, l, m, hr, ht, hl, hm, h0, hs, ex, ey⟩
    have f := cross_mix (a := p 0) (b := p 1) hs ex ey s
    have g := cross_mix (a := p 1) (b := p (n - 1)) hs ex ey s
    have k := cross_mix (a := p (n - 1)) (b := p 0) hs ex ey s
    rw [cross_abb, cross_rot (p (n - 1)) (p 0) (p 1)] at f
    rw [cross_aba, cross_abb] at g
    rw [cross_aba] at k
    have a1 := Int.mul_nonneg hr (Int.le_of_lt hD)
    have a2 := Int.mul_nonneg ht (Int.le_of_lt hD)
    rw [Int.mul_zero, Int.mul_zero] at f g k
    rw [Int.mul_zero] at g
    obtain ⟨x, hx, xin, -, -⟩ := edge_in h h4 hD (j := j + 1) (by omega) (by omega) hl hm (by omega) (by omega) (by omega) (by omega)
    exact hemp x (by omega) (by omega) xin
  · show ¬ OnS (p (0 + 1)) (p (n - 2 + 1)) (p (1 + 1))
    rw [Nat.zero_add, e1]
    exact onb 2 (by omega) (by omega)
  · show ¬ OnS (p (0 + 1)) (p (1 + 1)) (p (n - 2 + 1))
    rw [Nat.zero_add, e1]
    exact h.off (j := 1) (by omega) (by omega)
  · show ¬ OnS (p (0 + 1)) (p (n - 2 + 1)) (p (n - 2 - 1 + 1))
    rw [Nat.zero_add, e1, e2]
    exact onb (n - 2) (by omega) (by omega)
  · show ¬ OnS (p (n - 2 - 1 + 1)) (p (n - 2 + 1)) (p (0 + 1))
    rw [Nat.zero_add, e2]
    have := h.off (j := n - 2) (c := 1 + n) (by omega) (by omega)
    rw [h.per] at this
    exact this
end chord

/-! ### Corners of the hull -/

def lin (a b : Int) (x : P2) : Int := a * x.x + b * x.y
/-- Corner t is the only lowest one for a linear form. -/
def HullAt (n : Nat) (p : Nat → P2) (a b : Int) (t : Nat) : Prop := ∀ j, j % n ≠ t % n → lin a b (p t) < lin a b (p j)

theorem argmin (F : Nat → Int) (n : Nat) (hn : 0 < n) : ∃ t, t < n ∧ ∀ j, j < n → F t ≤ F j := by
  induction n with
  | zero => omega
  | succ n ih =>
    by_cases e : n = 0
    · subst e; exact ⟨0, by omega, fun j hj => by rw [show j = 0 by omega]; exact Int.le_refl _⟩
    · obtain ⟨t, ht, hm⟩ := ih (by omega)
      rcases (show F t ≤ F n ∨ F n ≤ F t by omega) with g | g
      · refine ⟨t, by omega, fun j hj => ?_⟩
        by_cases ej : j = n
        · subst ej; exact g
        · exact hm j (by omega)
      · refine ⟨n, by omega, fun j hj => ?_⟩
        by_cases ej : j = n
        · subst ej; exact Int.le_refl _
        · exact Int.le_trans g (hm j (by omega))
theorem bounded (F : Nat → Int) (n : Nat) : ∃ B : Int, 0 ≤ B ∧ ∀ j, j < n → -B ≤ F j ∧ F j ≤ B := by
  induction n with
  | zero => exact ⟨0, by omega, fun j hj => by omega⟩
  | succ n ih =>
    obtain ⟨B, h0, h⟩ := ih
    refine ⟨B + (F n).natAbs, by omega, fun j hj => ?_⟩
    by_cases ej : j = n
    · subst ej; omega
    · have := h j (by omega); omega

theorem two_lin {a1 b1 a2 b2 : Int} (hd : a1 * b2 - a2 * b1 ≠ 0) {x y : P2} (h1 : lin a1 b1 x = lin a1 b1 y) (h2 : lin a2 b2 x = lin a2 b2 y) : x = y := by
  unfold lin at h1 h2
  have e1 : (a1 * b2 - a2 * b1) * (x.x - y.x) = 0 := by grind
  have e2 : (a1 * b2 - a2 * b1) * (x.y - y.y) = 0 := by grind
  have f1 := (Int.mul_eq_zero.1 e1).resolve_left hd
  have f2 := (Int.mul_eq_zero.1 e2).resolve_left hd
  cases x; cases y; simp at f1 f2 ⊢; omega

theorem lin_mix (N a1 b1 a2 b2 : Int) (x : P2) : lin (N * a1 + a2) (N * b1 + b2) x = N * lin a1 b1 x + lin a2 b2 x := by unfold lin; grind

theorem lexmin {n : Nat} {p : Nat → P2} (h : Simple n p) {a1 b1 a2 b2 : Int} (hd : a1 * b2 - a2 * b1 ≠ 0) :
    ∃ t a b, t < n ∧ (∀ j, j < n → lin a1 b1 (p t) ≤ lin a1 b1 (p j)) ∧ HullAt n p a b t := by
  have n3 := h.n3
  obtain ⟨B, hB, hb⟩ := bounded (fun j => lin a2 b2 (p j)) n
  obtain ⟨t, ht, hm⟩ := argmin (fun j => lin ((2 * B + 1) * a1 + a2) ((2 * B + 1) * b1 + b2) (p j)) n (by omega)
  refine ⟨t, (2 * B + 1) * a1 + a2, (2 * B + 1) * b1 + b2, ht, ?_, ?_⟩
  · intro j hj
    have := hm j hj
    simp only [lin_mix] at this
    have h1 := hb j hj
    have h2 := hb t ht
    generalize lin a1 b1 (p t) = T at *
    generalize lin a1 b1 (p j) = J at *
    rcases (show T ≤ J ∨ J < T by omega) with g | g
    · exact g
    · have := Int.mul_nonneg (show 0 ≤ 2 * B + 1 by omega) (show 0 ≤ T - J - 1 by omega)
      have e : (2 * B + 1) * (T - J - 1) = (2 * B + 1) * T - (2 * B + 1) * J - (2 * B + 1) := by grind
      omega
  · intro j hj
    rw [← per_mod h.per j]
    have hj2 := Nat.mod_lt j (show 0 < n by omega)
    rw [Nat.mod_eq_of_lt ht] at hj
    have h0 := hm (j % n) hj2
    generalize j % n = k at *
    rcases (show lin ((2 * B + 1) * a1 + a2) ((2 * B + 1) * b1 + b2) (p t) < lin ((2 * B + 1) * a1 + a2) ((2 * B + 1) * b1 + b2) (p k) ∨ lin ((2 * B + 1) * a1 + a2) ((2 * B + 1) * b1 + b2) (p t) = lin ((2 * B + 1) * a1 + a2) ((2 * B + 1) * b1 + b2) (p k) by omega) with g | g
    · exact g
    · exfalso
      rw [lin_mix, lin_mix] at g
      have h1 := hb k hj2
      have h2 := hb t ht
      have e1 : lin a1 b1 (p t) = lin a1 b1 (p k) := by
        generalize lin a1 b1 (p t) = T at *
        generalize lin a1 b1 (p k) = J at *
        rcases (show T = J ∨ T < J ∨ J < T by omega) with o | o | o
        · exact o
        · have := Int.mul_nonneg (show 0 ≤ 2 * B + 1 by omega) (show 0 ≤ J - T - 1 by omega)
          have e : (2 * B + 1) * (J - T - 1) = (2 * B + 1) * J - (2 * B + 1) * T - (2 * B + 1) := by grind
          omega
        · have := Int.mul_nonneg (show 0 ≤ 2 * B + 1 by omega) (show 0 ≤ T - J - 1 by omega)
          have e : (2 * B + 1) * (T - J - 1) = (2 * B + 1) * T - (2 * B + 1) * J - (2 * B + 1) := by grind
          omega
      rw [e1] at g
      have := two_lin hd e1 (by omega)
      rcases (show t < k ∨ k < t by omega) with o | o
      · exact h.ne o (by omega) this
      · exact h.ne o (by omega) this.symm

theorem prev_per {n : Nat} {p : Nat → P2} (h : Simple n p) (t : Nat) : p (t + n - 1 + 1) = p t := by
  have := h.n3
  rw [show t + n - 1 + 1 = t + n by omega, h.per]

theorem mod_ne {n t k : Nat} (h1 : 0 < k) (h2 : k < n) : (t + k) % n ≠ t % n := by
  intro e
  have a1 := Nat.mod_add_div (t + k) n
  have a2 := Nat.mod_add_div t n
  rw [e] at a1
  have : n * ((t + k) / n) = n * (t / n) + k := by omega
  have lt : t / n < (t + k) / n := by
    rcases Nat.lt_or_ge (t / n) ((t + k) / n) with g | g
    · exact g
    · have := Nat.mul_le_mul_left n g; omega
  have := Nat.mul_le_mul_left n lt
  rw [Nat.mul_succ] at this
  omega

/-- A corner of the hull is not straight. -/
theorem hull_turn {n : Nat} {p : Nat → P2} (h : Simple n p) {a b : Int} {t : Nat} (hh : HullAt n p a b t) : cross (p (t + n - 1)) (p t) (p (t + 1)) ≠ 0 := by
  have n3 := h.n3
  intro e
  have f1 := hh (t + 1) (mod_ne (by omega) (by omega))
  have f2 := hh (t + n - 1) (by rw [show t + n - 1 = t + (n - 1) by omega]; exact mod_ne (by omega) (by omega))
  have g1 := h.fwd' (t + n - 1)
  have g2 := h.back' (t + n - 1)
  rw [prev_per h, show t + n - 1 + 2 = t + 1 + n by omega, h.per] at g1 g2
  generalize p (t + n - 1) = u at *
  generalize p t = v at *
  generalize p (t + 1) = w at *
  unfold lin at f1 f2
  unfold cross at e
  rcases (show a * w.x + b * w.y ≤ a * u.x + b * u.y ∨ a * u.x + b * u.y ≤ a * w.x + b * w.y by omega) with g | g
  · refine g2 ⟨(a * w.x + b * w.y) - (a * v.x + b * v.y), (a * u.x + b * u.y) - (a * w.x + b * w.y), by omega, by omega, by omega, by grind, by grind⟩
  · refine g1 ⟨(a * w.x + b * w.y) - (a * u.x + b * u.y), (a * u.x + b * u.y) - (a * v.x + b * v.y), by omega, by omega, by omega, by grind, by grind⟩

theorem hull_some {n : Nat} {p : Nat → P2} (h : Simple n p) : ∃ t a b, t < n ∧ HullAt n p a b t := by
  obtain ⟨t, a, b, ht, -, hh⟩ := lexmin h (a1 := 1) (b1 := 0) (a2 := 0) (b2 := 1) (by omega)
  exact ⟨t, a, b, ht, hh⟩

theorem sq_pos {a b : Int} (h : ¬(a = 0 ∧ b = 0)) : 0 < a * a + b * b := by
  have h1 : ∀ x : Int, 0 ≤ x * x := fun x => by
    rcases (show 0 ≤ x ∨ 0 ≤ -x by omega) with g | g
    · exact Int.mul_nonneg g g
    · have := Int.mul_nonneg g g
      have e : -x * -x = x * x := by grind
      omega
  have h2 : ∀ x : Int, x ≠ 0 → 0 < x * x := fun x hx => by
    have := h1 x
    have : x * x ≠ 0 := fun e => by rcases Int.mul_eq_zero.1 e with g | g <;> exact hx g
    omega
  have := h1 a
  have := h1 b
  by_cases ea : a = 0
  · have := h2 b (fun e => h ⟨ea, e⟩); omega
  · have := h2 a ea; omega

/-- Not all corners are on one line. -/
theorem not_line {n : Nat} {p : Nat → P2} (h : Simple n p) {P Q : P2} (hne : P ≠ Q) : ∃ j, j < n ∧ cross P Q (p j) ≠ 0 := by
  refine Classical.byContradiction fun hno => ?_
  have all : ∀ j, cross P Q (p j) = 0 := fun j => by
    rw [← per_mod h.per j]
    exact Classical.byContradiction fun e => hno ⟨_, Nat.mod_lt _ (by have := h.n3; omega), e⟩
  obtain ⟨t, a, b, ht, hh⟩ := hull_some h
  refine hull_turn h hh ?_
  have e1 := all (t + n - 1)
  have e2 := all t
  have e3 := all (t + 1)
  generalize p (t + n - 1) = u at *
  generalize p t = v at *
  generalize p (t + 1) = w at *
  unfold cross at *
  have hs : 0 < (Q.x - P.x) * (Q.x - P.x) + (Q.y - P.y) * (Q.y - P.y) := sq_pos fun ⟨g1, g2⟩ => hne (by cases P; cases Q; simp at g1 g2 ⊢; omega)
  refine pos_of_mul hs ?_
  grind

/-- A corner of the hull that is neither a nor b. -/
theorem hull_off {n : Nat} {p : Nat → P2} (h : Simple n p) (a b : Nat) : ∃ t fa fb, t < n ∧ t % n ≠ a % n ∧ t % n ≠ b % n ∧ HullAt n p fa fb t := by
  have n3 := h.n3
  have key : ∀ a b, a < n → b < n → a ≠ b → ∃ t fa fb, t < n ∧ t ≠ a ∧ t ≠ b ∧ HullAt n p fa fb t := by
    intro a b ha hb hab
    have hne : p a ≠ p b := by
      rcases (show a < b ∨ b < a by omega) with o | o
      · exact h.ne o (by omega)
      · exact fun e => h.ne o (by omega) e.symm
    obtain ⟨j, hj, hc⟩ := not_line h hne
    have hs : 0 < ((p b).x - (p a).x) * ((p b).x - (p a).x) + ((p b).y - (p a).y) * ((p b).y - (p a).y) := sq_pos fun ⟨g1, g2⟩ => hne (by generalize p a = P at *; generalize p b = Q at *; cases P; cases Q; simp at g1 g2 ⊢; omega)
    rcases (show cross (p a) (p b) (p j) < 0 ∨ 0 < cross (p a) (p b) (p j) by omega) with o | o
    · obtain ⟨t, fa, fb, ht, hm, hh⟩ := lexmin h (a1 := -((p b).y - (p a).y)) (b1 := (p b).x - (p a).x) (a2 := (p b).x - (p a).x) (b2 := (p b).y - (p a).y) (by
        intro e
        have : -(((p b).x - (p a).x) * ((p b).x - (p a).x) + ((p b).y - (p a).y) * ((p b).y - (p a).y)) = 0 := by grind
        omega)
      have := hm j hj
      refine ⟨t, fa, fb, ht, fun e => ?_, fun e => ?_, hh⟩
      · subst e
        unfold lin cross at *
        have : ((p b).x - (p t).x) * ((p j).y - (p t).y) - ((p b).y - (p t).y) * ((p j).x - (p t).x) = (-((p b).y - (p t).y) * (p j).x + ((p b).x - (p t).x) * (p j).y) - (-((p b).y - (p t).y) * (p t).x + ((p b).x - (p t).x) * (p t).y) := by grind
        omega
      · subst e
        unfold lin cross at *
        have : ((p t).x - (p a).x) * ((p j).y - (p a).y) - ((p t).y - (p a).y) * ((p j).x - (p a).x) = (-((p t).y - (p a).y) * (p j).x + ((p t).x - (p a).x) * (p j).y) - (-((p t).y - (p a).y) * (p t).x + ((p t).x - (p a).x) * (p t).y) := by grind
        omega
    · obtain ⟨t, fa, fb, ht, hm, hh⟩ := lexmin h (a1 := (p b).y - (p a).y) (b1 := -((p b).x - (p a).x)) (a2 := (p b).x - (p a).x) (b2 := (p b).y - (p a).y) (by
        intro e
        have : (((p b).x - (p a).x) * ((p b).x - (p a).x) + ((p b).y - (p a).y) * ((p b).y - (p a).y)) = 0 := by grind
        omega)
      have := hm j hj
      refine ⟨t, fa, fb, ht, fun e => ?_, fun e => ?_, hh⟩
      · subst e
        unfold lin cross at *
        have : -(((p b).x - (p t).x) * ((p j).y - (p t).y) - ((p b).y - (p t).y) * ((p j).x - (p t).x)) = (((p b).y - (p t).y) * (p j).x + -((p b).x - (p t).x) * (p j).y) - (((p b).y - (p t).y) * (p t).x + -((p b).x - (p t).x) * (p t).y) := by grind
        omega
      · subst e
        unfold lin cross at *
        have : -(((p t).x - (p a).x) * ((p j).y - (p a).y) - ((p t).y - (p a).y) * ((p j).x - (p a).x)) = (((p t).y - (p a).y) * (p j).x + -((p t).x - (p a).x) * (p j).y) - (((p t).y - (p a).y) * (p t).x + -((p t).x - (p a).x) * (p t).y) := by grind
        omega
  have la := Nat.mod_lt a (show 0 < n by omega)
  have lb := Nat.mod_lt b (show 0 < n by omega)
  by_cases e : a % n = b % n
  · obtain ⟨t, fa, fb, h1, h2, h3, h4⟩ := key (a % n) ((a + 1) % n) la (Nat.mod_lt _ (by omega)) (fun e => mod_ne (by omega) (by omega) e.symm)
    exact ⟨t, fa, fb, h1, by rw [Nat.mod_eq_of_lt h1]; exact h2, by rw [Nat.mod_eq_of_lt h1, ← e]; exact h2, h4⟩
  · obtain ⟨t, fa, fb, h1, h2, h3, h4⟩ := key (a % n) (b % n) la lb e
    exact ⟨t, fa, fb, h1, by rw [Nat.mod_eq_of_lt h1]; exact h2, by rw [Nat.mod_eq_of_lt h1]; exact h3, h4⟩

theorem mod_cancel {n j t k : Nat} (hn : 0 < n) (h : (j + k) % n = (t + k) % n) : j % n = t % n := by
  have e : k ≤ n * k := Nat.le_mul_of_pos_left k hn
  have := congrArg (fun x => (x + (n * k - k)) % n) h
  simp only [Nat.mod_add_mod] at this
  rwa [show j + k + (n * k - k) = j + n * k by omega, show t + k + (n * k - k) = t + n * k by omega, Nat.add_mul_mod_self_left, Nat.add_mul_mod_self_left] at this

theorem HullAt.mod {n : Nat} {p : Nat → P2} (hp : ∀ i, p (i + n) = p i) {a b : Int} {t u : Nat} (h : HullAt n p a b t) (e : u % n = t % n) : HullAt n p a b u := by
  intro j hj
  have := h j (by rw [← e]; exact hj)
  rwa [← per_mod hp t, ← e, per_mod hp u] at this
theorem HullAt.shift {n : Nat} {p : Nat → P2} {a b : Int} {t k : Nat} (hn : 0 < n) (h : HullAt n p a b (t + k)) : HullAt n (fun i => p (i + k)) a b t := by
  intro j hj
  exact h (j + k) (fun e => hj (mod_cancel hn e))
theorem HullAt.sub {n : Nat} {p : Nat → P2} {a b : Int} {t k : Nat} (h : HullAt n p a b t) (ht : t ≤ k) (hk : k < n) : HullAt (k + 1) (sub p k) a b t := by
  intro j hj
  rw [sub_lt ht]
  unfold Go.VAI.Geo.sub
  have := Nat.mod_lt j (show 0 < k + 1 by omega)
  rw [Nat.mod_eq_of_lt (show t < k + 1 by omega)] at hj
  exact h _ (by rw [Nat.mod_eq_of_lt (show j % (k + 1) < n by omega), Nat.mod_eq_of_lt (show t < n by omega)]; exact hj)

theorem lin_mix3 {s : Int} {u v w x : P2} (a b : Int) : s * cross u v w * lin a b x = s * cross v w x * lin a b u + s * cross w u x * lin a b v + s * cross u v x * lin a b w := by
  unfold lin cross; grind

theorem inT_not_hull {s a b : Int} {u v w x : P2} (hD : 0 < s * cross u v w) (h : InT s u v w x) (hu : lin a b x < lin a b u) (hv : lin a b x < lin a b v) (hw : lin a b x < lin a b w) : False := by
  obtain ⟨h1, h2, h3⟩ := h
  have e := lin_mix3 (s := s) (u := u) (v := v) (w := w) (x := x) a b
  have d := sc3 (s := s) (cross_sum u v w x)
  generalize s * cross u v w = D at *
  generalize s * cross v w x = F at *
  generalize s * cross w u x = G at *
  generalize s * cross u v x = H at *
  generalize lin a b x = X at *
  generalize lin a b u = U at *
  generalize lin a b v = V at *
  generalize lin a b w = W at *
  have k1 := Int.mul_nonneg h1 (show 0 ≤ U - X - 1 by omega)
  have k2 := Int.mul_nonneg h2 (show 0 ≤ V - X - 1 by omega)
  have k3 := Int.mul_nonneg h3 (show 0 ≤ W - X - 1 by omega)
  subst d
  have e2 : F * (U - X - 1) + G * (V - X - 1) + H * (W - X - 1) = (F * U + G * V + H * W) - (F + G + H) * X - (F + G + H) := by grind
  omega

/-- Cutting b off the triangle a b c leaves the turn at a hull corner c. -/
theorem turn_kept {s la lb : Int} {a b c x : P2} (hD : 0 < s * cross a b c) (ha : lin la lb c < lin la lb a) (hb : lin la lb c < lin la lb b) (hx : lin la lb c < lin la lb x)
    (hin : ¬ InT s a b c x) (hm : ¬ Meets a b c x) (n1 : s * cross b c x ≠ 0) (n2 : s * cross c a x ≠ 0) : (s * cross b c x < 0 ↔ 0 < s * cross c a x) := by
  have e := lin_mix3 (s := s) (u := a) (v := b) (w := c) (x := x) la lb
  have d := sc3 (s := s) (cross_sum a b c x)
  have bx := sc4 (s := s) (bary_x a b c x)
  have by' := sc4 (s := s) (bary_y a b c x)
  unfold InT at hin
  generalize s * cross a b c = D at *
  generalize s * cross b c x = F at *
  generalize s * cross c a x = G at *
  generalize s * cross a b x = H at *
  have neg : ¬ (F < 0 ∧ G < 0) := fun ⟨f, g⟩ => by
    generalize lin la lb x = X at *
    generalize lin la lb a = A at *
    generalize lin la lb b = B at *
    generalize lin la lb c = C at *
    have k1 := Int.mul_pos hD (show 0 < X - C by omega)
    have k2 := Int.mul_pos (show 0 < -F by omega) (show 0 < A - C by omega)
    have k3 := Int.mul_pos (show 0 < -G by omega) (show 0 < B - C by omega)
    subst d
    have e2 : (F + G + H) * (X - C) + -F * (A - C) + -G * (B - C) = (F + G + H) * X - (F * A + G * B + H * C) := by grind
    omega
  have pos : ¬ (0 < F ∧ 0 < G) := fun ⟨f, g⟩ => by
    by_cases h : 0 ≤ H
    · exact hin ⟨by omega, by omega, h⟩
    · refine hm ⟨F, G, -H, D, by omega, by omega, by omega, by omega, by omega, by omega, ?_, ?_⟩
      · have : -H * c.x = -(H * c.x) := by grind
        omega
      · have : -H * c.y = -(H * c.y) := by grind
        omega
  omega

theorem mul_lt {s x : Int} (hs : 0 < s) : (s * x < 0 ↔ x < 0) ∧ (0 < s * x ↔ 0 < x) := by
  rcases (show x < 0 ∨ x = 0 ∨ 0 < x by omega) with h | h | h
  · have := Int.mul_pos hs (show 0 < -x by omega)
    have e : s * -x = -(s * x) := by grind
    omega
  · subst h; rw [Int.mul_zero]; omega
  · have := Int.mul_pos hs h
    omega
theorem sign_kept {s s' X Y : Int} (s0 : s ≠ 0) (hs : s' = 1 ∨ s' = -1) (hX : X ≠ 0) (kk : s * X < 0 ↔ 0 < s * Y) (key : 0 < s' * -Y) : 0 < s' * X := by
  rcases (show 0 < s ∨ 0 < -s by omega) with g | g
  · rw [(mul_lt g).1, (mul_lt g).2] at kk
    rcases hs with rfl | rfl <;> omega
  · have h1 := (mul_lt (x := X) g).2
    have h2 := (mul_lt (x := Y) g).1
    have e1 : -s * X = -(s * X) := by grind
    have e2 : -s * Y = -(s * Y) := by grind
    rw [e1] at h1
    rw [e2] at h2
    rcases hs with rfl | rfl <;> omega
theorem nz_of {s x : Int} (hs : s ≠ 0) (hx : x ≠ 0) : s * x ≠ 0 := fun e => by
  rcases Int.mul_eq_zero.1 e with g | g
  · exact hs g
  · exact hx g

theorem sgn_mul {s t x : Int} (hs : s = 1 ∨ s = -1) (ht : t = 1 ∨ t = -1) (h : 0 < s * x) (g : 0 ≤ t * x) : t = s := by
  rcases hs with rfl | rfl <;> rcases ht with rfl | rfl <;> omega

/-- A closed way turns as s: its area and each corner of its hull. -/
def Turns (n : Nat) (p : Nat → P2) (s : Int) : Prop := (s = 1 ∨ s = -1) ∧ 0 < s * cyc xx p n ∧ ∀ t a b, HullAt n p a b t → 0 < s * cross (p (t + n - 1)) (p t) (p (t + 1))

theorem Turns.at {n : Nat} {p : Nat → P2} {s : Int} (h : Turns n p s) (hp : ∀ i, p (i + n) = p i) {t : Nat} {a b : Int} (hh : HullAt n p a b (t + 1)) : 0 < s * cross (p t) (p (t + 1)) (p (t + 2)) := by
  have := h.2.2 (t + 1) a b hh
  rwa [show t + 1 + n - 1 = t + n by omega, hp] at this

theorem Turns.unshift {n k : Nat} {p : Nat → P2} {s : Int} (hn : 0 < n) (hp : ∀ i, p (i + n) = p i) (h : Turns n (fun i => p (i + k)) s) : Turns n p s := by
  refine ⟨h.1, ?_, fun t a b hh => ?_⟩
  · have := h.2.1
    rwa [cyc_shift hp] at this
  · have e : k ≤ n * k := Nat.le_mul_of_pos_left k hn
    have h1 : HullAt n (fun i => p (i + k)) a b (t + n * k - k) := by
      refine HullAt.shift hn (hh.mod hp ?_)
      rw [show t + n * k - k + k = t + n * k by omega, Nat.add_mul_mod_self_left]
    have := h.2.2 _ a b h1
    simp only at this
    rw [show t + n * k - k + n - 1 + k = t + n - 1 + n * k by omega, show t + n * k - k + k = t + n * k by omega, show t + n * k - k + 1 + k = t + 1 + n * k by omega, per_mul hp, per_mul hp, per_mul hp] at this
    exact this

/-- Both parts at a chord turn as the hull corner does. -/
theorem turns_chord {n : Nat} {p : Nat → P2} (h : Simple n p) {s : Int} (hs : s = 1 ∨ s = -1) {z : Nat} (hz : 2 ≤ z) (hz' : z + 2 ≤ n) (hin : InT s (p (n - 1)) (p 0) (p 1) (p z))
    {a b : Int} (hh : HullAt n p a b 0) {s1 s2 : Int} (t1 : Turns (z + 1) (sub p z) s1) (t2 : Turns (n - z + 1) (sub (fun i => p (i + z)) (n - z)) s2) : s1 = s ∧ s2 = s := by
  have pn : p n = p 0 := by have := h.per 0; rwa [Nat.zero_add] at this
  have h1 := t1.2.2 0 a b (hh.sub (by omega) (by omega))
  rw [show 0 + (z + 1) - 1 = z by omega, sub_lt (Nat.le_refl z), sub_lt (by omega), sub_lt (by omega), ← cross_rot (p z)] at h1
  have h2 := t2.2.2 (n - z) a b (HullAt.sub (HullAt.shift (by omega) (hh.mod h.per (by rw [show n - z + z = n by omega, Nat.mod_self, Nat.zero_mod]))) (Nat.le_refl _) (by omega))
  rw [show n - z + (n - z + 1) - 1 = n - z - 1 + (n - z + 1) by omega, sub_per, sub_k1, sub_lt (by omega), sub_lt (Nat.le_refl _)] at h2
  rw [show n - z - 1 + z = n - 1 by omega, show n - z + z = n by omega, Nat.zero_add, pn] at h2
  exact ⟨(sgn_mul t1.1 hs h1 hin.1).symm, (sgn_mul t2.1 hs h2 hin.2.2).symm⟩

theorem turns_of_parts {n : Nat} {p : Nat → P2} (h : Simple n p) {s : Int} (hs : s = 1 ∨ s = -1) (hD : 0 < s * cross (p (n - 1)) (p 0) (p 1)) {z : Nat} (hz : 2 ≤ z) (hz' : z + 2 ≤ n) (hin : InT s (p (n - 1)) (p 0) (p 1) (p z))
    (t1 : Turns (z + 1) (sub p z) s) (t2 : Turns (n - z + 1) (sub (fun i => p (i + z)) (n - z)) s) : Turns n p s := by
  have pn : p n = p 0 := by have := h.per 0; rwa [Nat.zero_add] at this
  refine ⟨hs, ?_, fun t a b hh => ?_⟩
  · rw [cyc_chord xx_anti h.per (k := z) (by omega), Int.mul_add]
    have := t1.2.1
    have := t2.2.1
    omega
  · have hlt := Nat.mod_lt t (show 0 < n by omega)
    have hh := hh.mod h.per (u := t % n) (Nat.mod_mod _ _)
    have e : ∀ k, p (t % n + k) = p (t + k) := fun k => by rw [← per_mod h.per (t + k), ← per_mod h.per (t % n + k), Nat.mod_add_mod]
    rw [show t + n - 1 = t + (n - 1) by omega, ← e (n - 1), ← e 1, ← per_mod h.per t]
    clear e
    generalize t % n = t at *
    by_cases t0 : t = 0
    · subst t0
      rw [Nat.zero_add, Nat.zero_add]; exact hD
    obtain ⟨t, rfl⟩ : ∃ u, t = u + 1 := ⟨t - 1, by omega⟩
    rw [show t + 1 + (n - 1) = t + n by omega, h.per]
    by_cases c1 : t + 1 < z
    · have := t1.at (fun i => sub_per) (hh.sub (k := z) (by omega) (by omega))
      rw [sub_lt (i := t) (by omega), sub_lt (i := t + 1) (by omega), sub_lt (by omega)] at this
      exact this
    by_cases c2 : t + 1 = z
    · exfalso
      subst c2
      refine inT_not_hull hD hin (hh _ ?_) (hh _ ?_) (hh _ ?_)
      all_goals rw [Nat.mod_eq_of_lt (by omega), Nat.mod_eq_of_lt (by omega)]; omega
    · obtain ⟨u, rfl⟩ : ∃ u, t = u + z := ⟨t - z, by omega⟩
      rw [show u + z + 1 = u + 1 + z by omega] at hh
      have := t2.at (fun i => sub_per) (HullAt.sub (k := n - z) (HullAt.shift (by omega) hh) (by omega) (by omega))
      rw [sub_lt (i := u) (by omega), sub_lt (i := u + 1) (by omega), sub_lt (by omega)] at this
      rw [show u + z + 1 = u + 1 + z by omega, show u + 1 + z + 1 = u + 2 + z by omega]
      exact this

/-- What is left when corner 0 is cut off. -/
theorem turns_cut {n : Nat} {p : Nat → P2} (h : Simple n p) (h4 : 4 ≤ n) {s : Int} (hD : 0 < s * cross (p (n - 1)) (p 0) (p 1)) (hemp : ∀ j, 2 ≤ j → j + 2 ≤ n → ¬ InT s (p (n - 1)) (p 0) (p 1) (p j))
    {s' : Int} (t1 : Turns (n - 2 + 1) (sub (fun i => p (i + 1)) (n - 2)) s') {t : Nat} {a b : Int} (ht : t % n ≠ 0) (hh : HullAt n p a b t) : 0 < s' * cross (p (t + n - 1)) (p t) (p (t + 1)) := by
  have pn : p n = p 0 := by have := h.per 0; rwa [Nat.zero_add] at this
  have hlt := Nat.mod_lt t (show 0 < n by omega)
  have hh := hh.mod h.per (u := t % n) (Nat.mod_mod _ _)
  have e : ∀ k, p (t % n + k) = p (t + k) := fun k => by rw [← per_mod h.per (t + k), ← per_mod h.per (t % n + k), Nat.mod_add_mod]
  rw [show t + n - 1 = t + (n - 1) by omega, ← e (n - 1), ← e 1, ← per_mod h.per t]
  clear e
  generalize t % n = t at *
  obtain ⟨t, rfl⟩ : ∃ u, t = u + 1 := ⟨t - 1, by omega⟩
  rw [show t + 1 + (n - 1) = t + n by omega, h.per]
  have hP := hull_turn h hh
  rw [show t + 1 + n - 1 = t + n by omega, h.per] at hP
  have hull' : HullAt (n - 2 + 1) (sub (fun i => p (i + 1)) (n - 2)) a b t := HullAt.sub (HullAt.shift (by omega) hh) (by omega) (by omega)
  have key := t1.2.2 t a b hull'
  have s0 : s ≠ 0 := fun e => by subst e; rw [Int.zero_mul] at hD; omega
  have s'1 := t1.1
  have lf : ∀ i, i < n → i ≠ t + 1 → lin a b (p (t + 1)) < lin a b (p i) := fun i hi hne => hh i (by rw [Nat.mod_eq_of_lt hi, Nat.mod_eq_of_lt hlt]; exact hne)
  by_cases c1 : t = 0
  · subst c1
    rw [show 0 + (n - 2 + 1) - 1 = n - 2 by omega, sub_lt (Nat.le_refl _), sub_lt (by omega), sub_lt (by omega)] at key
    rw [Nat.zero_add, show n - 2 + 1 = n - 1 by omega] at key
    simp only [Nat.zero_add] at lf hP ⊢
    have kk := turn_kept (a := p (n - 1)) (b := p 0) (c := p 1) (x := p 2) hD (lf _ (by omega) (by omega)) (lf _ (by omega) (by omega)) (lf _ (by omega) (by omega)) (hemp 2 (by omega) (by omega))
      (by
        have := h.apart' 1 (n - 1) (by omega) (by omega)
        rw [show n - 1 + 1 = n by omega, pn] at this
        exact fun g => this g.symm)
      (nz_of s0 hP) (nz_of s0 (fun e => by
        have : cross (p (n - 1)) (p 1) (p 2) = -cross (p 1) (p (n - 1)) (p 2) := by unfold cross; grind
        rw [this, e] at key; simp at key))
    have e1 : cross (p (n - 1)) (p 1) (p (1 + 1)) = -cross (p 1) (p (n - 1)) (p 2) := by unfold cross; grind
    rw [e1] at key
    show 0 < s' * cross (p 0) (p 1) (p 2)
    exact sign_kept s0 s'1 hP kk key
  by_cases c2 : t + 2 = n
  · have e1 : t + 1 = n - 1 := by omega
    have key := t1.2.2 t a b hull'
    rw [show t + (n - 2 + 1) - 1 = t - 1 + (n - 2 + 1) by omega, sub_per, show t + 1 = n - 2 + 1 by omega, sub_k1, sub_lt (by omega), sub_lt (by omega)] at key
    rw [show t - 1 + 1 = n - 2 by omega, e1, Nat.zero_add] at key
    rw [e1] at lf hP ⊢
    rw [show n - 1 + 1 = n by omega, pn] at hP ⊢
    rw [show t = n - 2 by omega] at hP ⊢
    have kk := turn_kept (s := -s) (a := p 1) (b := p 0) (c := p (n - 1)) (x := p (n - 2)) (by have : -s * cross (p 1) (p 0) (p (n - 1)) = s * cross (p (n - 1)) (p 0) (p 1) := by unfold cross; grind
                                                                                               omega) (lf _ (by omega) (by omega)) (lf _ (by omega) (by omega)) (lf _ (by omega) (by omega))
      (fun g => hemp (n - 2) (by omega) (by omega) (by have := g.flip; rwa [Int.neg_neg] at this))
      (by
        have := h.apart' 0 (n - 2) (by omega) (by omega)
        rw [show n - 2 + 1 = n - 1 by omega] at this
        exact fun g => this g.swapL.swapR)
      (by
        have : -s * cross (p 0) (p (n - 1)) (p (n - 2)) = s * cross (p (n - 2)) (p (n - 1)) (p 0) := by unfold cross; grind
        rw [this]; exact nz_of s0 hP)
      (by
        have : -s * cross (p (n - 1)) (p 1) (p (n - 2)) = -(s * cross (p (n - 2)) (p (n - 1)) (p 1)) := by unfold cross; grind
        rw [this]
        intro e
        refine nz_of s0 (x := cross (p (n - 2)) (p (n - 1)) (p 1)) (fun e => ?_) (by omega)
        rw [e] at key; simp at key)
    have f1 : -s * cross (p 0) (p (n - 1)) (p (n - 2)) = s * cross (p (n - 2)) (p (n - 1)) (p 0) := by unfold cross; grind
    have f2 : -s * cross (p (n - 1)) (p 1) (p (n - 2)) = -(s * cross (p (n - 2)) (p (n - 1)) (p 1)) := by unfold cross; grind
    rw [f1, f2, ← Int.mul_neg] at kk
    exact sign_kept s0 s'1 hP kk (by rw [Int.neg_neg]; exact key)
  · have := t1.at (t := t - 1) (fun i => sub_per) (by rw [show t - 1 + 1 = t by omega]; exact hull')
    rw [show t - 1 + 1 = t by omega, show t - 1 + 2 = t + 1 by omega, sub_lt (by omega), sub_lt (by omega), sub_lt (by omega)] at this
    rw [show t - 1 + 1 = t by omega] at this
    exact this

theorem argmaxP (P : Nat → Prop) (F : Nat → Int) (n : Nat) (h : ∃ j, j < n ∧ P j) : ∃ z, z < n ∧ P z ∧ ∀ j, j < n → P j → F j ≤ F z := by
  induction n with
  | zero => obtain ⟨j, hj, -⟩ := h; omega
  | succ n ih =>
    by_cases hn : ∃ j, j < n ∧ P j
    · obtain ⟨z, hz, pz, hm⟩ := ih hn
      by_cases g : P n ∧ F z < F n
      · refine ⟨n, by omega, g.1, fun j hj pj => ?_⟩
        by_cases ej : j = n
        · subst ej; exact Int.le_refl _
        · have := hm j (by omega) pj; omega
      · refine ⟨z, by omega, pz, fun j hj pj => ?_⟩
        by_cases ej : j = n
        · subst ej
          rcases (show F z < F j ∨ F j ≤ F z by omega) with o | o
          · exact absurd ⟨pj, o⟩ g
          · exact o
        · exact hm j (by omega) pj
    · obtain ⟨j, hj, pj⟩ := h
      have : j = n := by
        rcases (show j < n ∨ j = n by omega) with o | o
        · exact absurd ⟨j, o, pj⟩ hn
        · exact o
      subst this
      refine ⟨j, by omega, pj, fun i hi pi => ?_⟩
      by_cases ei : i = j
      · subst ei; exact Int.le_refl _
      · exact absurd ⟨i, by omega, pi⟩ hn

theorem cyc_cut {f : P2 → P2 → Int} (hf : ∀ a b, f b a = -f a b) {p : Nat → P2} {n : Nat} (hp : ∀ i, p (i + n) = p i) (hn : 2 ≤ n) :
    cyc f p n = cyc f (sub (fun i => p (i + 1)) (n - 2)) (n - 2 + 1) + (f (p (n - 1)) (p 0) + f (p 0) (p 1) + f (p 1) (p (n - 1))) := by
  rw [cyc_sub, ← cyc_shift1 hp]
  obtain ⟨k, rfl⟩ : ∃ k, n = k + 2 := ⟨n - 2, by omega⟩
  show cyc f (fun i => p (i + 1)) k + f (p (k + 1)) (p (k + 1 + 1)) + f (p (k + 1 + 1)) (p (k + 1 + 1 + 1)) = cyc f (fun i => p (i + 1)) k + f (p (k + 1)) (p (0 + 1)) + (f (p (k + 1)) (p 0) + f (p 0) (p 1) + f (p 1) (p (k + 1)))
  have e0 := hp 0
  have e1 := hp 1
  rw [Nat.zero_add] at e0
  rw [show 1 + (k + 2) = k + 1 + 1 + 1 by omega] at e1
  rw [show k + 1 + 1 = k + 2 by omega, e0, Nat.zero_add]
  rw [show k + 1 + 1 + 1 = k + 2 + 1 by omega] at e1
  rw [e1]
  have := hf (p 1) (p (k + 1))
  omega

theorem turns_three {p : Nat → P2} (h : Simple 3 p) : ∃ s, Turns 3 p s := by
  have p3 : p 3 = p 0 := h.per 0
  have all : ∀ t, cross (p (t + 3 - 1)) (p t) (p (t + 1)) = cross (p 0) (p 1) (p 2) := fun t => by
    have e : ∀ k, p (t + k) = p (t % 3 + k) := fun k => by rw [← per_mod h.per (t + k), ← per_mod h.per (t % 3 + k), Nat.mod_add_mod]
    rw [show t + 3 - 1 = t + 2 by omega, e 2, e 1, ← per_mod h.per t]
    have := Nat.mod_lt t (show 0 < 3 by omega)
    rcases (show t % 3 = 0 ∨ t % 3 = 1 ∨ t % 3 = 2 by omega) with g | g | g <;> rw [g]
    · exact (cross_rot _ _ _).symm
    · show cross (p 3) (p 1) (p 2) = _
      rw [p3]
    · show cross (p (1 + 3)) (p 2) (p 3) = _
      rw [h.per, p3, cross_rot]
  obtain ⟨t, a, b, -, hh⟩ := hull_some h
  have nz := hull_turn h hh
  rw [all] at nz
  have ar : cyc xx p 3 = cross (p 0) (p 1) (p 2) := by
    show 0 + xx (p 0) (p 1) + xx (p 1) (p 2) + xx (p 2) (p 3) = _
    rw [p3, ← xx_tri]; omega
  rcases (show 0 < cross (p 0) (p 1) (p 2) ∨ cross (p 0) (p 1) (p 2) < 0 by omega) with g | g
  · exact ⟨1, .inl rfl, by rw [ar]; omega, fun t _ _ _ => by rw [all]; omega⟩
  · exact ⟨-1, .inr rfl, by rw [ar]; omega, fun t _ _ _ => by rw [all]; omega⟩

theorem sign_of {x : Int} (h : x ≠ 0) : ∃ s : Int, (s = 1 ∨ s = -1) ∧ 0 < s * x := by
  rcases (show 0 < x ∨ x < 0 by omega) with g | g
  · exact ⟨1, .inl rfl, by omega⟩
  · exact ⟨-1, .inr rfl, by omega⟩

theorem HullAt.lift {n : Nat} {p : Nat → P2} (hn : 0 < n) (hp : ∀ i, p (i + n) = p i) {a b : Int} {t : Nat} (h : HullAt n p a b t) (v : Nat) :
    ∃ t', (t' + v) % n = t % n ∧ HullAt n (fun i => p (i + v)) a b t' := by
  have e : v ≤ n * v := Nat.le_mul_of_pos_left v hn
  have e2 : (t + n * v - v + v) % n = t % n := by rw [show t + n * v - v + v = t + n * v by omega, Nat.add_mul_mod_self_left]
  exact ⟨t + n * v - v, e2, HullAt.shift hn (h.mod hp e2)⟩

theorem corner_mod {n : Nat} {p : Nat → P2} (hn : 0 < n) (hp : ∀ i, p (i + n) = p i) {t u : Nat} (h : t % n = u % n) : cross (p (t + n - 1)) (p t) (p (t + 1)) = cross (p (u + n - 1)) (p u) (p (u + 1)) := by
  have e : ∀ t k, p (t + k) = p (t % n + k) := fun t k => by rw [← per_mod hp (t + k), ← per_mod hp (t % n + k), Nat.mod_add_mod]
  rw [show t + n - 1 = t + (n - 1) by omega, show u + n - 1 = u + (n - 1) by omega, e t (n - 1), e t 1, e u (n - 1), e u 1, ← per_mod hp t, ← per_mod hp u, h]

theorem cut_all {n : Nat} {p : Nat → P2} (h : Simple n p) (h4 : 4 ≤ n) {v : Nat} {s : Int} (hD : 0 < s * cross (p (v + n - 1)) (p v) (p (v + 1)))
    (hemp : ∀ j, 2 ≤ j → j + 2 ≤ n → ¬ InT s (p (v + n - 1)) (p v) (p (v + 1)) (p (j + v)))
    (ih : ∀ q, Simple (n - 2 + 1) q → ∃ s, Turns (n - 2 + 1) q s) :
    ∃ s', (s' = 1 ∨ s' = -1) ∧ 0 < s' * (cyc xx p n - cross (p (v + n - 1)) (p v) (p (v + 1))) ∧ ∀ t a b, t % n ≠ v % n → HullAt n p a b t → 0 < s' * cross (p (t + n - 1)) (p t) (p (t + 1)) := by
  have hq := h.shift v
  have eu : p (n - 1 + v) = p (v + n - 1) := by rw [show n - 1 + v = v + n - 1 by omega]
  have hD' : 0 < s * cross ((fun i => p (i + v)) (n - 1)) ((fun i => p (i + v)) 0) ((fun i => p (i + v)) 1) := by
    show 0 < s * cross (p (n - 1 + v)) (p (0 + v)) (p (1 + v))
    rw [eu, Nat.zero_add, Nat.add_comm 1 v]; exact hD
  have hemp' : ∀ j, 2 ≤ j → j + 2 ≤ n → ¬ InT s ((fun i => p (i + v)) (n - 1)) ((fun i => p (i + v)) 0) ((fun i => p (i + v)) 1) ((fun i => p (i + v)) j) := by
    show ∀ j, 2 ≤ j → j + 2 ≤ n → ¬ InT s (p (n - 1 + v)) (p (0 + v)) (p (1 + v)) (p (j + v))
    rw [eu, Nat.zero_add, Nat.add_comm 1 v]; exact hemp
  have fr := cut_free hq h4 hD' hemp'
  obtain ⟨s', t'⟩ := ih _ ((hq.shift 1).sub fr (by omega))
  refine ⟨s', t'.1, ?_, fun t a b ht hh => ?_⟩
  · have e := cyc_cut (f := xx) (p := fun i => p (i + v)) xx_anti hq.per (show 2 ≤ n by omega)
    rw [xx_tri, cyc_shift h.per] at e
    simp only [Nat.zero_add] at e
    rw [eu, Nat.add_comm 1 v] at e
    rw [e, Int.add_sub_cancel]
    exact t'.2.1
  · obtain ⟨t2, e, hh2⟩ := hh.lift (by omega) h.per v
    have := turns_cut hq h4 hD' hemp' t' (t := t2) (by
      intro e0
      have : (t2 + v) % n = v % n := by rw [← Nat.mod_add_mod, e0, Nat.zero_add]
      omega) hh2
    rw [show t2 + n - 1 + v = t2 + v + n - 1 by omega, show t2 + 1 + v = t2 + v + 1 by omega, corner_mod (by omega) h.per e] at this
    exact this

theorem turns : ∀ (n : Nat) (p : Nat → P2), Simple n p → ∃ s, Turns n p s := by
  intro n
  induction n using Nat.strongRecOn with
  | ind n ih =>
    intro p h
    have n3 := h.n3
    by_cases e3 : n = 3
    · subst e3; exact turns_three h
    by_cases hc : ∃ t a b s, (s = 1 ∨ s = -1) ∧ HullAt n p a b t ∧ 0 < s * cross (p (t + n - 1)) (p t) (p (t + 1)) ∧ ∃ j, 2 ≤ j ∧ j + 2 ≤ n ∧ InT s (p (t + n - 1)) (p t) (p (t + 1)) (p (j + t))
    · obtain ⟨t, a, b, s, hs, hh, hD, j, h1, h2, hin⟩ := hc
      have hq := h.shift t
      have eu : p (n - 1 + t) = p (t + n - 1) := by rw [show n - 1 + t = t + n - 1 by omega]
      have hD' : 0 < s * cross ((fun i => p (i + t)) (n - 1)) ((fun i => p (i + t)) 0) ((fun i => p (i + t)) 1) := by
        show 0 < s * cross (p (n - 1 + t)) (p (0 + t)) (p (1 + t))
        rw [eu, Nat.zero_add, Nat.add_comm 1 t]; exact hD
      obtain ⟨z, hz, ⟨z1, z2, zin⟩, hm⟩ := argmaxP (fun j => 2 ≤ j ∧ j + 2 ≤ n ∧ InT s ((fun i => p (i + t)) (n - 1)) ((fun i => p (i + t)) 0) ((fun i => p (i + t)) 1) ((fun i => p (i + t)) j)) (fun j => s * cross ((fun i => p (i + t)) 1) ((fun i => p (i + t)) (n - 1)) ((fun i => p (i + t)) j)) n ⟨j, by omega, h1, h2, by
        show InT s (p (n - 1 + t)) (p (0 + t)) (p (1 + t)) (p (j + t))
        rw [eu, Nat.zero_add, Nat.add_comm 1 t]; exact hin⟩
      have hmax : ∀ j, 2 ≤ j → j + 2 ≤ n → InT s ((fun i => p (i + t)) (n - 1)) ((fun i => p (i + t)) 0) ((fun i => p (i + t)) 1) ((fun i => p (i + t)) j) → s * cross ((fun i => p (i + t)) 1) ((fun i => p (i + t)) (n - 1)) ((fun i => p (i + t)) j) ≤ s * cross ((fun i => p (i + t)) 1) ((fun i => p (i + t)) (n - 1)) ((fun i => p (i + t)) z) :=
        fun j a b c => hm j (by omega) ⟨a, b, c⟩
      obtain ⟨s1, t1⟩ := ih (z + 1) (by omega) _ (hq.sub (chord_left hq hD' z1 z2 zin hmax) (by omega))
      obtain ⟨s2, t2⟩ := ih (n - z + 1) (by omega) _ ((hq.shift z).sub (chord_right hq hD' z1 z2 zin hmax) (by omega))
      obtain ⟨rfl, rfl⟩ := turns_chord hq hs z1 z2 zin (HullAt.shift (by omega) (by rw [Nat.zero_add]; exact hh)) t1 t2
      exact ⟨_, Turns.unshift (by omega) h.per (turns_of_parts hq hs hD' z1 z2 zin t1 t2)⟩
    · have cut : ∀ v a b, HullAt n p a b v → ∃ s', (s' = 1 ∨ s' = -1) ∧ 0 < s' * (cyc xx p n - cross (p (v + n - 1)) (p v) (p (v + 1))) ∧ ∀ t a b, t % n ≠ v % n → HullAt n p a b t → 0 < s' * cross (p (t + n - 1)) (p t) (p (t + 1)) := by
        intro v a b hv
        obtain ⟨s, hs, hD⟩ := sign_of (hull_turn h hv)
        exact cut_all h (by omega) hD (fun j h1 h2 hin => hc ⟨v, a, b, s, hs, hv, hD, j, h1, h2, hin⟩) (fun q hq => ih _ (by omega) q hq)
      obtain ⟨v1, a1, b1, l1, hv1⟩ := hull_some h
      obtain ⟨v2, a2, b2, l2, n21, -, hv2⟩ := hull_off h v1 v1
      obtain ⟨v3, a3, b3, l3, n31, n32, hv3⟩ := hull_off h v1 v2
      obtain ⟨s1, hs1, ar1, f1⟩ := cut v1 a1 b1 hv1
      obtain ⟨s2, hs2, ar2, f2⟩ := cut v2 a2 b2 hv2
      have e12 : s2 = s1 := by
        have k1 := f1 v3 a3 b3 n31 hv3
        have k2 := f2 v3 a3 b3 n32 hv3
        exact sgn_mul hs1 hs2 k1 (Int.le_of_lt k2)
      subst e12
      have at1 := f2 v1 a1 b1 (fun e => n21 e.symm) hv1
      refine ⟨s2, hs1, ?_, fun t a b hh => ?_⟩
      · rw [Int.mul_sub] at ar1; omega
      · by_cases e : t % n = v1 % n
        · rw [corner_mod (by omega) h.per e]; exact at1
        · exact f1 t a b e hh

/-! ### How often a way winds about a point -/

def wn (k a b : P2) : Int := if a.y ≤ k.y ∧ k.y < b.y ∧ 0 < cross a b k then 1 else if b.y ≤ k.y ∧ k.y < a.y ∧ cross a b k < 0 then -1 else 0

theorem cross_ba (a b c : P2) : cross b a c = -cross a b c := by unfold cross; grind
theorem wn_anti (k a b : P2) : wn k b a = -wn k a b := by
  unfold wn
  rw [cross_ba]
  repeat' split
  all_goals omega

/-- Two points on the two sides of a line, at heights that the segment a b takes. -/
theorem meet_line_aux {a b k e : P2} (h1 : a.y < b.y) (h2 : a.y ≤ k.y) (h3 : k.y ≤ b.y) (h4 : a.y ≤ e.y) (h5 : e.y ≤ b.y) (h6 : 0 ≤ cross a b k) (h7 : cross a b e ≤ 0) (h8 : cross a b e < cross a b k) : Meets a b k e := by
  obtain ⟨l, hl⟩ : ∃ l, l = -cross a b e := ⟨_, rfl⟩
  obtain ⟨m, hm⟩ : ∃ m, m = cross a b k := ⟨_, rfl⟩
  have l0 : 0 ≤ l := by omega
  have m0 : 0 ≤ m := by omega
  have lm : 0 < l + m := by omega
  clear h6 h7 h8
  unfold cross at hl hm
  refine ⟨l * (b.y - k.y) + m * (b.y - e.y), l * (k.y - a.y) + m * (e.y - a.y), l * (b.y - a.y), m * (b.y - a.y), ?_, ?_, Int.mul_nonneg l0 (by omega), Int.mul_nonneg m0 (by omega), ?_, by grind, by grind, by grind⟩
  · exact mix_nn l0 m0 (by omega) (by omega)
  · exact mix_nn l0 m0 (by omega) (by omega)
  · have := Int.mul_pos lm (show 0 < b.y - a.y by omega)
    have e : l * (b.y - k.y) + m * (b.y - e.y) + (l * (k.y - a.y) + m * (e.y - a.y)) = (l + m) * (b.y - a.y) := by grind
    omega
theorem meet_line {a b k e : P2} (h1 : a.y < b.y) (h2 : a.y ≤ k.y) (h3 : k.y ≤ b.y) (h4 : a.y ≤ e.y) (h5 : e.y ≤ b.y)
    (h : cross a b k < 0 ∧ 0 ≤ cross a b e ∨ cross a b k ≤ 0 ∧ 0 < cross a b e ∨ 0 ≤ cross a b k ∧ cross a b e < 0 ∨ 0 < cross a b k ∧ cross a b e ≤ 0) : Meets a b k e := by
  rcases (show (0 ≤ cross a b k ∧ cross a b e ≤ 0 ∧ cross a b e < cross a b k) ∨ (0 ≤ cross a b e ∧ cross a b k ≤ 0 ∧ cross a b k < cross a b e) by omega) with ⟨g1, g2, g3⟩ | ⟨g1, g2, g3⟩
  · exact meet_line_aux h1 h2 h3 h4 h5 g1 g2 g3
  · exact (meet_line_aux h1 h4 h5 h2 h3 g1 g2 g3).swapR

/-- The segment a b begins below k, ends between k and e. -/
theorem meet_low_aux {s : Int} {a b k e : P2} (h1 : a.y < b.y) (h2 : k.y < e.y) (h3 : a.y ≤ k.y) (h4 : k.y ≤ b.y) (h5 : b.y ≤ e.y) (h6 : 0 ≤ s * cross a b k) (h7 : 0 ≤ s * cross k e b) (h8 : 0 < s * cross a b k + s * cross k e b) : Meets a b k e := by
  obtain ⟨u, hu⟩ : ∃ u, u = s * cross a b k := ⟨_, rfl⟩
  obtain ⟨v, hv⟩ : ∃ v, v = s * cross k e b := ⟨_, rfl⟩
  rw [← hu, ← hv] at h8
  rw [← hu] at h6
  rw [← hv] at h7
  unfold cross at hu hv
  refine ⟨v * (b.y - k.y), v * (k.y - a.y) + u * (e.y - k.y), v * (b.y - a.y) + u * (e.y - b.y), u * (b.y - k.y), Int.mul_nonneg h7 (by omega), mix_nn h7 h6 (by omega) (by omega), mix_nn h7 h6 (by omega) (by omega), Int.mul_nonneg h6 (by omega), ?_, by grind, by grind, by grind⟩
  have := mix_pos h7 h6 (by omega) (show 0 < b.y - a.y by omega) (show 0 < e.y - k.y by omega)
  have e : v * (b.y - k.y) + (v * (k.y - a.y) + u * (e.y - k.y)) = v * (b.y - a.y) + u * (e.y - k.y) := by grind
  omega
theorem meet_low {a b k e : P2} (h1 : a.y < b.y) (h2 : k.y < e.y) (h3 : a.y ≤ k.y) (h4 : k.y ≤ b.y) (h5 : b.y ≤ e.y)
    (h : 0 < cross a b k ∧ 0 ≤ cross k e b ∨ cross a b k ≤ 0 ∧ cross k e b < 0 ∨ 0 ≤ cross a b k ∧ 0 < cross k e b ∨ cross a b k < 0 ∧ cross k e b ≤ 0) : Meets a b k e := by
  rcases (show (0 ≤ cross a b k ∧ 0 ≤ cross k e b ∧ 0 < cross a b k + cross k e b) ∨ (cross a b k ≤ 0 ∧ cross k e b ≤ 0 ∧ cross a b k + cross k e b < 0) by omega) with ⟨g1, g2, g3⟩ | ⟨g1, g2, g3⟩
  · exact meet_low_aux (s := 1) h1 h2 h3 h4 h5 (by omega) (by omega) (by omega)
  · exact meet_low_aux (s := -1) h1 h2 h3 h4 h5 (by omega) (by omega) (by omega)

def neg2 (p : P2) : P2 := ⟨-p.x, -p.y⟩
theorem cross_neg2 (a b c : P2) : cross (neg2 a) (neg2 b) (neg2 c) = cross a b c := by unfold cross neg2; grind
theorem meets_neg2 {a b c d : P2} (h : Meets (neg2 a) (neg2 b) (neg2 c) (neg2 d)) : Meets a b c d := by
  obtain ⟨l, m, r, t, h1, h2, h3, h4, h5, h6, h7, h8⟩ := h
  unfold neg2 at h7 h8
  exact ⟨l, m, r, t, h1, h2, h3, h4, h5, h6, by grind, by grind⟩
theorem meet_high {a b k e : P2} (h1 : a.y < b.y) (h2 : k.y < e.y) (h3 : k.y ≤ a.y) (h4 : a.y ≤ e.y) (h5 : e.y ≤ b.y)
    (h : 0 < cross a b e ∧ 0 ≤ cross k e a ∨ cross a b e ≤ 0 ∧ cross k e a < 0) : Meets a b k e := by
  refine Meets.swapL (Meets.swapR (meets_neg2 (meet_low (a := neg2 b) (b := neg2 a) (k := neg2 e) (e := neg2 k) ?_ ?_ ?_ ?_ ?_ ?_)))
  all_goals try (show -_ < -_; omega)
  all_goals try (show -_ ≤ -_; omega)
  rw [cross_neg2, cross_neg2, cross_ba, cross_ba k e a]
  omega

def side (k e x : P2) : Int := if k.y < x.y ∧ x.y ≤ e.y ∧ cross k e x < 0 then 1 else 0

theorem wn_step_aux {k e a b : P2} (hke : k.y ≤ e.y) (hab : a.y ≤ b.y) (h : ¬ Meets a b k e) : wn k a b - wn e a b = side k e b - side k e a := by
  have L := fun h1 h2 h3 h4 h5 h6 => h (meet_line (a := a) (b := b) (k := k) (e := e) h1 h2 h3 h4 h5 h6)
  have L' := fun h1 h2 h3 h4 h5 h6 => h (meet_line (a := k) (b := e) (k := a) (e := b) h1 h2 h3 h4 h5 h6).symm
  have M := fun h1 h2 h3 h4 h5 h6 => h (meet_low (a := a) (b := b) (k := k) (e := e) h1 h2 h3 h4 h5 h6)
  have H := fun h1 h2 h3 h4 h5 h6 => h (meet_high (a := a) (b := b) (k := k) (e := e) h1 h2 h3 h4 h5 h6)
  unfold wn side
  generalize cross a b k = c1 at *
  generalize cross a b e = c2 at *
  generalize cross k e a = d1 at *
  generalize cross k e b = d2 at *
  by_cases p1 : a.y ≤ k.y <;> by_cases p2 : b.y ≤ k.y <;> by_cases p3 : a.y ≤ e.y <;> by_cases p4 : b.y ≤ e.y <;> simp [p1, p2, p3, p4] <;> (try omega)
  · have : ¬ (0 < c1 ∧ 0 ≤ d2 ∨ c1 ≤ 0 ∧ d2 < 0 ∨ 0 ≤ c1 ∧ 0 < d2 ∨ c1 < 0 ∧ d2 ≤ 0) := M (by omega) (by omega) (by omega) (by omega) (by omega)
    repeat' split
    all_goals omega
  · have : ¬ (c1 < 0 ∧ 0 ≤ c2 ∨ c1 ≤ 0 ∧ 0 < c2 ∨ 0 ≤ c1 ∧ c2 < 0 ∨ 0 < c1 ∧ c2 ≤ 0) := L (by omega) (by omega) (by omega) (by omega) (by omega)
    repeat' split
    all_goals omega
  · have : ¬ (d1 < 0 ∧ 0 ≤ d2 ∨ d1 ≤ 0 ∧ 0 < d2 ∨ 0 ≤ d1 ∧ d2 < 0 ∨ 0 < d1 ∧ d2 ≤ 0) := L' (by omega) (by omega) (by omega) (by omega) (by omega)
    repeat' split
    all_goals omega
  · have : ¬ (0 < c2 ∧ 0 ≤ d1 ∨ c2 ≤ 0 ∧ d1 < 0) := H (by omega) (by omega) (by omega) (by omega) (by omega)
    repeat' split
    all_goals omega

theorem wn_step {k e a b : P2} (hke : k.y ≤ e.y) (h : ¬ Meets a b k e) : wn k a b - wn e a b = side k e b - side k e a := by
  rcases (show a.y ≤ b.y ∨ b.y ≤ a.y by omega) with g | g
  · exact wn_step_aux hke g h
  · have := wn_step_aux hke g (fun m => h m.swapL)
    rw [wn_anti k b a, wn_anti e b a]
    omega

theorem cyc_const_aux {k e : P2} (hke : k.y ≤ e.y) {q : Nat → P2} (n : Nat) (h : ∀ i, i < n → ¬ Meets k e (q i) (q (i + 1))) :
    cyc (wn k) q n - cyc (wn e) q n = side k e (q n) - side k e (q 0) := by
  induction n with
  | zero => show (0 : Int) - 0 = _; omega
  | succ n ih =>
    show cyc (wn k) q n + wn k (q n) (q (n + 1)) - (cyc (wn e) q n + wn e (q n) (q (n + 1))) = _
    have := ih (fun i hi => h i (by omega))
    have := wn_step hke (fun g => h n (by omega) g.symm)
    omega
/-- A segment that does not meet a closed way has the same count at both ends. -/
theorem cyc_const {k e : P2} {q : Nat → P2} {n : Nat} (hq : q n = q 0) (h : ∀ i, i < n → ¬ Meets k e (q i) (q (i + 1))) : cyc (wn k) q n = cyc (wn e) q n := by
  rcases (show k.y ≤ e.y ∨ e.y ≤ k.y by omega) with g | g
  · have := cyc_const_aux g n h
    rw [hq] at this; omega
  · have := cyc_const_aux g n (fun i hi m => h i hi m.swapL)
    rw [hq] at this; omega

theorem cyc_zero {f : P2 → P2 → Int} {q : Nat → P2} {n : Nat} (h : ∀ i, i < n → f (q i) (q (i + 1)) = 0) : cyc f q n = 0 := by
  induction n with
  | zero => rfl
  | succ n ih =>
    show cyc f q n + f (q n) (q (n + 1)) = 0
    rw [ih (fun i hi => h i (by omega)), h n (by omega)]; rfl

/-- Outside of the hull the count is 0. -/
theorem wn_out {k : P2} {q : Nat → P2} {n : Nat} (hq : q n = q 0) {a b : Int} (h : ∀ i, i ≤ n → lin a b k < lin a b (q i)) : cyc (wn k) q n = 0 := by
  obtain ⟨B, hB, hb⟩ := bounded (fun j => (q j).y) (n + 1)
  have far : ∀ e : P2, lin a b e ≤ lin a b k → (e.y < -B ∨ B < e.y) → cyc (wn k) q n = 0 := by
    intro e he hy
    rw [cyc_const (e := e) hq]
    · refine cyc_zero fun i hi => ?_
      have h1 := hb i (by omega)
      have h2 := hb (i + 1) (by omega)
      unfold wn
      repeat' split
      all_goals omega
    · rintro i hi ⟨l, m, r, t, hl, hm, hr, ht, h0, hs, ex, ey⟩
      have h1 := h i (by omega)
      have h2 := h (i + 1) (by omega)
      have e1 : l * lin a b k + m * lin a b e = r * lin a b (q i) + t * lin a b (q (i + 1)) := by unfold lin; grind
      generalize lin a b k = K at *
      generalize lin a b e = E at *
      generalize lin a b (q i) = X at *
      generalize lin a b (q (i + 1)) = Y at *
      have k1 := Int.mul_nonneg hm (show 0 ≤ K - E by omega)
      have k2 := Int.mul_nonneg hr (show 0 ≤ X - K - 1 by omega)
      have k3 := Int.mul_nonneg ht (show 0 ≤ Y - K - 1 by omega)
      have e2 : m * (K - E) + r * (X - K - 1) + t * (Y - K - 1) = (r * X + t * Y) - (l * K + m * E) + (l + m) * K - (r + t) * K - (r + t) := by grind
      rw [hs] at e2
      omega
  obtain ⟨M, hM⟩ : ∃ M : Int, M = B + k.y.natAbs + 1 := ⟨_, rfl⟩
  rcases (show b = 0 ∨ 0 < b ∨ 0 < -b by omega) with g | g | g
  · subst g
    refine far ⟨k.x, B + 1⟩ ?_ (by right; show B < B + 1; omega)
    unfold lin; simp
  · refine far ⟨k.x - M * a, k.y - M * b⟩ ?_ ?_
    · have := Int.mul_nonneg (show 0 ≤ M by omega) (show 0 ≤ a * a + b * b by
        by_cases z : a = 0 ∧ b = 0
        · omega
        · exact Int.le_of_lt (sq_pos z))
      have e : lin a b ⟨k.x - M * a, k.y - M * b⟩ = lin a b k - M * (a * a + b * b) := by unfold lin; grind
      omega
    · left
      have := Int.mul_nonneg (show 0 ≤ M by omega) (show 0 ≤ b - 1 by omega)
      have e : M * (b - 1) = M * b - M := by grind
      show k.y - M * b < -B
      omega
  · refine far ⟨k.x - M * a, k.y - M * b⟩ ?_ ?_
    · have := Int.mul_nonneg (show 0 ≤ M by omega) (show 0 ≤ a * a + b * b by
        by_cases z : a = 0 ∧ b = 0
        · omega
        · exact Int.le_of_lt (sq_pos z))
      have e : lin a b ⟨k.x - M * a, k.y - M * b⟩ = lin a b k - M * (a * a + b * b) := by unfold lin; grind
      omega
    · right
      have := Int.mul_nonneg (show 0 ≤ M by omega) (show 0 ≤ -b - 1 by omega)
      have e : M * (-b - 1) = -(M * b) - M := by grind
      show B < k.y - M * b
      omega

/-- Inside of a triangle the count is not 0. -/
theorem wn_in {s : Int} {a b c k : P2} (h1 : 0 < s * cross b c k) (h2 : 0 < s * cross c a k) (h3 : 0 < s * cross a b k) : wn k a b + wn k b c + wn k c a ≠ 0 := by
  have sum := sc3 (s := s) (cross_sum a b c k)
  have yy := sc4 (s := s) (bary_y a b c k)
  rw [← sum] at yy
  have not_low : ¬ (k.y < a.y ∧ k.y < b.y ∧ k.y < c.y) := fun ⟨g1, g2, g3⟩ => by
    have k1 := Int.mul_pos h1 (show 0 < a.y - k.y by omega)
    have k2 := Int.mul_pos h2 (show 0 < b.y - k.y by omega)
    have k3 := Int.mul_pos h3 (show 0 < c.y - k.y by omega)
    grind
  have not_high : ¬ (a.y ≤ k.y ∧ b.y ≤ k.y ∧ c.y ≤ k.y) := fun ⟨g1, g2, g3⟩ => by
    have k1 := Int.mul_nonneg (Int.le_of_lt h1) (show 0 ≤ k.y - a.y by omega)
    have k2 := Int.mul_nonneg (Int.le_of_lt h2) (show 0 ≤ k.y - b.y by omega)
    have k3 := Int.mul_nonneg (Int.le_of_lt h3) (show 0 ≤ k.y - c.y by omega)
    have e : s * cross b c k * (k.y - a.y) + s * cross c a k * (k.y - b.y) + s * cross a b k * (k.y - c.y) = 0 := by grind
    have f1 : a.y = k.y := by
      have := pos_of_mul h1 (u := k.y - a.y) (by omega)
      omega
    have f2 : b.y = k.y := by
      have := pos_of_mul h2 (u := k.y - b.y) (by omega)
      omega
    have : cross a b k = 0 := by unfold cross; rw [f1, f2]; grind
    rw [this] at h3
    omega
  clear yy
  rcases (show 0 < s ∨ 0 < -s by
    rcases (show s = 0 ∨ 0 < s ∨ 0 < -s by omega) with g | g | g
    · subst g; omega
    · exact .inl g
    · exact .inr g) with g | g
  · have p1 := pos_of_mul' g h1
    have p2 := pos_of_mul' g h2
    have p3 := pos_of_mul' g h3
    unfold wn
    generalize cross a b k = c1 at *
    generalize cross b c k = c2 at *
    generalize cross c a k = c3 at *
    repeat' split
    all_goals omega
  · have p1 : 0 < -cross b c k := pos_of_mul' g (by rw [Int.neg_mul_neg]; exact h1)
    have p2 : 0 < -cross c a k := pos_of_mul' g (by rw [Int.neg_mul_neg]; exact h2)
    have p3 : 0 < -cross a b k := pos_of_mul' g (by rw [Int.neg_mul_neg]; exact h3)
    unfold wn
    generalize cross a b k = c1 at *
    generalize cross b c k = c2 at *
    generalize cross c a k = c3 at *
    repeat' split
    all_goals omega

/-! ### A point in the triangle of a good ear -/

theorem tri_out {s : Int} {a b c k : P2} (h : s * cross a b k < 0) (hc : 0 ≤ s * cross a b c) : wn k a b + wn k b c + wn k c a = 0 := by
  have key : ∀ x, lin (-(s * (b.y - a.y))) (s * (b.x - a.x)) x = s * cross a b x + (s * (b.x - a.x) * a.y - s * (b.y - a.y) * a.x) := fun x => by unfold lin cross; grind
  have := wn_out (k := k) (q := fun i => if i = 1 then b else if i = 2 then c else a) (n := 3) rfl (a := -(s * (b.y - a.y))) (b := s * (b.x - a.x)) (by
    intro i hi
    rw [key, key]
    have ea : s * cross a b a = 0 := by rw [cross_aba, Int.mul_zero]
    have eb : s * cross a b b = 0 := by rw [cross_abb, Int.mul_zero]
    rcases (show i = 0 ∨ i = 1 ∨ i = 2 ∨ i = 3 by omega) with rfl | rfl | rfl | rfl
    · show _ < s * cross a b a + _
      omega
    · show _ < s * cross a b b + _
      omega
    · show _ < s * cross a b c + _
      omega
    · show _ < s * cross a b a + _
      omega)
  have e : cyc (wn k) (fun i => if i = 1 then b else if i = 2 then c else a) 3 = 0 + wn k a b + wn k b c + wn k c a := rfl
  omega

theorem line_side {s : Int} {a b c d : P2} (hc : 0 < s * cross a b c) (hd : 0 < s * cross a b d) : ¬ Meets a b c d := by
  rintro ⟨l, m, r, t, hl, hm, hr, ht, h0, hs, ex, ey⟩
  have f := cross_mix (a := a) (b := b) hs ex ey s
  rw [cross_aba, cross_abb, Int.mul_zero, Int.mul_zero, Int.mul_zero] at f
  have := mix_pos hr ht (by omega) hc hd
  omega

theorem wn_cut0 {q : Nat → P2} {m : Nat} {k : P2} {a b : Int} (hm : 3 ≤ m) (hq : ∀ i, q (i + m) = q i)
    (hl : ∀ i, 1 ≤ i → i < m → lin a b (q 0) < lin a b (q i))
    (hf : ∀ i, 1 ≤ i → i + 1 < m → ¬ Meets k (q 0) (q i) (q (i + 1)))
    (hc : ¬ Meets k (q 0) (q (m - 1)) (q 1))
    (ht : wn k (q (m - 1)) (q 0) + wn k (q 0) (q 1) + wn k (q 1) (q (m - 1)) = 0) : cyc (wn k) q m = 0 := by
  rw [cyc_cut (wn_anti k) hq (by omega), ht, Int.add_zero]
  have s0 : sub (fun i => q (i + 1)) (m - 2) 0 = q 1 := sub_lt (by omega)
  have s1 : sub (fun i => q (i + 1)) (m - 2) (m - 2 + 1) = q 1 := sub_k1
  have sl : ∀ i, i ≤ m - 2 → sub (fun i => q (i + 1)) (m - 2) i = q (i + 1) := fun i hi => sub_lt hi
  rw [cyc_const (e := q 0) (by rw [s0, s1])]
  · refine wn_out (a := a) (b := b) (by rw [s0, s1]) fun i hi => ?_
    by_cases e : i ≤ m - 2
    · rw [sl i e]; exact hl _ (by omega) (by omega)
    · have : i = m - 2 + 1 := by omega
      rw [this, s1]; exact hl _ (by omega) (by omega)
  · intro i hi
    by_cases e : i + 1 ≤ m - 2
    · rw [sl i (by omega), sl (i + 1) e]; exact hf _ (by omega) (by omega)
    · have : i = m - 2 := by omega
      rw [this, s1, sl _ (Nat.le_refl _), show m - 2 + 1 = m - 1 by omega]; exact hc

def dbl (a : P2) : P2 := ⟨2 * a.x, 2 * a.y⟩
def mid (a b : P2) : P2 := ⟨a.x + b.x, a.y + b.y⟩
theorem cross_dbl (a b c : P2) : cross (dbl a) (dbl b) (dbl c) = 4 * cross a b c := by unfold cross dbl; grind
theorem cross_mid (a b x y : P2) : cross (dbl a) (dbl b) (mid x y) = 2 * cross a b x + 2 * cross a b y := by unfold cross dbl mid; grind
theorem wn_dbl (k a b : P2) : wn (dbl k) (dbl a) (dbl b) = wn k a b := by
  unfold wn
  rw [cross_dbl]
  unfold dbl
  simp only
  repeat' split
  all_goals omega
theorem cyc_dbl (k : P2) (q : Nat → P2) (n : Nat) : cyc (wn (dbl k)) (fun i => dbl (q i)) n = cyc (wn k) q n := by
  induction n with
  | zero => rfl
  | succ n ih =>
    show cyc (wn (dbl k)) (fun i => dbl (q i)) n + wn (dbl k) (dbl (q n)) (dbl (q (n + 1))) = cyc (wn k) q n + wn k (q n) (q (n + 1))
    rw [ih, wn_dbl]
theorem meets_mid {a b v x : P2} (h : Meets (mid v x) (dbl x) (dbl a) (dbl b)) : Meets a b v x := by
  obtain ⟨l, m, r, t, hl, hm, hr, ht, h0, hs, ex, ey⟩ := h
  unfold mid dbl at ex ey
  simp only at ex ey
  exact ⟨2 * r, 2 * t, l, l + 2 * m, by omega, by omega, hl, by omega, by omega, by omega, by grind, by grind⟩
theorem mid_comm (a b : P2) : mid a b = mid b a := by unfold mid; rw [Int.add_comm, Int.add_comm a.y]

theorem ear_core {m : Nat} {q : Nat → P2} {s : Int} {x : P2} (h : Simple m q) (hD : 0 < s * cross (q (m - 1)) (q 0) (q 1))
    (emp : ∀ j, 2 ≤ j → j + 2 ≤ m → ¬ InT s (q (m - 1)) (q 0) (q 1) (q j))
    (good : cyc (wn (q 0)) q m = wn (q 0) (q (m - 1)) (q 0) + wn (q 0) (q 0) (q 1) + wn (q 0) (q 1) (q (m - 1)))
    (hx : InT s (q (m - 1)) (q 0) (q 1) x) (hu : 0 < s * cross (q (m - 1)) (q 0) x) (hw : 0 < s * cross (q 0) (q 1) x)
    (ho : m = 3 → ¬ OnS (q 1) (q 2) x) (hW : cyc (wn x) q m = 0) : False := by
  have n3 := h.n3
  have qm : q m = q 0 := by have := h.per 0; rwa [Nat.zero_add] at this
  have rr : cross (q 1) (q (m - 1)) (q 0) = cross (q (m - 1)) (q 0) (q 1) := by rw [cross_rot, cross_rot]
  have claim : ∀ j, 1 ≤ j → j + 2 ≤ m → ¬ Meets (q j) (q (j + 1)) (q 0) x := by
    rintro j j1 j2 ⟨l, m', r, t, hl, hm, hr, ht, h0, hs, ex, ey⟩
    have f := cross_mix (a := q 0) (b := q 1) hs ex ey s
    have g := cross_mix (a := q 1) (b := q (m - 1)) hs ex ey s
    have k := cross_mix (a := q (m - 1)) (b := q 0) hs ex ey s
    rw [cross_aba, Int.mul_zero, Int.mul_zero, Int.zero_add] at f
    rw [rr] at g
    rw [cross_abb, Int.mul_zero, Int.mul_zero, Int.zero_add] at k
    have a1 := Int.mul_nonneg ht hx.1
    have a2 := Int.mul_nonneg ht hx.2.1
    have a3 := Int.mul_nonneg ht hx.2.2
    have a4 := Int.mul_nonneg hr (Int.le_of_lt hD)
    have r0 : r * (s * cross (q (m - 1)) (q 0) (q 1)) + t * (s * cross (q 1) (q (m - 1)) x) = 0 → r = 0 := fun e => by
      rcases (show r = 0 ∨ 0 < r by omega) with o | o
      · exact o
      · have := Int.mul_pos o hD; omega
    by_cases e3 : m = 3
    · have : j = 1 := by omega
      subst this e3
      rw [cross_aba, cross_abb, Int.mul_zero, Int.mul_zero, Int.mul_zero] at g
      have := r0 (by omega)
      subst this
      exact ho rfl ⟨l, m', hl, hm, h0, by grind, by grind⟩
    · obtain ⟨y, hy, yin, -, hc⟩ := edge_in h (by omega) hD j1 j2 hl hm h0 (by omega) (by omega) (by omega)
      by_cases hmid : 2 ≤ y ∧ y + 2 ≤ m
      · exact emp y hmid.1 hmid.2 yin
      rcases hc with hc | ⟨rfl, rfl⟩ | ⟨rfl, rfl⟩
      · exact hmid hc
      · have : y = 1 := by omega
        subst this
        rw [cross_aba, Int.mul_zero, Int.mul_zero, Int.zero_mul] at g
        have := r0 (by omega)
        subst this
        rw [cross_abb, Int.mul_zero, Int.mul_zero, Int.zero_mul] at f
        have := Int.mul_pos (show 0 < t by omega) hw
        omega
      · have : j + 1 = m - 1 := by omega
        rw [this, cross_abb, Int.mul_zero, Int.mul_zero, Int.zero_mul] at g
        have := r0 (by omega)
        subst this
        rw [show j + 1 = m - 1 by omega, cross_aba, Int.mul_zero, Int.mul_zero, Int.zero_mul] at k
        have := Int.mul_pos (show 0 < t by omega) hu
        omega
  have hG := hx.2.1
  obtain ⟨Q, hQ⟩ : ∃ Q : Nat → P2, Q = fun i => dbl (q i) := ⟨_, rfl⟩
  have Qi : ∀ i, Q i = dbl (q i) := fun i => by rw [hQ]
  have Qm : Q m = Q 0 := by rw [Qi, Qi, qm]
  have sc : ∀ a b y z, s * cross (dbl a) (dbl b) (mid y z) = 2 * (s * cross a b y) + 2 * (s * cross a b z) := fun a b y z => by rw [cross_mid]; grind
  have sd : ∀ a b y, s * cross (dbl a) (dbl b) (dbl y) = 4 * (s * cross a b y) := fun a b y => by rw [cross_dbl]; grind
  have c1 : s * cross (dbl (q (m - 1))) (dbl (q 0)) (mid (q 0) x) = 2 * (s * cross (q (m - 1)) (q 0) x) := by rw [sc, cross_abb]; omega
  have c2 : s * cross (dbl (q 0)) (dbl (q 1)) (mid (q 0) x) = 2 * (s * cross (q 0) (q 1) x) := by rw [sc, cross_aba]; omega
  have c3 : s * cross (dbl (q 1)) (dbl (q (m - 1))) (mid (q 0) x) = 2 * (s * cross (q (m - 1)) (q 0) (q 1)) + 2 * (s * cross (q 1) (q (m - 1)) x) := by rw [sc, rr]
  -- The middle of x and the corner counts as x.
  have e1 : cyc (wn (mid (q 0) x)) Q m = cyc (wn (dbl x)) Q m := by
    refine cyc_const Qm fun i hi => ?_
    rw [Qi, Qi]
    by_cases i0 : i = 0
    · subst i0
      show ¬ Meets (mid (q 0) x) (dbl x) (dbl (q 0)) (dbl (q 1))
      exact fun g => line_side (s := s) (by rw [c2]; omega) (by rw [sd]; omega) g.symm
    by_cases i1 : i + 1 = m
    · rw [i1, qm, show i = m - 1 by omega]
      exact fun g => line_side (s := s) (by rw [c1]; omega) (by rw [sd]; omega) g.symm
    · exact fun g => claim i (by omega) (by omega) (meets_mid g)
  have e1' : cyc (wn (mid (q 0) x)) Q m = 0 := by rw [e1, hQ, cyc_dbl, hW]
  have hper : ∀ i, Q (i + m) = Q i := fun i => by rw [Qi, Qi, h.per]
  have e2 := cyc_cut (f := wn (mid (q 0) x)) (wn_anti _) hper (by omega)
  have e4 := cyc_cut (f := wn (dbl (q 0))) (wn_anti _) hper (by omega)
  have e5 : cyc (wn (dbl (q 0))) Q m = wn (dbl (q 0)) (Q (m - 1)) (Q 0) + wn (dbl (q 0)) (Q 0) (Q 1) + wn (dbl (q 0)) (Q 1) (Q (m - 1)) := by
    rw [Qi, Qi, Qi, wn_dbl, wn_dbl, wn_dbl, hQ, cyc_dbl, good]
  have s0 : sub (fun i => Q (i + 1)) (m - 2) 0 = Q 1 := sub_lt (by omega)
  have s1 : sub (fun i => Q (i + 1)) (m - 2) (m - 2 + 1) = Q 1 := sub_k1
  have sl : ∀ i, i ≤ m - 2 → sub (fun i => Q (i + 1)) (m - 2) i = Q (i + 1) := fun i hi => sub_lt hi
  have e3 : cyc (wn (mid (q 0) x)) (sub (fun i => Q (i + 1)) (m - 2)) (m - 2 + 1) = cyc (wn (dbl (q 0))) (sub (fun i => Q (i + 1)) (m - 2)) (m - 2 + 1) := by
    refine cyc_const (by rw [s0, s1]) fun i hi => ?_
    by_cases e : i + 1 ≤ m - 2
    · rw [sl i (by omega), sl (i + 1) e, Qi, Qi]
      exact fun g => claim (i + 1) (by omega) (by omega) (meets_mid (by rw [mid_comm]; exact g)).swapR
    · have : i = m - 2 := by omega
      rw [this, s1, sl _ (Nat.le_refl _), show m - 2 + 1 = m - 1 by omega, Qi, Qi]
      exact fun g => line_side (s := s) (by rw [c3]; omega) (by rw [sd, rr]; omega) g.symm.swapL
  have e6 := wn_in (s := s) (a := Q (m - 1)) (b := Q 0) (c := Q 1) (k := mid (q 0) x) (by rw [Qi, Qi, c2]; omega) (by rw [Qi, Qi, c3]; omega) (by rw [Qi, Qi, c1]; omega)
  omega

/-! ### Ears -/

/-- Corner t is an ear, and the way without it does not wind about it. -/
structure Ear (n : Nat) (p : Nat → P2) (s : Int) (t : Nat) : Prop where
  lo : 1 ≤ t
  D : 0 < s * cross (p (t - 1)) (p t) (p (t + 1))
  emp : ∀ c, c % n ≠ (t - 1) % n → c % n ≠ t % n → c % n ≠ (t + 1) % n → ¬ InT s (p (t - 1)) (p t) (p (t + 1)) (p c)
  good : cyc (wn (p t)) p n = wn (p t) (p (t - 1)) (p t) + wn (p t) (p t) (p (t + 1)) + wn (p t) (p (t + 1)) (p (t - 1))

theorem mod_eq_add {n a b k : Nat} (h : a % n = b % n) : (a + k) % n = (b + k) % n := by
  rw [← Nat.mod_add_mod, h, Nat.mod_add_mod]

theorem Ear.unshift {n : Nat} {p : Nat → P2} {s : Int} {t w : Nat} (hn : 0 < n) (hp : ∀ i, p (i + n) = p i) (h : Ear n (fun i => p (i + w)) s t) : Ear n p s (t + w) where
  lo := by have := h.lo; omega
  D := by
    have := h.D
    have lo := h.lo
    rwa [show t - 1 + w = t + w - 1 by omega, show t + 1 + w = t + w + 1 by omega] at this
  emp c h1 h2 h3 := by
    have lo := h.lo
    have e : w ≤ n * w := Nat.le_mul_of_pos_left w hn
    have ec : c + n * w - w + w = c + n * w := by omega
    have key : ∀ x, c % n ≠ (x + w) % n → (c + n * w - w) % n ≠ x % n := fun x hx g => hx (by
      have := mod_eq_add (k := w) g
      rwa [ec, Nat.add_mul_mod_self_left] at this)
    have := h.emp (c + n * w - w) (key _ (by rw [show t - 1 + w = t + w - 1 by omega]; exact h1)) (key _ h2) (key _ (by rw [show t + 1 + w = t + w + 1 by omega]; exact h3))
    rwa [ec, per_mul hp, show t - 1 + w = t + w - 1 by omega, show t + 1 + w = t + w + 1 by omega] at this
  good := by
    have := h.good
    have lo := h.lo
    rwa [cyc_shift hp, show t - 1 + w = t + w - 1 by omega, show t + 1 + w = t + w + 1 by omega] at this

theorem Ear.mod {n : Nat} {p : Nat → P2} {s : Int} {t u : Nat} (hn : 0 < n) (hp : ∀ i, p (i + n) = p i) (h : Ear n p s t) (e : u % n = t % n) (hu : 1 ≤ u) : Ear n p s u := by
  have lo := h.lo
  have m1 : (u + 1) % n = (t + 1) % n := mod_eq_add e
  have m0 : (u - 1) % n = (t - 1) % n := mod_cancel (k := 1) hn (by rw [show u - 1 + 1 = u by omega, show t - 1 + 1 = t by omega]; exact e)
  have q : ∀ {a b}, a % n = b % n → p a = p b := fun {a b} g => by rw [← per_mod hp a, g, per_mod hp]
  refine ⟨hu, ?_, ?_, ?_⟩
  · rw [q m0, q e, q m1]; exact h.D
  · rw [q m0, q e, q m1, m0, e, m1]; exact h.emp
  · rw [q m0, q e, q m1]; exact h.good

theorem onS_edge {s : Int} {u v w x : P2} (hD : 0 < s * cross u v w) (h : InT s u v w x) (e : s * cross u v x = 0) : OnS u v x := by
  have sx := sc3 (s := s) (cross_sum u v w x)
  have bx := sc4 (s := s) (bary_x u v w x)
  have b2 := sc4 (s := s) (bary_y u v w x)
  rw [← sx, e] at bx b2
  refine ⟨s * cross v w x, s * cross w u x, h.1, h.2.1, by omega, by grind, by grind⟩
theorem onS_edge' {s : Int} {u v w x : P2} (hD : 0 < s * cross u v w) (h : InT s u v w x) (e : s * cross v w x = 0) : OnS v w x := by
  have sx := sc3 (s := s) (cross_sum u v w x)
  have bx := sc4 (s := s) (bary_x u v w x)
  have b2 := sc4 (s := s) (bary_y u v w x)
  rw [← sx, e] at bx b2
  refine ⟨s * cross w u x, s * cross u v x, h.2.1, h.2.2, by omega, by grind, by grind⟩

/-- The two parts at a chord from corner 0 to corner k; neither winds about the other's corners. -/
structure Chord (n : Nat) (p : Nat → P2) (k : Nat) : Prop where
  k2 : 2 ≤ k
  kn : k + 2 ≤ n
  l : Free p k
  r : Free (fun i => p (i + k)) (n - k)
  wl : ∀ j, k < j → j < n → cyc (wn (p j)) (sub p k) (k + 1) = 0
  wr : ∀ j, 0 < j → j < k → cyc (wn (p j)) (sub (fun i => p (i + k)) (n - k)) (n - k + 1) = 0

theorem Free.off {n k : Nat} {p : Nat → P2} (f : Free (fun i => p (i + k)) (n - k)) (hp : ∀ i, p (i + n) = p i) (hk : k + 2 ≤ n) {c : Nat} (h1 : k < c) (h2 : c < n) : ¬ OnS (p k) (p 0) (p c) := by
  have pn : p n = p 0 := by have := hp 0; rwa [Nat.zero_add] at this
  by_cases e : c + 2 ≤ n
  · have := f.mid (c - k) (by omega) (by omega)
    rw [Nat.zero_add, show n - k + k = n by omega, show c - k + k = c by omega, pn] at this
    exact fun g => this (meets_of_on g OnS.left)
  · have := f.b1
    rw [Nat.zero_add, show n - k + k = n by omega, show n - k - 1 + k = c by omega, pn] at this
    exact this

/-- An ear of one part off the chord is an ear of the whole. -/
theorem Chord.ear {n k t : Nat} {p : Nat → P2} {s : Int} (h : Simple n p) (c : Chord n p k) (ht : 1 ≤ t) (htk : t + 1 ≤ k) (e : Ear (k + 1) (sub p k) s t) : Ear n p s t := by
  have k2 := c.k2
  have kn := c.kn
  have q0 : sub p k (t - 1) = p (t - 1) := sub_lt (by omega)
  have q1 : sub p k t = p t := sub_lt (by omega)
  have q2 : sub p k (t + 1) = p (t + 1) := sub_lt (by omega)
  have D := e.D
  have emp := e.emp
  have good := e.good
  rw [q0, q1, q2] at D emp good
  have simp1 := h.sub c.l (by omega)
  refine ⟨ht, D, fun x h1 h2 h3 => ?_, ?_⟩
  · rw [← per_mod h.per x]
    have hx := Nat.mod_lt x (show 0 < n by omega)
    rw [Nat.mod_eq_of_lt (show t - 1 < n by omega)] at h1
    rw [Nat.mod_eq_of_lt (show t < n by omega)] at h2
    rw [Nat.mod_eq_of_lt (show t + 1 < n by omega)] at h3
    generalize x % n = x at *
    by_cases hxk : x ≤ k
    · have := emp x (by rw [Nat.mod_eq_of_lt (by omega), Nat.mod_eq_of_lt (by omega)]; exact h1) (by rw [Nat.mod_eq_of_lt (by omega), Nat.mod_eq_of_lt (by omega)]; exact h2) (by rw [Nat.mod_eq_of_lt (by omega), Nat.mod_eq_of_lt (by omega)]; exact h3)
      rwa [sub_lt hxk] at this
    · intro hin
      have hw := c.wl x (by omega) hx
      have off1 : ¬ OnS (p (t - 1)) (p t) (p x) := by
        have := h.off (j := t - 1) (c := x) (by omega) (by omega)
        rwa [show t - 1 + 1 = t by omega] at this
      have off2 : ¬ OnS (p t) (p (t + 1)) (p x) := h.off (by omega) (by omega)
      have hu : 0 < s * cross (p (t - 1)) (p t) (p x) := by
        rcases (show s * cross (p (t - 1)) (p t) (p x) = 0 ∨ 0 < s * cross (p (t - 1)) (p t) (p x) by have := hin.2.2; omega) with g | g
        · exact absurd (onS_edge D hin g) off1
        · exact g
      have hv : 0 < s * cross (p t) (p (t + 1)) (p x) := by
        rcases (show s * cross (p t) (p (t + 1)) (p x) = 0 ∨ 0 < s * cross (p t) (p (t + 1)) (p x) by have := hin.1; omega) with g | g
        · exact absurd (onS_edge' D hin g) off2
        · exact g
      have sq := simp1.shift t
      have a0 : sub p k (0 + t) = p t := by rw [Nat.zero_add]; exact q1
      have a1 : sub p k (1 + t) = p (t + 1) := by rw [Nat.add_comm 1 t]; exact q2
      have am : sub p k (k + 1 - 1 + t) = p (t - 1) := by
        rw [show k + 1 - 1 + t = t - 1 + (k + 1) by omega, sub_per, q0]
      refine ear_core (x := p x) sq (s := s) (by rw [a0, a1, am]; exact D) ?_ (by rw [a0, a1, am, cyc_shift simp1.per]; exact good) (by rw [a0, a1, am]; exact hin) (by rw [a0, am]; exact hu) (by rw [a0, a1]; exact hv) ?_ (by rw [cyc_shift simp1.per]; exact hw)
      · intro j j1 j2
        rw [a0, a1, am]
        have ne : ∀ y, y % (k + 1) = y → ∀ d, 0 < d → d < k + 1 → (y + d) % (k + 1) ≠ y := fun y hy d d1 d2 g => mod_ne (n := k + 1) (t := y) (k := d) d1 d2 (by rw [g, hy])
        refine emp (j + t) (fun g => ?_) (fun g => ?_) (fun g => ?_)
        · exact mod_ne (n := k + 1) (t := t - 1) (k := j + 1) (by omega) (by omega) (by rw [show t - 1 + (j + 1) = j + t by omega]; exact g)
        · exact mod_ne (n := k + 1) (t := t) (k := j) (by omega) (by omega) (by rw [Nat.add_comm]; exact g)
        · exact mod_ne (n := k + 1) (t := t + 1) (k := j - 1) (by omega) (by omega) (by rw [show t + 1 + (j - 1) = j + t by omega]; exact g)
      · intro k3
        have : k = 2 := by omega
        subst this
        have : t = 1 := by omega
        subst this
        show ¬ OnS (sub p 2 2) (sub p 2 3) (p x)
        rw [sub_k1, sub_lt (Nat.le_refl _)]
        exact c.r.off h.per (by omega) (by omega) hx
  · rw [cyc_chord (wn_anti _) h.per (k := k) (by omega), c.wr t (by omega) (by omega), Int.add_zero]
    exact good

/-! ### Each simple way has an ear off its last edge -/

theorem chain_eq {n k : Nat} {p : Nat → P2} (h : Simple n p) (hk : k + 2 ≤ n) (fr : Free (fun i => p (i + k)) (n - k)) {j : Nat} (h1 : k < j) (h2 : j + 1 < n) :
    cyc (wn (p j)) (sub p k) (k + 1) = cyc (wn (p (j + 1))) (sub p k) (k + 1) := by
  have pn : p n = p 0 := by have := h.per 0; rwa [Nat.zero_add] at this
  refine cyc_const (by rw [sub_k1, sub_lt (by omega)]) fun i hi => ?_
  by_cases e : i + 1 ≤ k
  · rw [sub_lt (i := i) (by omega), sub_lt e]
    exact fun g => h.apart' i j (by omega) (by omega) g.symm
  · have : i = k := by omega
    subst this
    rw [sub_lt (i := i) (Nat.le_refl i), sub_k1]
    have := fr.mid (j - i) (by omega) (by omega)
    rw [Nat.zero_add, show n - i + i = n by omega, show j - i + i = j by omega, show j - i + 1 + i = j + 1 by omega, pn] at this
    exact fun g => this g.symm
theorem chain_all {n k : Nat} {p : Nat → P2} (h : Simple n p) (hk : k + 2 ≤ n) (fr : Free (fun i => p (i + k)) (n - k)) {i j : Nat} (h1 : k < i) (h2 : i + j < n) :
    cyc (wn (p i)) (sub p k) (k + 1) = cyc (wn (p (i + j))) (sub p k) (k + 1) := by
  induction j with
  | zero => rfl
  | succ j ih => rw [ih (by omega), chain_eq h hk fr (by omega) (by omega)]; rfl
theorem chain_any {n k : Nat} {p : Nat → P2} (h : Simple n p) (hk : k + 2 ≤ n) (fr : Free (fun i => p (i + k)) (n - k)) {i j : Nat} (h1 : k < i) (h2 : i < n) (h3 : k < j) (h4 : j < n) :
    cyc (wn (p i)) (sub p k) (k + 1) = cyc (wn (p j)) (sub p k) (k + 1) := by
  rcases Nat.le_total i j with g | g
  · obtain ⟨d, rfl⟩ := Nat.exists_eq_add_of_le g
    exact chain_all h hk fr h1 h4
  · obtain ⟨d, rfl⟩ := Nat.exists_eq_add_of_le g
    exact (chain_all h hk fr h3 h2).symm

theorem back_fun {n k : Nat} {p : Nat → P2} (hp : ∀ i, p (i + n) = p i) (hk : k ≤ n) : (fun i => p (i + (n - k) + k)) = p := by
  funext i
  rw [show i + (n - k) + k = i + n by omega, hp]

theorem Chord.flip {n k : Nat} {p : Nat → P2} (hp : ∀ i, p (i + n) = p i) (c : Chord n p k) : Chord n (fun i => p (i + k)) (n - k) where
  k2 := by have := c.kn; omega
  kn := by have := c.k2; have := c.kn; omega
  l := c.r
  r := by
    have := c.kn
    show Free (fun i => p (i + (n - k) + k)) (n - (n - k))
    rw [back_fun hp (by omega), show n - (n - k) = k by omega]
    exact c.l
  wl j h1 h2 := by
    have := c.kn
    have := c.wr (j + k - n) (by omega) (by omega)
    rw [← hp, show j + k - n + n = j + k by omega] at this
    exact this
  wr j h1 h2 := by
    have := c.kn
    show cyc (wn (p (j + k))) (sub (fun i => p (i + (n - k) + k)) (n - (n - k))) (n - (n - k) + 1) = 0
    rw [back_fun hp (by omega), show n - (n - k) = k by omega]
    exact c.wl _ (by omega) (by omega)

theorem chord_mk {n : Nat} {p : Nat → P2} {s : Int} {z : Nat} {a b : Int} (h : Simple n p) (hD : 0 < s * cross (p (n - 1)) (p 0) (p 1)) (hz : 2 ≤ z) (hz' : z + 2 ≤ n) (hin : InT s (p (n - 1)) (p 0) (p 1) (p z))
    (hmax : ∀ j, 2 ≤ j → j + 2 ≤ n → InT s (p (n - 1)) (p 0) (p 1) (p j) → s * cross (p 1) (p (n - 1)) (p j) ≤ s * cross (p 1) (p (n - 1)) (p z)) (hh : HullAt n p a b 0) : Chord n p z := by
  have fl := chord_left h hD hz hz' hin hmax
  have fr := chord_right h hD hz hz' hin hmax
  have pn : p n = p 0 := by have := h.per 0; rwa [Nat.zero_add] at this
  have hl : ∀ j, 0 < j → j < n → lin a b (p 0) < lin a b (p j) := fun j j1 j2 => hh j (by rw [Nat.mod_eq_of_lt j2, Nat.mod_eq_of_lt (by omega)]; omega)
  have z1 : 0 < s * cross (p (n - 1)) (p 0) (p z) := by
    rcases (show s * cross (p (n - 1)) (p 0) (p z) = 0 ∨ 0 < s * cross (p (n - 1)) (p 0) (p z) by have := hin.2.2; omega) with g | g
    · have := h.off (j := n - 1) (c := z + n) (by omega) (by omega)
      rw [h.per, show n - 1 + 1 = n by omega, pn] at this
      exact absurd (onS_edge hD hin g) this
    · exact g
  have z2 : 0 < s * cross (p 0) (p 1) (p z) := by
    rcases (show s * cross (p 0) (p 1) (p z) = 0 ∨ 0 < s * cross (p 0) (p 1) (p z) by have := hin.1; omega) with g | g
    · exact absurd (onS_edge' hD hin g) (h.off (j := 0) (by omega) (by omega))
    · exact g
  have d1 : s * cross (p 0) (p 1) (p (n - 1)) = s * cross (p (n - 1)) (p 0) (p 1) := by rw [cross_rot]
  have d2 : s * cross (p z) (p 0) (p (n - 1)) = -(s * cross (p (n - 1)) (p 0) (p z)) := by rw [cross_flip]; grind
  have d3 : s * cross (p z) (p 0) (p 1) = s * cross (p 0) (p 1) (p z) := by rw [← cross_rot]
  have d4 : s * cross (p 0) (p z) (p 1) = -(s * cross (p 0) (p 1) (p z)) := by rw [← d3, cross_ba]; grind
  have d5 : s * cross (p 0) (p z) (p (n - 1)) = s * cross (p (n - 1)) (p 0) (p z) := by rw [cross_rot (p (n - 1))]
  have e1 : s * cross (p (n - 1)) (p 0) (p 1) = -s * cross (p 1) (p 0) (p (n - 1)) := by rw [cross_flip]; grind
  have e2 : s * cross (p 0) (p 1) (p z) = -s * cross (p 1) (p 0) (p z) := by rw [cross_ba]; grind
  have left : cyc (wn (p (n - 1))) (sub p z) (z + 1) = 0 := by
    refine wn_cut0 (a := a) (b := b) (by omega) (fun i => sub_per) (fun i i1 i2 => ?_) (fun i i1 i2 => ?_) ?_ ?_
    · rw [sub_lt (by omega), sub_lt (by omega)]; exact hl i (by omega) (by omega)
    · rw [sub_lt (by omega), sub_lt (by omega), sub_lt (by omega)]
      have := h.apart' i (n - 1) (by omega) (by omega)
      rw [show n - 1 + 1 = n by omega, pn] at this
      exact fun g => this g.symm
    · rw [sub_lt (by omega), sub_lt (by omega), sub_lt (by omega), show z + 1 - 1 = z by omega]
      exact line_side z1 hD
    · rw [sub_lt (by omega), sub_lt (by omega), sub_lt (by omega), show z + 1 - 1 = z by omega]
      exact tri_out (s := s) (by omega) (by omega)
  have right : cyc (wn (p 1)) (sub (fun i => p (i + z)) (n - z)) (n - z + 1) = 0 := by
    rw [← cyc_shift (fun i => sub_per) (n - z)]
    have q0 : sub (fun i => p (i + z)) (n - z) (0 + (n - z)) = p 0 := by rw [sub_lt (by omega), show 0 + (n - z) + z = n by omega, pn]
    have qi : ∀ i, 1 ≤ i → i ≤ n - z → sub (fun i => p (i + z)) (n - z) (i + (n - z)) = p (i - 1 + z) := fun i i1 i2 => by
      rw [show i + (n - z) = i - 1 + (n - z + 1) by omega, sub_per, sub_lt (by omega)]
    refine wn_cut0 (a := a) (b := b) (by omega) (fun i => ?_) (fun i i1 i2 => ?_) (fun i i1 i2 => ?_) ?_ ?_
    · rw [show i + (n - z + 1) + (n - z) = i + (n - z) + (n - z + 1) by omega, sub_per]
    · rw [q0, qi i i1 (by omega)]; exact hl _ (by omega) (by omega)
    · rw [q0, qi i i1 (by omega), qi _ (by omega) (by omega)]
      have := h.apart' 0 (i - 1 + z) (by omega) (by omega)
      rw [show i - 1 + z + 1 = i + 1 - 1 + z by omega] at this
      exact fun g => this g.swapL
    · rw [q0, qi _ (by omega) (by omega), qi _ (by omega) (by omega), show n - z + 1 - 1 - 1 + z = n - 1 by omega, show 1 - 1 + z = z by omega]
      exact line_side (s := -s) (by omega) (by omega)
    · rw [q0, qi _ (by omega) (by omega), qi _ (by omega) (by omega), show n - z + 1 - 1 - 1 + z = n - 1 by omega, show 1 - 1 + z = z by omega]
      have := tri_out (s := s) (a := p 0) (b := p z) (c := p (n - 1)) (k := p 1) (by omega) (by omega)
      omega
  refine ⟨hz, hz', fl, fr, fun j j1 j2 => ?_, fun j j1 j2 => ?_⟩
  · rw [chain_any h hz' fr j1 j2 (show z < n - 1 by omega) (by omega)]; exact left
  · have hq := h.shift z
    have := chain_any hq (k := n - z) (by omega) (by rw [back_fun h.per (by omega), show n - (n - z) = z by omega]; exact fl) (i := j + n - z) (j := n - z + 1) (by omega) (by omega) (by omega) (by omega)
    rw [show j + n - z + z = j + n by omega, show n - z + 1 + z = 1 + n by omega, h.per, h.per] at this
    rw [this]; exact right

theorem ears : ∀ (n : Nat) (p : Nat → P2) (s : Int), Simple n p → Turns n p s → ∃ t, t + 2 ≤ n ∧ Ear n p s t := by
  intro n
  induction n using Nat.strongRecOn with
  | ind n ih =>
    intro p s h ht
    have n3 := h.n3
    have hs := ht.1
    obtain ⟨v, a, b, hv, hv0, hv1, hh⟩ := hull_off h 0 (n - 1)
    rw [Nat.mod_eq_of_lt hv, Nat.mod_eq_of_lt (by omega)] at hv0 hv1
    have hD := ht.2.2 v a b hh
    have eu : p (v + n - 1) = p (v - 1) := by rw [show v + n - 1 = v - 1 + n by omega, h.per]
    by_cases hc : ∃ j, 2 ≤ j ∧ j + 2 ≤ n ∧ InT s (p (v + n - 1)) (p v) (p (v + 1)) (p (j + v))
    · obtain ⟨j, h1, h2, hin⟩ := hc
      have hq := h.shift v
      have en : p (n - 1 + v) = p (v + n - 1) := by rw [show n - 1 + v = v + n - 1 by omega]
      have hD' : 0 < s * cross ((fun i => p (i + v)) (n - 1)) ((fun i => p (i + v)) 0) ((fun i => p (i + v)) 1) := by
        show 0 < s * cross (p (n - 1 + v)) (p (0 + v)) (p (1 + v))
        rw [en, Nat.zero_add, Nat.add_comm 1 v]; exact hD
      obtain ⟨z, hz, ⟨z1, z2, zin⟩, hm⟩ := argmaxP (fun j => 2 ≤ j ∧ j + 2 ≤ n ∧ InT s ((fun i => p (i + v)) (n - 1)) ((fun i => p (i + v)) 0) ((fun i => p (i + v)) 1) ((fun i => p (i + v)) j)) (fun j => s * cross ((fun i => p (i + v)) 1) ((fun i => p (i + v)) (n - 1)) ((fun i => p (i + v)) j)) n ⟨j, by omega, h1, h2, by
        show InT s (p (n - 1 + v)) (p (0 + v)) (p (1 + v)) (p (j + v))
        rw [en, Nat.zero_add, Nat.add_comm 1 v]; exact hin⟩
      have hmax : ∀ j, 2 ≤ j → j + 2 ≤ n → InT s ((fun i => p (i + v)) (n - 1)) ((fun i => p (i + v)) 0) ((fun i => p (i + v)) 1) ((fun i => p (i + v)) j) → s * cross ((fun i => p (i + v)) 1) ((fun i => p (i + v)) (n - 1)) ((fun i => p (i + v)) j) ≤ s * cross ((fun i => p (i + v)) 1) ((fun i => p (i + v)) (n - 1)) ((fun i => p (i + v)) z) :=
        fun j a b c => hm j (by omega) ⟨a, b, c⟩
      have hh0 : HullAt n (fun i => p (i + v)) a b 0 := HullAt.shift (by omega) (by rw [Nat.zero_add]; exact hh)
      have ch := chord_mk hq hD' z1 z2 zin hmax hh0
      have p1 := hq.sub ch.l (by omega)
      have p2 := (hq.shift z).sub ch.r (by omega)
      obtain ⟨s1, t1⟩ := turns _ _ p1
      obtain ⟨s2, t2⟩ := turns _ _ p2
      obtain ⟨rfl, rfl⟩ := turns_chord hq hs z1 z2 zin hh0 t1 t2
      by_cases side : z + v + 1 ≤ n
      · obtain ⟨t, ht2, he⟩ := ih (z + 1) (by omega) _ _ p1 t1
        have lo := he.lo
        exact ⟨t + v, by omega, (ch.ear hq lo (by omega) he).unshift (by omega) h.per⟩
      · obtain ⟨t, ht2, he⟩ := ih (n - z + 1) (by omega) _ _ p2 t2
        have lo := he.lo
        have e2 : Ear n p _ (t + z + v) := (((ch.flip hq.per).ear (hq.shift z) lo (by omega) he).unshift (by omega) hq.per).unshift (by omega) h.per
        refine ⟨t + z + v - n, by omega, e2.mod (by omega) h.per ?_ (by omega)⟩
        rw [show t + z + v = t + z + v - n + n by omega, Nat.add_mod_right, Nat.add_sub_cancel]
    · rw [eu] at hD
      refine ⟨v, by omega, by omega, hD, fun c c1 c2 c3 hin => hc ?_, ?_⟩
      · rw [← per_mod h.per c] at hin
        have hlt := Nat.mod_lt c (show 0 < n by omega)
        rw [Nat.mod_eq_of_lt (show v - 1 < n by omega)] at c1
        rw [Nat.mod_eq_of_lt (show v < n by omega)] at c2
        rw [Nat.mod_eq_of_lt (show v + 1 < n by omega)] at c3
        generalize c % n = c at *
        rw [eu]
        by_cases g : v < c
        · exact ⟨c - v, by omega, by omega, by rw [show c - v + v = c by omega]; exact hin⟩
        · exact ⟨c + n - v, by omega, by omega, by rw [show c + n - v + v = c + n by omega, h.per]; exact hin⟩
      · have hq := h.shift v
        rw [← cyc_shift h.per v, cyc_cut (wn_anti _) hq.per (by omega)]
        have z0 : cyc (wn (p v)) (sub (fun i => p (i + 1 + v)) (n - 2)) (n - 2 + 1) = 0 := by
          refine wn_out (a := a) (b := b) (by rw [sub_k1, sub_lt (by omega)]) fun i hi => ?_
          unfold sub
          have := Nat.mod_lt i (show 0 < n - 2 + 1 by omega)
          generalize i % (n - 2 + 1) = i at *
          exact hh _ (by rw [show i + 1 + v = v + (i + 1) by omega]; exact mod_ne (by omega) (by omega))
        rw [z0, Int.zero_add, Nat.zero_add, Nat.add_comm 1 v, show n - 1 + v = v + n - 1 by omega, eu]

end Geo

end Go.VAI
