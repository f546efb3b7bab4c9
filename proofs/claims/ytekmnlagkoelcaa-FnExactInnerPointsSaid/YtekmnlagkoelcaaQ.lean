/- BorderPoints, CrossingsAt, WindingAt, Inside. -/
import Derived.Test.YtekmnlagkoelcaaM
namespace Go.VAI
open Go.Proofs
set_option maxRecDepth 100000
set_option maxHeartbeats 8000000

def gcdI (a b : Int) : Int := ((Nat.gcd a.natAbs b.natAbs : Nat) : Int)
def absI (n : Int) : Int := (n.natAbs : Int)

theorem gcdI_bounds (a b : Int) (M : Int) (ha : -M ≤ a ∧ a ≤ M) (hb : -M ≤ b ∧ b ≤ M) : 0 ≤ gcdI a b ∧ gcdI a b ≤ M := by
  unfold gcdI
  have h1 := Nat.gcd_dvd_left a.natAbs b.natAbs
  refine ⟨by omega, ?_⟩
  rcases Nat.eq_zero_or_pos a.natAbs with h | h
  · rw [h, Nat.gcd_zero_left]; omega
  · have := Nat.le_of_dvd h h1
    omega

/-- Where Euclid's loop ends. -/
theorem gcd_end {a b x y : Int} (h : Nat.gcd x.toNat y.toNat = Nat.gcd a.natAbs b.natAbs) (hx : 0 ≤ x) (hy : 0 ≤ y) (h0 : y ≤ 0) : x = gcdI a b := by
  unfold gcdI
  rw [← h, show y.toNat = 0 by omega, Nat.gcd_zero_right]; omega

theorem gcd_step {x y r : Int} {g : Nat} (h : Nat.gcd x.toNat y.toNat = g) (hx : 0 ≤ x) (hy : 0 < y) (hr : r = x % y) : Nat.gcd y.toNat r.toNat = g ∧ 0 ≤ r ∧ r < y := by
  have h1 := Int.emod_nonneg x (b := y) (by omega)
  have h2 := Int.emod_lt_of_pos x hy
  refine ⟨?_, by omega, by omega⟩
  have : r.toNat = x.toNat % y.toNat := by
    have e1 : x = ((x.toNat : Nat) : Int) := by omega
    have e2 : y = ((y.toNat : Nat) : Int) := by omega
    rw [hr, e1, e2]; rfl
  rw [this, Nat.gcd_comm, ← Nat.gcd_rec, Nat.gcd_comm, h]

theorem absI_toNat (a : Int) : (absI a).toNat = a.natAbs := by unfold absI; omega
theorem absI_nn (a : Int) : 0 ≤ absI a := by unfold absI; omega

theorem c_spec_l8Abs : Callable Try.prog 68 := ⟨_, Try.func68, rfl, by kernel_rfl⟩
theorem d_spec_l8Abs {n : Int} (h : -2000 ≤ n ∧ n ≤ 2000) : Does Try.prog 68 [i64 n] (.pv (i64 (absI n))) [] := by
  refine does_of hT hM Try.func68 rfl (D := []) (by kernel_rfl) rfl rfl rfl (fun A K hA hK => ?_)
  cbv
  refine Ar.callS hA c_spec_l8Sign d_spec_l8Sign rfl (fun s hs h1 h2 => ?_)
  cbv
  refine Ar.mulB hA 2000 2000 (by omega) (by omega) (by omega) (fun r hr _ _ => ?_)
  cbv
  have : r = absI n := by
    unfold absI
    unfold sgn at hs
    rw [hr, hs]
    split
    · omega
    · split <;> omega
  exact hK _ _ (by rw [this]) rfl

theorem c_spec_l8Gcd : Callable Try.prog 78 := ⟨_, Try.func78, rfl, by kernel_rfl⟩
theorem d_spec_l8Gcd {a b : Int} (ha : -2000 ≤ a ∧ a ≤ 2000) (hb : -2000 ≤ b ∧ b ≤ 2000) : Does Try.prog 78 [i64 a, i64 b] (.pv (i64 (gcdI a b))) [] := by
  refine does_of hT hM Try.func78 rfl (D := []) (by kernel_rfl) rfl rfl rfl (fun A K hA hK => ?_)
  have da := d_spec_l8Abs ha
  have db := d_spec_l8Abs hb
  have ta := absI_toNat a
  have tb := absI_toNat b
  have na := absI_nn a
  have nb := absI_nn b
  generalize absI a = u at da ta na
  generalize absI b = v at db tb nb
  obtain ⟨g, hg⟩ : ∃ g, g = Nat.gcd a.natAbs b.natAbs := ⟨_, rfl⟩
  have hgi : ∀ x y : Int, Nat.gcd x.toNat y.toNat = g → 0 ≤ x → 0 ≤ y → y ≤ 0 → x = gcdI a b := fun x y h => gcd_end (h.trans hg)
  have hg0 : Nat.gcd u.toNat v.toNat = g := by rw [ta, tb, hg]
  cbv
  refine Ar.call_ hA c_spec_l8Abs da rfl ?_
  cbv
  refine Ar.call_ hA c_spec_l8Abs db rfl ?_
  cbv
  refine Ar.loop_ hA (α := Int × Int) (fun x => x.2.toNat) (fun (x, y) => 0 ≤ x ∧ 0 ≤ y ∧ Nat.gcd x.toNat y.toNat = g) 18 (fun (x, y) => [(0, .pv (i64 x) []), (1, .pv (i64 y) [])]) (fun _ => []) (u, v) ⟨rfl, ⟨rfl, rfl, trivial⟩, trivial⟩ ⟨by omega, by omega, hg0⟩ ?_
  intro ⟨x, y⟩ s f ⟨h1, h2, h3⟩
  cbv
  refine Ar.gtr_ hA (fun h => ?_) (fun h => ?_)
  · cbv
    refine Ar.nz_ hA (by omega) ?_
    cbv
    refine Ar.rem_ hA (by omega) (fun r hr => ?_)
    obtain ⟨k1, k2, k3⟩ := gcd_step h3 h1 h hr
    cbv
    exact ⟨(y, r), (by show r.toNat < y.toNat; omega), ⟨by omega, k2, k1⟩, rfl, ⟨rfl, rfl, trivial⟩, trivial⟩
  · cbv
    exact hK _ _ (by rw [hgi x y h3 h1 h2 h]) rfl

theorem c_impl_gcdInt : Callable Try.prog 79 := ⟨_, Try.func79, rfl, by kernel_rfl⟩
theorem d_impl_gcdInt {a b : Int} (ha : -2000 ≤ a ∧ a ≤ 2000) (hb : -2000 ≤ b ∧ b ≤ 2000) : Does Try.prog 79 [i64 a, i64 b] (.pv (i64 (gcdI a b))) [] := by
  refine does_of hT hM Try.func79 rfl (D := []) (by kernel_rfl) rfl rfl rfl (fun A K hA hK => ?_)
  obtain ⟨g, hg⟩ : ∃ g, g = Nat.gcd a.natAbs b.natAbs := ⟨_, rfl⟩
  have hgi : ∀ x y : Int, Nat.gcd x.toNat y.toNat = g → 0 ≤ x → 0 ≤ y → y ≤ 0 → x = gcdI a b := fun x y h => gcd_end (h.trans hg)
  cbv
  refine Ar.neg_ hA (by omega) (fun a' ha' => ?_)
  cbv
  refine Ar.mx_ hA (fun u hu => ?_)
  cbv
  refine Ar.neg_ hA (by omega) (fun b' hb' => ?_)
  cbv
  refine Ar.mx_ hA (fun v hv => ?_)
  cbv
  have hg0 : Nat.gcd u.toNat v.toNat = g := by rw [show u.toNat = a.natAbs by omega, show v.toNat = b.natAbs by omega, hg]
  refine Ar.loop_ hA (α := Int × Int) (fun x => x.2.toNat) (fun (x, y) => 0 ≤ x ∧ 0 ≤ y ∧ Nat.gcd x.toNat y.toNat = g) 20 (fun (x, y) => [(0, .pv (i64 x) []), (1, .pv (i64 y) [])]) (fun _ => []) (u, v) ⟨rfl, ⟨rfl, rfl, trivial⟩, trivial⟩ ⟨by omega, by omega, hg0⟩ ?_
  intro ⟨x, y⟩ s f ⟨h1, h2, h3⟩
  cbv
  refine Ar.gtr_ hA (fun h => ?_) (fun h => ?_)
  · cbv
    refine Ar.nz_ hA (by omega) ?_
    cbv
    refine Ar.rem_ hA (by omega) (fun r hr => ?_)
    obtain ⟨k1, k2, k3⟩ := gcd_step h3 h1 h hr
    cbv
    exact ⟨(y, r), (by show r.toNat < y.toNat; omega), ⟨by omega, k2, k1⟩, rfl, ⟨rfl, rfl, trivial⟩, trivial⟩
  · cbv
    exact hK _ _ (by rw [hgi x y h3 h1 h2 h]) rfl

/-- A sum over the numbers below k. -/
def sumTo (f : Nat → Int) : Nat → Int
  | 0 => 0
  | k + 1 => sumTo f k + f k
theorem sumTo_next {f : Nat → Int} {j k : Nat} {m m' : Int} (h : m = sumTo f j) (hk : k = j + 1) (hm : m' = m + f j) : m' = sumTo f k := by
  subst hk; rw [hm, h]; rfl

def borderE (l : List P2) (i : Nat) : Int := gcdI ((nx l i).x - (at0 l i).x) ((nx l i).y - (at0 l i).y)
def border (l : List P2) : Int := sumTo (borderE l) l.length
def borderR (l : List P2) : Int := if isWayF l then border l else 0

theorem c_spec_l8Border : Callable Try.prog 60 := ⟨_, Try.func60, rfl, by kernel_rfl⟩
theorem d_spec_l8Border {es : List PV} {l : List P2} (hes : es = l.map P2.pv) (h0 : 0 < l.length) (hb : l.length ≤ 12) (hok : ∀ p ∈ l, p.ok = true) : Does Try.prog 60 [.sl es] (.pv (i64 (border l))) [] := by
  refine does_of hT hM Try.func60 rfl (D := []) (by kernel_rfl) rfl rfl rfl (fun A K hA hK => ?_)
  have hlen : es.length = l.length := by simp [hes]
  unfold border at hK
  obtain ⟨F, hF⟩ : ∃ F, F = borderE l := ⟨_, rfl⟩
  rw [← hF] at hK
  cbv
  refine Ar.len_ hA (fun n hn hn' => ?_)
  cbv
  refine Ar.loop_ hA (α := Int × Int) (fun x => (n - x.1).toNat) (fun (i, m) => 0 ≤ i ∧ i ≤ n ∧ 0 ≤ m ∧ m ≤ 2000 * i ∧ m = sumTo F i.toNat) 32 (fun (i, m) => [(0, .pv (.sl es) []), (3, .pv (i64 m) []), (7, .pv (.sl es) []), (8, .pv (i64 n) []), (9, .pv (i64 i) [])]) (fun _ => []) (0, 0) ⟨rfl, ⟨rfl, rfl, rfl, rfl, rfl, trivial⟩, trivial⟩ ⟨by omega, by omega, by omega, by omega, rfl⟩ ?_
  intro ⟨i, m⟩ s f ⟨h1, h2, h3, h4, h5⟩
  cbv
  refine Ar.lss_ hA (fun h => ?_) (fun h => ?_)
  · cbv
    refine Ar.nn_ hA (by omega) ?_
    cbv
    refine Ar.toN_ hA (fun j hj => ?_)
    cbv
    obtain ⟨⟨px, py⟩, hp⟩ : ∃ p, l[j]? = some p := ⟨l[j]'(by omega), List.getElem?_eq_getElem _⟩
    refine Ar.idx_ hA (x := pt px py) (by simp [hes, hp, P2.pv]) ?_
    cbv
    have bp := ok_bounds hok hp
    have bn := nx_bounds hok h0 i.toNat
    obtain ⟨nxx, nxy, hn0⟩ : ∃ x y, nx l i.toNat = ⟨x, y⟩ := ⟨_, _, rfl⟩
    have dn := d_spec_l8Next (i := i) hes (by omega) h0 (by omega)
    rw [hn0] at dn bn
    simp only at dn bn
    have hFj : F j = gcdI (nxx - px) (nxy - py) := by rw [hF]; unfold borderE; rw [at0_of hp, hj, hn0]
    refine Ar.call_ hA c_spec_l8Next dn rfl ?_
    cbv
    refine Ar.sub_ hA (by omega) (fun dx hdx => ?_)
    cbv
    refine Ar.sub_ hA (by omega) (fun dy hdy => ?_)
    cbv
    rw [← hdx, ← hdy] at hFj
    have bg := gcdI_bounds dx dy 2000 (by omega) (by omega)
    have dg := d_spec_l8Gcd (a := dx) (b := dy) (by omega) (by omega)
    generalize gcdI dx dy = g at dg bg hFj
    refine Ar.call_ hA c_spec_l8Gcd dg rfl ?_
    cbv
    refine Ar.add_ hA (by omega) (fun m' hm' => ?_)
    cbv
    refine Ar.add_ hA (by omega) (fun i' hi' => ?_)
    cbv
    exact ⟨(i', m'), (by show (n - i').toNat < (n - i).toNat; omega), ⟨by omega, by omega, by omega, by omega, sumTo_next h5 (by omega) (by rw [← hj, hFj]; omega)⟩, rfl, ⟨rfl, rfl, rfl, rfl, rfl, trivial⟩, trivial⟩
  · cbv
    exact hK _ _ (by rw [h5, show i.toNat = l.length by omega]) rfl

theorem c_impl_borderPoints : Callable Try.prog 61 := ⟨_, Try.func61, rfl, by kernel_rfl⟩
theorem d_impl_borderPoints {es : List PV} {l : List P2} (hes : es = l.map P2.pv) (h0 : 0 < l.length) (hb : l.length ≤ 12) (hok : ∀ p ∈ l, p.ok = true) : Does Try.prog 61 [.sl es] (.pv (i64 (border l))) [] := by
  refine does_of hT hM Try.func61 rfl (D := []) (by kernel_rfl) rfl rfl rfl (fun A K hA hK => ?_)
  have hlen : es.length = l.length := by simp [hes]
  unfold border at hK
  obtain ⟨F, hF⟩ : ∃ F, F = borderE l := ⟨_, rfl⟩
  rw [← hF] at hK
  cbv
  refine Ar.len_ hA (fun n hn hn' => ?_)
  cbv
  refine Ar.loop_ hA (α := Int × Int) (fun x => (n - x.1).toNat) (fun (i, m) => 0 ≤ i ∧ i ≤ n ∧ 0 ≤ m ∧ m ≤ 2000 * i ∧ m = sumTo F i.toNat) 35 (fun (i, m) => [(0, .pv (.sl es) []), (3, .pv (i64 m) []), (7, .pv (.sl es) []), (8, .pv (i64 n) []), (9, .pv (i64 i) [])]) (fun _ => []) (0, 0) ⟨rfl, ⟨rfl, rfl, rfl, rfl, rfl, trivial⟩, trivial⟩ ⟨by omega, by omega, by omega, by omega, rfl⟩ ?_
  intro ⟨i, m⟩ s f ⟨h1, h2, h3, h4, h5⟩
  cbv
  refine Ar.lss_ hA (fun h => ?_) (fun h => ?_)
  · cbv
    refine Ar.nn_ hA (by omega) ?_
    cbv
    refine Ar.toN_ hA (fun j hj => ?_)
    cbv
    obtain ⟨⟨px, py⟩, hp⟩ : ∃ p, l[j]? = some p := ⟨l[j]'(by omega), List.getElem?_eq_getElem _⟩
    refine Ar.idx_ hA (x := pt px py) (by simp [hes, hp, P2.pv]) ?_
    cbv
    have bp := ok_bounds hok hp
    have bn := nx_bounds hok h0 i.toNat
    refine Ar.callI hA c_impl_after (d_impl_after hes (by omega) h0 (by omega)) rfl (fun r hr => ?_)
    obtain ⟨hr1, hr2, hr3⟩ := after_idx h0 h1 hr
    obtain ⟨nxx, nxy, hn0⟩ : ∃ x y, nx l i.toNat = ⟨x, y⟩ := ⟨_, _, rfl⟩
    rw [hn0] at bn hr3
    simp only at bn
    have hFj : F j = gcdI (nxx - px) (nxy - py) := by rw [hF]; unfold borderE; rw [at0_of hp, hj, hn0]
    cbv
    refine Ar.nn_ hA hr1 ?_
    cbv
    refine Ar.toN_ hA (fun j2 hj2 => ?_)
    cbv
    refine Ar.idx_ hA (x := pt nxx nxy) (by rw [hj2, hes]; simp [hr3, P2.pv]) ?_
    cbv
    refine Ar.sub_ hA (by omega) (fun dx hdx => ?_)
    cbv
    refine Ar.sub_ hA (by omega) (fun dy hdy => ?_)
    cbv
    rw [← hdx, ← hdy] at hFj
    have bg := gcdI_bounds dx dy 2000 (by omega) (by omega)
    have dg := d_impl_gcdInt (a := dx) (b := dy) (by omega) (by omega)
    generalize gcdI dx dy = g at dg bg hFj
    refine Ar.call_ hA c_impl_gcdInt dg rfl ?_
    cbv
    refine Ar.add_ hA (by omega) (fun m' hm' => ?_)
    cbv
    refine Ar.add_ hA (by omega) (fun i' hi' => ?_)
    cbv
    exact ⟨(i', m'), (by show (n - i').toNat < (n - i).toNat; omega), ⟨by omega, by omega, by omega, by omega, sumTo_next h5 (by omega) (by rw [← hj, hFj]; omega)⟩, rfl, ⟨rfl, rfl, rfl, rfl, rfl, trivial⟩, trivial⟩
  · cbv
    exact hK _ _ (by rw [h5, show i.toNat = l.length by omega]) rfl

theorem c_spec_BorderPoints : Callable Try.prog 32 := ⟨_, Try.func32, rfl, by kernel_rfl⟩
theorem d_spec_BorderPoints {es : List PV} {l : List P2} (hes : es = l.map P2.pv) (hb : l.length ≤ 1048576) : Does Try.prog 32 [.sl es] (.tup [.pv (i64 (borderR l)), .pv (bl (isWayF l))]) [] := by
  refine does_of hT hM Try.func32 rfl (D := []) (by kernel_rfl) rfl rfl rfl (fun A K hA hK => ?_)
  cbv
  refine Ar.callT hA c_spec_l8Way (d_spec_l8Way hes hb) rfl (fun hc => ?_) (fun hc => ?_)
  · obtain ⟨c1, c2, hok⟩ := isWayF_iff.1 hc
    cbv
    repeat' (first
      | (refine Ar.nn_ hA (by omega) ?_; cbv)
      | (refine Ar.toN_ hA (fun _ _ => ?_); cbv)
      | (refine Ar.notT_ hA ?_; cbv)
      | (refine Ar.notF_ hA ?_; cbv)
      | (refine Ar.lss_ hA (fun _ => ?_) (fun _ => ?_) <;> cbv)
      | (refine Ar.leq_ hA (fun _ => ?_) (fun _ => ?_) <;> cbv)
      | (refine Ar.gtr_ hA (fun _ => ?_) (fun _ => ?_) <;> cbv)
      | (refine Ar.geq_ hA (fun _ => ?_) (fun _ => ?_) <;> cbv)
      | (refine Ar.eql_ hA (fun _ => ?_) (fun _ => ?_) <;> cbv)
      | (refine Ar.neq_ hA (fun _ => ?_) (fun _ => ?_) <;> cbv)
      | (refine Ar.add_ hA (by omega) (fun _ _ => ?_); cbv)
      | (refine Ar.sub_ hA (by omega) (fun _ _ => ?_); cbv)
      | (refine Ar.neg_ hA (by omega) (fun _ _ => ?_); cbv)
      | (refine Ar.mulB hA 2000 2000 (by omega) (by omega) (by omega) (fun _ _ _ _ => ?_); cbv)
      | (refine Ar.mulB hA 3000000000 3000000000 (by omega) (by omega) (by omega) (fun _ _ _ _ => ?_); cbv)
      | (refine Ar.nz_ hA (by omega) ?_; cbv)
      | (refine Ar.rem_ hA (by omega) (fun _ _ => ?_); cbv)
      | (refine Ar.quo_ hA (by omega) (fun _ _ => ?_); cbv)
      | (refine Ar.mx_ hA (fun _ _ => ?_); cbv)
      | (refine Ar.mn_ hA (fun _ _ => ?_); cbv)
      | (refine Ar.len_ hA (fun _ _ _ => ?_); cbv)
      | (refine Ar.lenN_ hA (fun _ _ => ?_); cbv)
      | (refine Ar.bneq_ hA (fun _ => ?_) (fun _ => ?_) <;> cbv)
      | (refine Ar.beq_ hA (fun _ => ?_) (fun _ => ?_) <;> cbv)
      | (refine Ar.ofN_ hA (fun _ _ _ => ?_); cbv)
      | (refine Ar.callI hA c_spec_l8Border (d_spec_l8Border hes (by omega) c2 hok) rfl (fun _ _ => ?_); cbv))
    exact hK _ _ (by subst_vars; simp [borderR, hc]) rfl
  · cbv
    repeat' (first
      | (refine Ar.nn_ hA (by omega) ?_; cbv)
      | (refine Ar.toN_ hA (fun _ _ => ?_); cbv)
      | (refine Ar.notT_ hA ?_; cbv)
      | (refine Ar.notF_ hA ?_; cbv)
      | (refine Ar.lss_ hA (fun _ => ?_) (fun _ => ?_) <;> cbv)
      | (refine Ar.leq_ hA (fun _ => ?_) (fun _ => ?_) <;> cbv)
      | (refine Ar.gtr_ hA (fun _ => ?_) (fun _ => ?_) <;> cbv)
      | (refine Ar.geq_ hA (fun _ => ?_) (fun _ => ?_) <;> cbv)
      | (refine Ar.eql_ hA (fun _ => ?_) (fun _ => ?_) <;> cbv)
      | (refine Ar.neq_ hA (fun _ => ?_) (fun _ => ?_) <;> cbv)
      | (refine Ar.add_ hA (by omega) (fun _ _ => ?_); cbv)
      | (refine Ar.sub_ hA (by omega) (fun _ _ => ?_); cbv)
      | (refine Ar.neg_ hA (by omega) (fun _ _ => ?_); cbv)
      | (refine Ar.mulB hA 2000 2000 (by omega) (by omega) (by omega) (fun _ _ _ _ => ?_); cbv)
      | (refine Ar.mulB hA 3000000000 3000000000 (by omega) (by omega) (by omega) (fun _ _ _ _ => ?_); cbv)
      | (refine Ar.nz_ hA (by omega) ?_; cbv)
      | (refine Ar.rem_ hA (by omega) (fun _ _ => ?_); cbv)
      | (refine Ar.quo_ hA (by omega) (fun _ _ => ?_); cbv)
      | (refine Ar.mx_ hA (fun _ _ => ?_); cbv)
      | (refine Ar.mn_ hA (fun _ _ => ?_); cbv)
      | (refine Ar.len_ hA (fun _ _ _ => ?_); cbv)
      | (refine Ar.lenN_ hA (fun _ _ => ?_); cbv)
      | (refine Ar.bneq_ hA (fun _ => ?_) (fun _ => ?_) <;> cbv)
      | (refine Ar.beq_ hA (fun _ => ?_) (fun _ => ?_) <;> cbv)
      | (refine Ar.ofN_ hA (fun _ _ _ => ?_); cbv)
)
    exact hK _ _ (by simp [borderR, hc]) rfl

theorem c_impl_BorderPoints : Callable Try.prog 33 := ⟨_, Try.func33, rfl, by kernel_rfl⟩
theorem d_impl_BorderPoints {es : List PV} {l : List P2} (hes : es = l.map P2.pv) (hb : l.length ≤ 1048576) : Does Try.prog 33 [.sl es] (.tup [.pv (i64 (borderR l)), .pv (bl (isWayF l))]) [] := by
  refine does_of hT hM Try.func33 rfl (D := []) (by kernel_rfl) rfl rfl rfl (fun A K hA hK => ?_)
  cbv
  refine Ar.callT hA c_impl_isWay (d_impl_isWay hes hb) rfl (fun hc => ?_) (fun hc => ?_)
  · obtain ⟨c1, c2, hok⟩ := isWayF_iff.1 hc
    cbv
    repeat' (first
      | (refine Ar.nn_ hA (by omega) ?_; cbv)
      | (refine Ar.toN_ hA (fun _ _ => ?_); cbv)
      | (refine Ar.notT_ hA ?_; cbv)
      | (refine Ar.notF_ hA ?_; cbv)
      | (refine Ar.lss_ hA (fun _ => ?_) (fun _ => ?_) <;> cbv)
      | (refine Ar.leq_ hA (fun _ => ?_) (fun _ => ?_) <;> cbv)
      | (refine Ar.gtr_ hA (fun _ => ?_) (fun _ => ?_) <;> cbv)
      | (refine Ar.geq_ hA (fun _ => ?_) (fun _ => ?_) <;> cbv)
      | (refine Ar.eql_ hA (fun _ => ?_) (fun _ => ?_) <;> cbv)
      | (refine Ar.neq_ hA (fun _ => ?_) (fun _ => ?_) <;> cbv)
      | (refine Ar.add_ hA (by omega) (fun _ _ => ?_); cbv)
      | (refine Ar.sub_ hA (by omega) (fun _ _ => ?_); cbv)
      | (refine Ar.neg_ hA (by omega) (fun _ _ => ?_); cbv)
      | (refine Ar.mulB hA 2000 2000 (by omega) (by omega) (by omega) (fun _ _ _ _ => ?_); cbv)
      | (refine Ar.mulB hA 3000000000 3000000000 (by omega) (by omega) (by omega) (fun _ _ _ _ => ?_); cbv)
      | (refine Ar.nz_ hA (by omega) ?_; cbv)
      | (refine Ar.rem_ hA (by omega) (fun _ _ => ?_); cbv)
      | (refine Ar.quo_ hA (by omega) (fun _ _ => ?_); cbv)
      | (refine Ar.mx_ hA (fun _ _ => ?_); cbv)
      | (refine Ar.mn_ hA (fun _ _ => ?_); cbv)
      | (refine Ar.len_ hA (fun _ _ _ => ?_); cbv)
      | (refine Ar.lenN_ hA (fun _ _ => ?_); cbv)
      | (refine Ar.bneq_ hA (fun _ => ?_) (fun _ => ?_) <;> cbv)
      | (refine Ar.beq_ hA (fun _ => ?_) (fun _ => ?_) <;> cbv)
      | (refine Ar.ofN_ hA (fun _ _ _ => ?_); cbv)
      | (refine Ar.callI hA c_impl_borderPoints (d_impl_borderPoints hes (by omega) c2 hok) rfl (fun _ _ => ?_); cbv))
    exact hK _ _ (by subst_vars; simp [borderR, hc]) rfl
  · cbv
    repeat' (first
      | (refine Ar.nn_ hA (by omega) ?_; cbv)
      | (refine Ar.toN_ hA (fun _ _ => ?_); cbv)
      | (refine Ar.notT_ hA ?_; cbv)
      | (refine Ar.notF_ hA ?_; cbv)
      | (refine Ar.lss_ hA (fun _ => ?_) (fun _ => ?_) <;> cbv)
      | (refine Ar.leq_ hA (fun _ => ?_) (fun _ => ?_) <;> cbv)
      | (refine Ar.gtr_ hA (fun _ => ?_) (fun _ => ?_) <;> cbv)
      | (refine Ar.geq_ hA (fun _ => ?_) (fun _ => ?_) <;> cbv)
      | (refine Ar.eql_ hA (fun _ => ?_) (fun _ => ?_) <;> cbv)
      | (refine Ar.neq_ hA (fun _ => ?_) (fun _ => ?_) <;> cbv)
      | (refine Ar.add_ hA (by omega) (fun _ _ => ?_); cbv)
      | (refine Ar.sub_ hA (by omega) (fun _ _ => ?_); cbv)
      | (refine Ar.neg_ hA (by omega) (fun _ _ => ?_); cbv)
      | (refine Ar.mulB hA 2000 2000 (by omega) (by omega) (by omega) (fun _ _ _ _ => ?_); cbv)
      | (refine Ar.mulB hA 3000000000 3000000000 (by omega) (by omega) (by omega) (fun _ _ _ _ => ?_); cbv)
      | (refine Ar.nz_ hA (by omega) ?_; cbv)
      | (refine Ar.rem_ hA (by omega) (fun _ _ => ?_); cbv)
      | (refine Ar.quo_ hA (by omega) (fun _ _ => ?_); cbv)
      | (refine Ar.mx_ hA (fun _ _ => ?_); cbv)
      | (refine Ar.mn_ hA (fun _ _ => ?_); cbv)
      | (refine Ar.len_ hA (fun _ _ _ => ?_); cbv)
      | (refine Ar.lenN_ hA (fun _ _ => ?_); cbv)
      | (refine Ar.bneq_ hA (fun _ => ?_) (fun _ => ?_) <;> cbv)
      | (refine Ar.beq_ hA (fun _ => ?_) (fun _ => ?_) <;> cbv)
      | (refine Ar.ofN_ hA (fun _ _ _ => ?_); cbv)
)
    exact hK _ _ (by simp [borderR, hc]) rfl

theorem c_laws_FnExactBorderPoints : Callable Try.prog 8 := ⟨_, Try.func8, rfl, by kernel_rfl⟩
theorem d_laws_FnExactBorderPoints {es : List PV} {l : List P2} (hes : es = l.map P2.pv ∧ l.length ≤ 9223372036854775807) : Does Try.prog 8 [.sl es] (.pv (bl true)) [] := by
  refine does_of hT hM Try.func8 rfl (D := []) (by kernel_rfl) rfl rfl rfl (fun A K hA hK => ?_)
  obtain ⟨hes, hmax⟩ := hes
  have hlen : es.length = l.length := by simp [hes]
  cbv
  refine Ar.callI hA c_laws_szPtS (d_laws_szPtS (by omega) (by omega)) rfl (fun r hr => ?_)
  cbv
  refine Ar.lss_ hA (fun h => ?_) (fun h => ?_)
  · cbv
    exact hK _ _ rfl rfl
  have hb : l.length ≤ 1048576 := by have := szF_le hr h; omega
  cbv
  repeat' (first
    | (refine Ar.nn_ hA (by omega) ?_; cbv)
    | (refine Ar.toN_ hA (fun _ _ => ?_); cbv)
    | (refine Ar.notT_ hA ?_; cbv)
    | (refine Ar.notF_ hA ?_; cbv)
    | (refine Ar.lss_ hA (fun _ => ?_) (fun _ => ?_) <;> cbv)
    | (refine Ar.leq_ hA (fun _ => ?_) (fun _ => ?_) <;> cbv)
    | (refine Ar.gtr_ hA (fun _ => ?_) (fun _ => ?_) <;> cbv)
    | (refine Ar.geq_ hA (fun _ => ?_) (fun _ => ?_) <;> cbv)
    | (refine Ar.eql_ hA (fun _ => ?_) (fun _ => ?_) <;> cbv)
    | (refine Ar.neq_ hA (fun _ => ?_) (fun _ => ?_) <;> cbv)
    | (refine Ar.add_ hA (by omega) (fun _ _ => ?_); cbv)
    | (refine Ar.sub_ hA (by omega) (fun _ _ => ?_); cbv)
    | (refine Ar.neg_ hA (by omega) (fun _ _ => ?_); cbv)
    | (refine Ar.mulB hA 2000 2000 (by omega) (by omega) (by omega) (fun _ _ _ _ => ?_); cbv)
    | (refine Ar.mulB hA 3000000000 3000000000 (by omega) (by omega) (by omega) (fun _ _ _ _ => ?_); cbv)
    | (refine Ar.nz_ hA (by omega) ?_; cbv)
    | (refine Ar.rem_ hA (by omega) (fun _ _ => ?_); cbv)
    | (refine Ar.quo_ hA (by omega) (fun _ _ => ?_); cbv)
    | (refine Ar.mx_ hA (fun _ _ => ?_); cbv)
    | (refine Ar.mn_ hA (fun _ _ => ?_); cbv)
    | (refine Ar.len_ hA (fun _ _ _ => ?_); cbv)
    | (refine Ar.lenN_ hA (fun _ _ => ?_); cbv)
    | (refine Ar.bneq_ hA (fun _ => ?_) (fun _ => ?_) <;> cbv)
    | (refine Ar.beq_ hA (fun _ => ?_) (fun _ => ?_) <;> cbv)
    | (refine Ar.ofN_ hA (fun _ _ _ => ?_); cbv)
    | (refine Ar.call_ hA c_laws_toPtS (d_laws_toPtS hes hb) rfl ?_; cbv)
    | (refine Ar.callIB hA c_spec_BorderPoints (d_spec_BorderPoints hes hb) rfl (fun _ _ _ _ => ?_); cbv)
    | (refine Ar.callIB hA c_impl_BorderPoints (d_impl_BorderPoints hes hb) rfl (fun _ _ _ _ => ?_); cbv)
    | (refine Ar.callT hA c_laws_eqPtS (d_laws_eqPtS hes hes hb) rfl (fun _ => ?_) (fun _ => ?_) <;> cbv))
  all_goals first | exact hK _ _ rfl rfl | (exfalso; subst_vars; simp_all; done)

end Go.VAI
