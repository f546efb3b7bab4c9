/- Triangles in a list; IsTriangulation. -/
import Derived.Test.YtjkcnepcppljpaaT
namespace Go.VAI
open Go.Proofs
set_option maxRecDepth 100000
set_option maxHeartbeats 8000000

structure T3 where
  a : Int
  b : Int
  c : Int
  deriving DecidableEq
abbrev tri (a b c : Int) : PV := .agg [i64 a, i64 b, i64 c]
def T3.pv (x : T3) : PV := tri x.a x.b x.c

theorem c_laws_eqTri : Callable Try.prog 39 := ⟨_, Try.func39, rfl, by kernel_rfl⟩
theorem d_laws_eqTri {a b c a' b' c' : Int} : Does Try.prog 39 [tri a b c, tri a' b' c'] (.pv (bl (decide ((⟨a, b, c⟩ : T3) = ⟨a', b', c'⟩)))) [] := by
  refine does_of hT hM Try.func39 rfl (D := []) (by kernel_rfl) rfl rfl rfl (fun A K hA hK => ?_)
  cbv
  repeat' (first
    | (refine Ar.nn_ hA (by omega) ?_; cbv)
    | (refine Ar.toN_ hA (fun _ _ => ?_); cbv)
    | (refine Ar.notT_ hA ?_; cbv)
    | (refine Ar.notF_ hA ?_; cbv)
    | (refine Ar.lss_ hA (fun _ => ?_) (fun _ => ?_) <;> cbv)
    | (refine Ar.leq_ hA (fun _ => ?_) (fun _ => ?_) <;> cbv)
    | (refine Ar.gtr_ hA (fun _ => ?_) (fun _ => ?_) <;> cbv)
    | (refine Ar.geq_ hA (fun _ => ?_) (fun _ => ?_) <;> cbv)
    | (refine Ar.eql_ hA (fun _ => ?_) (fun _ => ?_) <;> cbv)
    | (refine Ar.neq_ hA (fun _ => ?_) (fun _ => ?_) <;> cbv)
    | (refine Ar.add_ hA (by omega) (fun _ _ => ?_); cbv)
    | (refine Ar.sub_ hA (by omega) (fun _ _ => ?_); cbv)
    | (refine Ar.neg_ hA (by omega) (fun _ _ => ?_); cbv)
    | (refine Ar.mulB hA 2000 2000 (by omega) (by omega) (by omega) (fun _ _ _ _ => ?_); cbv)
    | (refine Ar.mulB hA 3000000000 3000000000 (by omega) (by omega) (by omega) (fun _ _ _ _ => ?_); cbv)
    | (refine Ar.nz_ hA (by omega) ?_; cbv)
    | (refine Ar.rem_ hA (by omega) (fun _ _ => ?_); cbv)
    | (refine Ar.quo_ hA (by omega) (fun _ _ => ?_); cbv)
    | (refine Ar.mx_ hA (fun _ _ => ?_); cbv)
    | (refine Ar.mn_ hA (fun _ _ => ?_); cbv)
    | (refine Ar.len_ hA (fun _ _ _ => ?_); cbv)
    | (refine Ar.lenN_ hA (fun _ _ => ?_); cbv)
    | (refine Ar.bneq_ hA (fun _ => ?_) (fun _ => ?_) <;> cbv)
    | (refine Ar.beq_ hA (fun _ => ?_) (fun _ => ?_) <;> cbv)
    | (refine Ar.ofN_ hA (fun _ _ _ => ?_); cbv)
)
  all_goals exact hK _ _ (by simp_all) rfl

theorem c_laws_eqTriS : Callable Try.prog 18 := ⟨_, Try.func18, rfl, by kernel_rfl⟩
theorem d_laws_eqTriS {es es' : List PV} {l l' : List T3} (hes : es = l.map T3.pv) (hes' : es' = l'.map T3.pv) (hb : l.length ≤ 1048576) : Does Try.prog 18 [.sl es, .sl es'] (.pv (bl (decide (l = l')))) [] := by
  refine does_of hT hM Try.func18 rfl (D := []) (by kernel_rfl) rfl rfl rfl (fun A K hA hK => ?_)
  have hlen : es.length = l.length := by simp [hes]
  have hlen' : es'.length = l'.length := by simp [hes']
  cbv
  refine Ar.len_ hA (fun n hn hn' => ?_)
  cbv
  refine Ar.len_ hA (fun n' hm hm' => ?_)
  cbv
  refine Ar.neq_ hA (fun h => ?_) (fun h => ?_)
  · cbv
    have : l ≠ l' := fun e => by subst e; omega
    exact hK _ _ (by simp [this]) rfl
  cbv
  refine Ar.loop_ hA (α := Int) (fun i => (n - i).toNat) (fun i => 0 ≤ i ∧ i ≤ n ∧ l.take i.toNat = l'.take i.toNat) 27 (fun i => [(0, .pv (.sl es) []), (1, .pv (.sl es') []), (5, .pv (i64 i) [])]) (fun _ => []) 0 ⟨rfl, ⟨rfl, rfl, rfl, trivial⟩, trivial⟩ ⟨by omega, by omega, by simp⟩ ?_
  intro i s f ⟨h1, h2, h3⟩
  cbv
  refine Ar.len_ hA (fun n2 hn2 hn2' => ?_)
  cbv
  refine Ar.lss_ hA (fun h => ?_) (fun h => ?_)
  · obtain ⟨⟨xa, xb, xc⟩, hx⟩ : ∃ p, l[i.toNat]? = some p := ⟨l[i.toNat]'(by omega), List.getElem?_eq_getElem _⟩
    obtain ⟨⟨ya, yb, yc⟩, hy⟩ : ∃ p, l'[i.toNat]? = some p := ⟨l'[i.toNat]'(by omega), List.getElem?_eq_getElem _⟩
    have ex : es[i.toNat]? = some (tri xa xb xc) := by rw [hes, List.getElem?_map, hx]; rfl
    have ey : es'[i.toNat]? = some (tri ya yb yc) := by rw [hes', List.getElem?_map, hy]; rfl
    cbv
    repeat' (first
      | apply And.intro
      | (refine Ar.nn_ hA (by omega) ?_; cbv)
      | (refine Ar.toN_ hA (fun j hj => ?_); cbv)
      | (refine Ar.idx_ hA (x := tri xa xb xc) (by rw [show j = i.toNat by omega]; exact ex) ?_; cbv)
      | (refine Ar.idx_ hA (x := tri ya yb yc) (by rw [show j = i.toNat by omega]; exact ey) ?_; cbv))
    all_goals
      refine Ar.callT hA c_laws_eqTri d_laws_eqTri rfl (fun hb => ?_) (fun hb => ?_)
      · have hpp := of_decide_eq_true hb
        cbv
        refine Ar.notT_ hA ?_
        cbv
        refine Ar.add_ hA (by omega) (fun k hk => ?_)
        cbv
        refine ⟨k, by omega, ⟨by omega, by omega, ?_⟩, rfl, ⟨rfl, rfl, rfl, trivial⟩, trivial⟩
        rw [show k.toNat = i.toNat + 1 by omega]
        exact take_next h3 hx (by rw [hpp]; exact hy)
      · have hpp := of_decide_eq_false hb
        cbv
        refine Ar.notF_ hA ?_
        cbv
        have : l ≠ l' := fun e => hpp (by subst e; rw [hx] at hy; exact Option.some.inj hy)
        exact hK _ _ (by simp [this]) rfl
  · cbv
    have : l = l' := take_all (by omega) h3 (by omega)
    exact hK _ _ (by simp [this]) rfl

def galF (l : List P2) : Bool := isWayF l && simpleF l
def triCross (l : List P2) (x : T3) : Int := cross (at0 l x.a.toNat) (at0 l x.b.toNat) (at0 l x.c.toNat)
def triOk (l : List P2) (x : T3) : Bool := triF l x.a x.b x.c && decide (sgn (triCross l x) = sgn (area2 l))
def tSum (l : List P2) (t : List T3) : Int := t.foldl (fun s x => s + triCross l x) 0
def isTria (l : List P2) (t : List T3) : Bool := decide (t.length + 2 = l.length) && t.all (triOk l) && decide (tSum l t = area2 l)
theorem tSum_next {l : List P2} {t : List T3} {i : Nat} {x : T3} (h : t[i]? = some x) : tSum l (t.take (i + 1)) = tSum l (t.take i) + triCross l x := foldl_take (fun s x => s + triCross l x) 0 h
theorem all_next {l : List P2} {t : List T3} {i : Nat} {x : T3} (h : t[i]? = some x) (h1 : (t.take i).all (triOk l) = true) (h2 : triOk l x = true) : (t.take (i + 1)).all (triOk l) = true := by
  rw [List.take_add_one, h, List.all_append, h1]; simp [h2]
theorem all_bad {l : List P2} {t : List T3} {i : Nat} {x : T3} (h : t[i]? = some x) (h2 : triOk l x = false) : isTria l t = false := by
  unfold isTria
  have : t.all (triOk l) = false := by
    rw [List.all_eq_false]
    exact ⟨x, List.mem_of_getElem? h, by rw [h2]; simp⟩
  rw [this, Bool.and_false, Bool.false_and]
theorem cross_bounds' {a b c : P2} (ha : -1000 ≤ a.x ∧ a.x ≤ 1000 ∧ -1000 ≤ a.y ∧ a.y ≤ 1000) (hb : -1000 ≤ b.x ∧ b.x ≤ 1000 ∧ -1000 ≤ b.y ∧ b.y ≤ 1000) (hc : -1000 ≤ c.x ∧ c.x ≤ 1000 ∧ -1000 ≤ c.y ∧ c.y ≤ 1000) : -16000000 ≤ cross a b c ∧ cross a b c ≤ 16000000 := by
  have m : ∀ x y : Int, -2000 ≤ x ∧ x ≤ 2000 → -2000 ≤ y ∧ y ≤ 2000 → -4000000 ≤ x * y ∧ x * y ≤ 4000000 := fun x y hx hy => by
    have h4 : (x * y).natAbs ≤ 2000 * 2000 := by
      rw [Int.natAbs_mul]
      exact Nat.mul_le_mul (by omega) (by omega)
    omega
  have m1 := m (b.x - a.x) (c.y - a.y) (by omega) (by omega)
  have m2 := m (b.y - a.y) (c.x - a.x) (by omega) (by omega)
  unfold cross
  generalize (b.x - a.x) * (c.y - a.y) = u at *
  generalize (b.y - a.y) * (c.x - a.x) = v at *
  omega
theorem area_three (a b c : P2) : area2 [a, b, c] = cross a b c := by
  obtain ⟨a1, a2⟩ := a
  obtain ⟨b1, b2⟩ := b
  obtain ⟨c1, c2⟩ := c
  simp [area2, areaU, nx, cross]
  grind

theorem c_spec_l11Simple : Callable Try.prog 25 := ⟨_, Try.func25, rfl, by kernel_rfl⟩
theorem d_spec_l11Simple {es : List PV} {l : List P2} (hes : es = l.map P2.pv) (hb : l.length ≤ 1048576) : Does Try.prog 25 [.sl es] (.pv (bl (galF l))) [] := by
  refine does_of hT hM Try.func25 rfl (D := []) (by kernel_rfl) rfl rfl rfl (fun A K hA hK => ?_)
  cbv
  refine Ar.callT hA c_spec_l8Way (d_spec_l8Way hes hb) rfl (fun hc => ?_) (fun hc => ?_)
  · obtain ⟨c1, c2, hok⟩ := isWayF_iff.1 hc
    have e : galF l = simpleF l := by unfold galF; rw [hc, Bool.true_and]
    rw [e] at hK
    have ds := d_spec_l8Simple hes c1 c2 hok
    generalize simpleF l = B at ds hK
    cbv
    refine Ar.call_ hA c_spec_l8Simple ds rfl ?_
    cbv
    exact hK _ _ rfl rfl
  · have e : galF l = false := by unfold galF; rw [hc, Bool.false_and]
    rw [e] at hK
    cbv
    exact hK _ _ rfl rfl

theorem c_impl_isGallery : Callable Try.prog 31 := ⟨_, Try.func31, rfl, by kernel_rfl⟩
theorem d_impl_isGallery {es : List PV} {l : List P2} (hes : es = l.map P2.pv) (hb : l.length ≤ 1048576) : Does Try.prog 31 [.sl es] (.pv (bl (galF l))) [] := by
  refine does_of hT hM Try.func31 rfl (D := []) (by kernel_rfl) rfl rfl rfl (fun A K hA hK => ?_)
  cbv
  refine Ar.callT hA c_impl_isWay (d_impl_isWay hes hb) rfl (fun hc => ?_) (fun hc => ?_)
  · obtain ⟨c1, c2, hok⟩ := isWayF_iff.1 hc
    have e : galF l = simpleF l := by unfold galF; rw [hc, Bool.true_and]
    rw [e] at hK
    have ds := d_impl_isSimple hes c1 c2 hok
    generalize simpleF l = B at ds hK
    cbv
    refine Ar.call_ hA c_impl_isSimple ds rfl ?_
    cbv
    exact hK _ _ rfl rfl
  · have e : galF l = false := by unfold galF; rw [hc, Bool.false_and]
    rw [e] at hK
    cbv
    exact hK _ _ rfl rfl

end Go.VAI
