/- Triangles in a list; IsTriangulation. -/
import Derived.Test.YtidbgfknaopkkaaT
namespace Go.VAI
open Go.Proofs
set_option maxRecDepth 100000
set_option maxHeartbeats 8000000

structure T3 where
  a : Int
  b : Int
  c : Int
  deriving DecidableEq
abbrev tri (a b c : Int) : PV := .agg [i64 a, i64 b, i64 c]
def T3.pv (x : T3) : PV := tri x.a x.b x.c

theorem tris_of {es : List PV} (h : ∀ x ∈ es, ofLeaves true (leaves x) = some x ∧ hasL 5 64 (leaves x)) : ∃ l : List T3, es = l.map T3.pv := by
  induction es with
  | nil => exact ⟨[], rfl⟩
  | cons x es ih =>
    obtain ⟨l, rfl⟩ := ih (fun y hy => h y (by simp [hy]))
    obtain ⟨h1, h2⟩ := h x (by simp)
    obtain ⟨a, q, e, ⟨u, rfl, hu⟩, b, q', rfl, ⟨v, rfl, hv⟩, c, q'', rfl, ⟨w, rfl, hw⟩, rfl⟩ := h2
    rw [e] at h1
    simp only [ofLeaves, if_true, Option.some.injEq] at h1
    exact ⟨⟨u, v, w⟩ :: l, by rw [← h1]; rfl⟩

theorem hasV_TriS {r : PV} (h : hasV 6 23 r) : ∃ es, ∃ l : List T3, r = .sl es ∧ es = l.map T3.pv ∧ l.length ≤ 9223372036854775807 := by
  obtain ⟨es, h, hle, hes⟩ := h
  cases h
  obtain ⟨l, rfl⟩ := tris_of hes
  exact ⟨_, l, rfl, rfl, by simpa using hle⟩

theorem c_laws_szTriS : Callable Try.prog 14 := ⟨_, Try.func14, rfl, by kernel_rfl⟩
theorem d_laws_szTriS {es : List PV} {n : Int} (h1 : es.length ≤ 9223372036854775807) (h2 : 0 ≤ n ∧ n ≤ 1048576) : Does Try.prog 14 [.sl es, i64 n] (.pv (i64 (szF es.length n))) [] := by
  refine does_of hT hM Try.func14 rfl (D := []) (by kernel_rfl) rfl rfl rfl (fun A K hA hK => ?_)
  cbv
  repeat' (first
    | (refine Ar.nn_ hA (by omega) ?_; cbv)
    | (refine Ar.toN_ hA (fun _ _ => ?_); cbv)
    | (refine Ar.notT_ hA ?_; cbv)
    | (refine Ar.notF_ hA ?_; cbv)
    | (refine Ar.lss_ hA (fun _ => ?_) (fun _ => ?_) <;> cbv)
    | (refine Ar.leq_ hA (fun _ => ?_) (fun _ => ?_) <;> cbv)
    | (refine Ar.gtr_ hA (fun _ => ?_) (fun _ => ?_) <;> cbv)
    | (refine Ar.geq_ hA (fun _ => ?_) (fun _ => ?_) <;> cbv)
    | (refine Ar.eql_ hA (fun _ => ?_) (fun _ => ?_) <;> cbv)
    | (refine Ar.neq_ hA (fun _ => ?_) (fun _ => ?_) <;> cbv)
    | (refine Ar.add_ hA (by omega) (fun _ _ => ?_); cbv)
    | (refine Ar.sub_ hA (by omega) (fun _ _ => ?_); cbv)
    | (refine Ar.neg_ hA (by omega) (fun _ _ => ?_); cbv)
    | (refine Ar.mulB hA 2000 2000 (by omega) (by omega) (by omega) (fun _ _ _ _ => ?_); cbv)
    | (refine Ar.mulB hA 3000000000 3000000000 (by omega) (by omega) (by omega) (fun _ _ _ _ => ?_); cbv)
    | (refine Ar.nz_ hA (by omega) ?_; cbv)
    | (refine Ar.rem_ hA (by omega) (fun _ _ => ?_); cbv)
    | (refine Ar.quo_ hA (by omega) (fun _ _ => ?_); cbv)
    | (refine Ar.mx_ hA (fun _ _ => ?_); cbv)
    | (refine Ar.mn_ hA (fun _ _ => ?_); cbv)
    | (refine Ar.len_ hA (fun _ _ _ => ?_); cbv)
    | (refine Ar.lenN_ hA (fun _ _ => ?_); cbv)
    | (refine Ar.bneq_ hA (fun _ => ?_) (fun _ => ?_) <;> cbv)
    | (refine Ar.beq_ hA (fun _ => ?_) (fun _ => ?_) <;> cbv)
    | (refine Ar.ofN_ hA (fun _ _ _ => ?_); cbv)
)
  all_goals exact hK _ _ (by congr 3; unfold szF; (try split) <;> omega) rfl

theorem c_laws_eqTri : Callable Try.prog 60 := ⟨_, Try.func60, rfl, by kernel_rfl⟩
theorem d_laws_eqTri {a b c a' b' c' : Int} : Does Try.prog 60 [tri a b c, tri a' b' c'] (.pv (bl (decide ((⟨a, b, c⟩ : T3) = ⟨a', b', c'⟩)))) [] := by
  refine does_of hT hM Try.func60 rfl (D := []) (by kernel_rfl) rfl rfl rfl (fun A K hA hK => ?_)
  cbv
  repeat' (first
    | (refine Ar.nn_ hA (by omega) ?_; cbv)
    | (refine Ar.toN_ hA (fun _ _ => ?_); cbv)
    | (refine Ar.notT_ hA ?_; cbv)
    | (refine Ar.notF_ hA ?_; cbv)
    | (refine Ar.lss_ hA (fun _ => ?_) (fun _ => ?_) <;> cbv)
    | (refine Ar.leq_ hA (fun _ => ?_) (fun _ => ?_) <;> cbv)
    | (refine Ar.gtr_ hA (fun _ => ?_) (fun _ => ?_) <;> cbv)
    | (refine Ar.geq_ hA (fun _ => ?_) (fun _ => ?_) <;> cbv)
    | (refine Ar.eql_ hA (fun _ => ?_) (fun _ => ?_) <;> cbv)
    | (refine Ar.neq_ hA (fun _ => ?_) (fun _ => ?_) <;> cbv)
    | (refine Ar.add_ hA (by omega) (fun _ _ => ?_); cbv)
    | (refine Ar.sub_ hA (by omega) (fun _ _ => ?_); cbv)
    | (refine Ar.neg_ hA (by omega) (fun _ _ => ?_); cbv)
    | (refine Ar.mulB hA 2000 2000 (by omega) (by omega) (by omega) (fun _ _ _ _ => ?_); cbv)
    | (refine Ar.mulB hA 3000000000 3000000000 (by omega) (by omega) (by omega) (fun _ _ _ _ => ?_); cbv)
    | (refine Ar.nz_ hA (by omega) ?_; cbv)
    | (refine Ar.rem_ hA (by omega) (fun _ _ => ?_); cbv)
    | (refine Ar.quo_ hA (by omega) (fun _ _ => ?_); cbv)
    | (refine Ar.mx_ hA (fun _ _ => ?_); cbv)
    | (refine Ar.mn_ hA (fun _ _ => ?_); cbv)
    | (refine Ar.len_ hA (fun _ _ _ => ?_); cbv)
    | (refine Ar.lenN_ hA (fun _ _ => ?_); cbv)
    | (refine Ar.bneq_ hA (fun _ => ?_) (fun _ => ?_) <;> cbv)
    | (refine Ar.beq_ hA (fun _ => ?_) (fun _ => ?_) <;> cbv)
    | (refine Ar.ofN_ hA (fun _ _ _ => ?_); cbv)
)
  all_goals exact hK _ _ (by simp_all) rfl

theorem c_laws_toTriS : Callable Try.prog 17 := ⟨_, Try.func17, rfl, by kernel_rfl⟩
theorem d_laws_toTriS {es : List PV} {l : List T3} (hes : es = l.map T3.pv) (hb : l.length ≤ 1048576) : Does Try.prog 17 [.sl es] (.row es 3 .free) [] := by
  refine does_of hT hM Try.func17 rfl (D := []) (by kernel_rfl) rfl rfl rfl (fun A K hA hK => ?_)
  have hlen : es.length = l.length := by simp [hes]
  cbv
  refine Ar.len_ hA (fun n hn hn' => ?_)
  cbv
  refine Ar.nn_ hA hn ?_
  cbv
  refine Ar.toN_ hA (fun m hm => ?_)
  cbv
  refine Ar.fits_ hA (by omega) ?_
  cbv
  refine Ar.rep_ hA (fun r0 hr0 => ?_)
  cbv
  refine Ar.loop_ hA (α := Int × List PV) (fun x => (n - x.1).toNat) (fun (i, r) => 0 ≤ i ∧ i ≤ n ∧ r = es.take i.toNat ++ List.replicate (m - i.toNat) (tri 0 0 0)) 23 (fun (i, r) => [(0, .pv (.sl es) []), (3, .own 7 none), (4, .pv (i64 i) [])]) (fun (i, r) => [(7, some (.row r 3 .free false))]) (0, r0) ⟨rfl, ⟨rfl, rfl, rfl, trivial⟩, rfl, trivial⟩ ⟨by omega, by omega, by rw [hr0]; simp⟩ ?_
  intro ⟨i, r⟩ s f ⟨h1, h2, h3⟩
  cbv
  refine Ar.len_ hA (fun n2 hn2 hn2' => ?_)
  cbv
  refine Ar.lss_ hA (fun h => ?_) (fun h => ?_)
  · obtain ⟨⟨xa, xb, xc⟩, hx⟩ : ∃ p, l[i.toNat]? = some p := ⟨l[i.toNat]'(by omega), List.getElem?_eq_getElem _⟩
    have ex : es[i.toNat]? = some (tri xa xb xc) := by rw [hes, List.getElem?_map, hx]; rfl
    have hrl : r.length = m := by rw [h3]; simp; omega
    have hy : r[i.toNat]? = some (tri 0 0 0) := by
      rw [h3, List.getElem?_append_right (by simp; omega), List.getElem?_replicate, if_pos (by simp; omega)]
    cbv
    refine Ar.nn_ hA (by omega) ?_
    cbv
    refine Ar.toN_ hA (fun j hj => ?_)
    cbv
    refine Ar.idx_ hA (x := tri xa xb xc) (by rw [hj]; exact ex) ?_
    cbv
    refine Ar.call_ hA c_laws_toTri d_laws_toTri rfl ?_
    cbv
    refine Ar.nn_ hA h1 ?_
    cbv
    refine Ar.toN_ hA (fun j2 hj2 => ?_)
    cbv
    refine Ar.idx_ hA (x := tri 0 0 0) (by rw [hj2]; exact hy) ?_
    cbv
    refine Ar.idx_ hA (x := tri 0 0 0) (by rw [hj2]; exact hy) ?_
    cbv
    refine Ar.set_ hA (fun r' hr' => ?_)
    cbv
    refine Ar.add_ hA (by omega) (fun k hk => ?_)
    cbv
    refine ⟨(k, r'), (by show (n - k).toNat < (n - i).toNat; omega), ⟨by omega, by omega, ?_⟩, rfl, ⟨rfl, rfl, rfl, trivial⟩, rfl, trivial⟩
    rw [hr', h3, hj2, show k.toNat = i.toNat + 1 by omega]
    exact fill_step (by omega) ex
  · cbv
    exact hK _ _ (by rw [h3, List.take_of_length_le (by omega), show m - i.toNat = 0 by omega]; simp) rfl

theorem c_laws_eqTriS : Callable Try.prog 20 := ⟨_, Try.func20, rfl, by kernel_rfl⟩
theorem d_laws_eqTriS {es es' : List PV} {l l' : List T3} (hes : es = l.map T3.pv) (hes' : es' = l'.map T3.pv) (hb : l.length ≤ 1048576) : Does Try.prog 20 [.sl es, .sl es'] (.pv (bl (decide (l = l')))) [] := by
  refine does_of hT hM Try.func20 rfl (D := []) (by kernel_rfl) rfl rfl rfl (fun A K hA hK => ?_)
  have hlen : es.length = l.length := by simp [hes]
  have hlen' : es'.length = l'.length := by simp [hes']
  cbv
  refine Ar.len_ hA (fun n hn hn' => ?_)
  cbv
  refine Ar.len_ hA (fun n' hm hm' => ?_)
  cbv
  refine Ar.neq_ hA (fun h => ?_) (fun h => ?_)
  · cbv
    have : l ≠ l' := fun e => by subst e; omega
    exact hK _ _ (by simp [this]) rfl
  cbv
  refine Ar.loop_ hA (α := Int) (fun i => (n - i).toNat) (fun i => 0 ≤ i ∧ i ≤ n ∧ l.take i.toNat = l'.take i.toNat) 27 (fun i => [(0, .pv (.sl es) []), (1, .pv (.sl es') []), (5, .pv (i64 i) [])]) (fun _ => []) 0 ⟨rfl, ⟨rfl, rfl, rfl, trivial⟩, trivial⟩ ⟨by omega, by omega, by simp⟩ ?_
  intro i s f ⟨h1, h2, h3⟩
  cbv
  refine Ar.len_ hA (fun n2 hn2 hn2' => ?_)
  cbv
  refine Ar.lss_ hA (fun h => ?_) (fun h => ?_)
  · obtain ⟨⟨xa, xb, xc⟩, hx⟩ : ∃ p, l[i.toNat]? = some p := ⟨l[i.toNat]'(by omega), List.getElem?_eq_getElem _⟩
    obtain ⟨⟨ya, yb, yc⟩, hy⟩ : ∃ p, l'[i.toNat]? = some p := ⟨l'[i.toNat]'(by omega), List.getElem?_eq_getElem _⟩
    have ex : es[i.toNat]? = some (tri xa xb xc) := by rw [hes, List.getElem?_map, hx]; rfl
    have ey : es'[i.toNat]? = some (tri ya yb yc) := by rw [hes', List.getElem?_map, hy]; rfl
    cbv
    repeat' (first
      | apply And.intro
      | (refine Ar.nn_ hA (by omega) ?_; cbv)
      | (refine Ar.toN_ hA (fun j hj => ?_); cbv)
      | (refine Ar.idx_ hA (x := tri xa xb xc) (by rw [show j = i.toNat by omega]; exact ex) ?_; cbv)
      | (refine Ar.idx_ hA (x := tri ya yb yc) (by rw [show j = i.toNat by omega]; exact ey) ?_; cbv))
    all_goals
      refine Ar.callT hA c_laws_eqTri d_laws_eqTri rfl (fun hb => ?_) (fun hb => ?_)
      · have hpp := of_decide_eq_true hb
        cbv
        refine Ar.notT_ hA ?_
        cbv
        refine Ar.add_ hA (by omega) (fun k hk => ?_)
        cbv
        refine ⟨k, by omega, ⟨by omega, by omega, ?_⟩, rfl, ⟨rfl, rfl, rfl, trivial⟩, trivial⟩
        rw [show k.toNat = i.toNat + 1 by omega]
        exact take_next h3 hx (by rw [hpp]; exact hy)
      · have hpp := of_decide_eq_false hb
        cbv
        refine Ar.notF_ hA ?_
        cbv
        have : l ≠ l' := fun e => hpp (by subst e; rw [hx] at hy; exact Option.some.inj hy)
        exact hK _ _ (by simp [this]) rfl
  · cbv
    have : l = l' := take_all (by omega) h3 (by omega)
    exact hK _ _ (by simp [this]) rfl

def galF (l : List P2) : Bool := isWayF l && simpleF l
def triCross (l : List P2) (x : T3) : Int := cross (at0 l x.a.toNat) (at0 l x.b.toNat) (at0 l x.c.toNat)
def triOk (l : List P2) (x : T3) : Bool := triF l x.a x.b x.c && decide (sgn (triCross l x) = sgn (area2 l))
def tSum (l : List P2) (t : List T3) : Int := t.foldl (fun s x => s + triCross l x) 0
def isTria (l : List P2) (t : List T3) : Bool := decide (t.length + 2 = l.length) && t.all (triOk l) && decide (tSum l t = area2 l)
theorem tSum_next {l : List P2} {t : List T3} {i : Nat} {x : T3} (h : t[i]? = some x) : tSum l (t.take (i + 1)) = tSum l (t.take i) + triCross l x := foldl_take (fun s x => s + triCross l x) 0 h
theorem all_next {l : List P2} {t : List T3} {i : Nat} {x : T3} (h : t[i]? = some x) (h1 : (t.take i).all (triOk l) = true) (h2 : triOk l x = true) : (t.take (i + 1)).all (triOk l) = true := by
  rw [List.take_add_one, h, List.all_append, h1]; simp [h2]
theorem all_bad {l : List P2} {t : List T3} {i : Nat} {x : T3} (h : t[i]? = some x) (h2 : triOk l x = false) : isTria l t = false := by
  unfold isTria
  have : t.all (triOk l) = false := by
    rw [List.all_eq_false]
    exact ⟨x, List.mem_of_getElem? h, by rw [h2]; simp⟩
  rw [this, Bool.and_false, Bool.false_and]
theorem cross_bounds' {a b c : P2} (ha : -1000 ≤ a.x ∧ a.x ≤ 1000 ∧ -1000 ≤ a.y ∧ a.y ≤ 1000) (hb : -1000 ≤ b.x ∧ b.x ≤ 1000 ∧ -1000 ≤ b.y ∧ b.y ≤ 1000) (hc : -1000 ≤ c.x ∧ c.x ≤ 1000 ∧ -1000 ≤ c.y ∧ c.y ≤ 1000) : -16000000 ≤ cross a b c ∧ cross a b c ≤ 16000000 := by
  have m : ∀ x y : Int, -2000 ≤ x ∧ x ≤ 2000 → -2000 ≤ y ∧ y ≤ 2000 → -4000000 ≤ x * y ∧ x * y ≤ 4000000 := fun x y hx hy => by
    have h4 : (x * y).natAbs ≤ 2000 * 2000 := by
      rw [Int.natAbs_mul]
      exact Nat.mul_le_mul (by omega) (by omega)
    omega
  have m1 := m (b.x - a.x) (c.y - a.y) (by omega) (by omega)
  have m2 := m (b.y - a.y) (c.x - a.x) (by omega) (by omega)
  unfold cross
  generalize (b.x - a.x) * (c.y - a.y) = u at *
  generalize (b.y - a.y) * (c.x - a.x) = v at *
  omega
theorem area_three (a b c : P2) : area2 [a, b, c] = cross a b c := by
  obtain ⟨a1, a2⟩ := a
  obtain ⟨b1, b2⟩ := b
  obtain ⟨c1, c2⟩ := c
  simp [area2, areaU, nx, cross]
  grind

theorem c_spec_l11Simple : Callable Try.prog 47 := ⟨_, Try.func47, rfl, by kernel_rfl⟩
theorem d_spec_l11Simple {es : List PV} {l : List P2} (hes : es = l.map P2.pv) (hb : l.length ≤ 1048576) : Does Try.prog 47 [.sl es] (.pv (bl (galF l))) [] := by
  refine does_of hT hM Try.func47 rfl (D := []) (by kernel_rfl) rfl rfl rfl (fun A K hA hK => ?_)
  cbv
  refine Ar.callT hA c_spec_l8Way (d_spec_l8Way hes hb) rfl (fun hc => ?_) (fun hc => ?_)
  · obtain ⟨c1, c2, hok⟩ := isWayF_iff.1 hc
    have e : galF l = simpleF l := by unfold galF; rw [hc, Bool.true_and]
    rw [e] at hK
    have ds := d_spec_l8Simple hes c1 c2 hok
    generalize simpleF l = B at ds hK
    cbv
    refine Ar.call_ hA c_spec_l8Simple ds rfl ?_
    cbv
    exact hK _ _ rfl rfl
  · have e : galF l = false := by unfold galF; rw [hc, Bool.false_and]
    rw [e] at hK
    cbv
    exact hK _ _ rfl rfl

theorem c_impl_isGallery : Callable Try.prog 54 := ⟨_, Try.func54, rfl, by kernel_rfl⟩
theorem d_impl_isGallery {es : List PV} {l : List P2} (hes : es = l.map P2.pv) (hb : l.length ≤ 1048576) : Does Try.prog 54 [.sl es] (.pv (bl (galF l))) [] := by
  refine does_of hT hM Try.func54 rfl (D := []) (by kernel_rfl) rfl rfl rfl (fun A K hA hK => ?_)
  cbv
  refine Ar.callT hA c_impl_isWay (d_impl_isWay hes hb) rfl (fun hc => ?_) (fun hc => ?_)
  · obtain ⟨c1, c2, hok⟩ := isWayF_iff.1 hc
    have e : galF l = simpleF l := by unfold galF; rw [hc, Bool.true_and]
    rw [e] at hK
    have ds := d_impl_isSimple hes c1 c2 hok
    generalize simpleF l = B at ds hK
    cbv
    refine Ar.call_ hA c_impl_isSimple ds rfl ?_
    cbv
    exact hK _ _ rfl rfl
  · have e : galF l = false := by unfold galF; rw [hc, Bool.false_and]
    rw [e] at hK
    cbv
    exact hK _ _ rfl rfl

theorem c_spec_IsTriangulation : Callable Try.prog 15 := ⟨_, Try.func15, rfl, by kernel_rfl⟩
theorem d_spec_IsTriangulation {es fs : List PV} {l : List P2} {t : List T3} (hes : es = l.map P2.pv) (hfs : fs = t.map T3.pv) (hb : l.length ≤ 1048576) (hbt : t.length ≤ 1048576) : Does Try.prog 15 [.sl es, .sl fs] (.tup [.pv (bl (galF l && isTria l t)), .pv (bl (galF l))]) [] := by
  refine does_of hT hM Try.func15 rfl (D := []) (by kernel_rfl) rfl rfl rfl (fun A K hA hK => ?_)
  have hlen : es.length = l.length := by simp [hes]
  have hlen2 : fs.length = t.length := by simp [hfs]
  have hno : galF l = false → K (.tup [.pv (bl false), .pv (bl false)]) [] := fun h => hK _ _ (by rw [h]; rfl) rfl
  have hyes : galF l = true → ∀ b, b = isTria l t → K (.tup [.pv (bl b), .pv (bl true)]) [] := fun h b hb => hK _ _ (by rw [h, hb, Bool.true_and]) rfl
  clear hK
  cbv
  refine Ar.callT hA c_spec_l11Simple (d_spec_l11Simple hes hb) rfl (fun hc => ?_) (fun hc => ?_)
  rotate_left
  · cbv
    repeat' (first
      | (refine Ar.nn_ hA (by omega) ?_; cbv)
      | (refine Ar.toN_ hA (fun _ _ => ?_); cbv)
      | (refine Ar.notT_ hA ?_; cbv)
      | (refine Ar.notF_ hA ?_; cbv)
      | (refine Ar.lss_ hA (fun _ => ?_) (fun _ => ?_) <;> cbv)
      | (refine Ar.leq_ hA (fun _ => ?_) (fun _ => ?_) <;> cbv)
      | (refine Ar.gtr_ hA (fun _ => ?_) (fun _ => ?_) <;> cbv)
      | (refine Ar.geq_ hA (fun _ => ?_) (fun _ => ?_) <;> cbv)
      | (refine Ar.eql_ hA (fun _ => ?_) (fun _ => ?_) <;> cbv)
      | (refine Ar.neq_ hA (fun _ => ?_) (fun _ => ?_) <;> cbv)
      | (refine Ar.add_ hA (by omega) (fun _ _ => ?_); cbv)
      | (refine Ar.sub_ hA (by omega) (fun _ _ => ?_); cbv)
      | (refine Ar.neg_ hA (by omega) (fun _ _ => ?_); cbv)
      | (refine Ar.mulB hA 2000 2000 (by omega) (by omega) (by omega) (fun _ _ _ _ => ?_); cbv)
      | (refine Ar.mulB hA 3000000000 3000000000 (by omega) (by omega) (by omega) (fun _ _ _ _ => ?_); cbv)
      | (refine Ar.nz_ hA (by omega) ?_; cbv)
      | (refine Ar.rem_ hA (by omega) (fun _ _ => ?_); cbv)
      | (refine Ar.quo_ hA (by omega) (fun _ _ => ?_); cbv)
      | (refine Ar.mx_ hA (fun _ _ => ?_); cbv)
      | (refine Ar.mn_ hA (fun _ _ => ?_); cbv)
      | (refine Ar.len_ hA (fun _ _ _ => ?_); cbv)
      | (refine Ar.lenN_ hA (fun _ _ => ?_); cbv)
      | (refine Ar.bneq_ hA (fun _ => ?_) (fun _ => ?_) <;> cbv)
      | (refine Ar.beq_ hA (fun _ => ?_) (fun _ => ?_) <;> cbv)
      | (refine Ar.ofN_ hA (fun _ _ _ => ?_); cbv)
)
    exact hno hc
  have hyes := hyes hc
  have hway : isWayF l = true := by unfold galF at hc; rw [Bool.and_eq_true] at hc; exact hc.1
  obtain ⟨c1, c2, hok⟩ := isWayF_iff.1 hway
  clear hno hway
  have da := d_spec_l8Area hes (by omega) c2 hok
  obtain ⟨ar, har⟩ : ∃ a, a = area2 l := ⟨_, rfl⟩
  rw [← har] at da
  have hcount : t.length + 2 ≠ l.length → isTria l t = false := fun h => by unfold isTria; rw [decide_eq_false h]; rfl
  have hbadx := fun i x => all_bad (l := l) (t := t) (i := i) (x := x)
  have hend : ∀ s, t.length + 2 = l.length → t.all (triOk l) = true → s = tSum l t → decide (s = ar) = isTria l t := fun s h1 h2 h3 => by unfold isTria; rw [decide_eq_true h1, h2, h3, har]; rfl
  cbv
  refine Ar.notT_ hA ?_
  cbv
  refine Ar.len_ hA (fun n hn hn' => ?_)
  cbv
  refine Ar.len_ hA (fun m hm hm' => ?_)
  cbv
  refine Ar.sub_ hA (by omega) (fun m2 hm2 => ?_)
  cbv
  refine Ar.neq_ hA (fun g => ?_) (fun g => ?_)
  · cbv
    exact hyes _ (hcount (by omega)).symm
  cbv
  refine Ar.len_ hA (fun n2 hn2 hn2' => ?_)
  obtain rfl : n = n2 := by omega
  cbv
  refine Ar.loop_ hA (α := Int × Int) (fun x => (n - x.1).toNat) (fun (i, q) => 0 ≤ i ∧ i ≤ n ∧ -(16000000 * i) ≤ q ∧ q ≤ 16000000 * i ∧ q = tSum l (t.take i.toNat) ∧ (t.take i.toNat).all (triOk l) = true) 73 (fun (i, q) => [(0, .pv (.sl es) []), (6, .pv (i64 q) []), (18, .pv (.sl fs) []), (19, .pv (i64 n) []), (20, .pv (i64 i) [])]) (fun _ => []) (0, 0) (by refine ⟨?_, ⟨?_, ?_, ?_, ?_, ?_, trivial⟩, trivial⟩ <;> cbv) ⟨by omega, by omega, by omega, by omega, rfl, rfl⟩ ?_
  intro ⟨i, q⟩ s f ⟨h1, h2, h3, h4, h5, h6⟩
  cbv
  refine Ar.lss_ hA (fun h => ?_) (fun h => ?_)
  · obtain ⟨⟨xa, xb, xc⟩, hx⟩ : ∃ p, t[i.toNat]? = some p := ⟨t[i.toNat]'(by omega), List.getElem?_eq_getElem _⟩
    have ex : fs[i.toNat]? = some (tri xa xb xc) := by rw [hfs, List.getElem?_map, hx]; rfl
    have hbad : triOk l ⟨xa, xb, xc⟩ = false → isTria l t = false := hbadx _ _ hx
    have hsum := tSum_next (l := l) hx
    have hall := all_next hx h6
    clear hbadx
    cbv
    refine Ar.nn_ hA (by omega) ?_
    cbv
    refine Ar.toN_ hA (fun j hj => ?_)
    cbv
    refine Ar.idx_ hA (x := tri xa xb xc) (by rw [hj]; exact ex) ?_
    cbv
    refine Ar.callT hA c_spec_l11Tri (d_spec_l11Tri (a := xa) (b := xb) (c := xc) hes hb) rfl (fun ht => ?_) (fun ht => ?_)
    rotate_left
    · cbv
      repeat' (first
        | (refine Ar.nn_ hA (by omega) ?_; cbv)
        | (refine Ar.toN_ hA (fun _ _ => ?_); cbv)
        | (refine Ar.notT_ hA ?_; cbv)
        | (refine Ar.notF_ hA ?_; cbv)
        | (refine Ar.lss_ hA (fun _ => ?_) (fun _ => ?_) <;> cbv)
        | (refine Ar.leq_ hA (fun _ => ?_) (fun _ => ?_) <;> cbv)
        | (refine Ar.gtr_ hA (fun _ => ?_) (fun _ => ?_) <;> cbv)
        | (refine Ar.geq_ hA (fun _ => ?_) (fun _ => ?_) <;> cbv)
        | (refine Ar.eql_ hA (fun _ => ?_) (fun _ => ?_) <;> cbv)
        | (refine Ar.neq_ hA (fun _ => ?_) (fun _ => ?_) <;> cbv)
        | (refine Ar.add_ hA (by omega) (fun _ _ => ?_); cbv)
        | (refine Ar.sub_ hA (by omega) (fun _ _ => ?_); cbv)
        | (refine Ar.neg_ hA (by omega) (fun _ _ => ?_); cbv)
        | (refine Ar.mulB hA 2000 2000 (by omega) (by omega) (by omega) (fun _ _ _ _ => ?_); cbv)
        | (refine Ar.mulB hA 3000000000 3000000000 (by omega) (by omega) (by omega) (fun _ _ _ _ => ?_); cbv)
        | (refine Ar.nz_ hA (by omega) ?_; cbv)
        | (refine Ar.rem_ hA (by omega) (fun _ _ => ?_); cbv)
        | (refine Ar.quo_ hA (by omega) (fun _ _ => ?_); cbv)
        | (refine Ar.mx_ hA (fun _ _ => ?_); cbv)
        | (refine Ar.mn_ hA (fun _ _ => ?_); cbv)
        | (refine Ar.len_ hA (fun _ _ _ => ?_); cbv)
        | (refine Ar.lenN_ hA (fun _ _ => ?_); cbv)
        | (refine Ar.bneq_ hA (fun _ => ?_) (fun _ => ?_) <;> cbv)
        | (refine Ar.beq_ hA (fun _ => ?_) (fun _ => ?_) <;> cbv)
        | (refine Ar.ofN_ hA (fun _ _ _ => ?_); cbv)
)
      exact hyes _ (hbad (by unfold triOk; rw [ht]; rfl)).symm
    have ht2 := ht
    unfold triF cornerF at ht2
    simp only [Bool.and_eq_true, decide_eq_true_eq, ofNat_eq] at ht2
    obtain ⟨⟨pax, pay⟩, hpa⟩ : ∃ p, l[xa.toNat]? = some p := ⟨l[xa.toNat]'(by omega), List.getElem?_eq_getElem _⟩
    obtain ⟨⟨pbx, pby⟩, hpb⟩ : ∃ p, l[xb.toNat]? = some p := ⟨l[xb.toNat]'(by omega), List.getElem?_eq_getElem _⟩
    obtain ⟨⟨pcx, pcy⟩, hpc⟩ : ∃ p, l[xc.toNat]? = some p := ⟨l[xc.toNat]'(by omega), List.getElem?_eq_getElem _⟩
    have ea : es[xa.toNat]? = some (pt pax pay) := by rw [hes, List.getElem?_map, hpa]; rfl
    have eb : es[xb.toNat]? = some (pt pbx pby) := by rw [hes, List.getElem?_map, hpb]; rfl
    have ec : es[xc.toNat]? = some (pt pcx pcy) := by rw [hes, List.getElem?_map, hpc]; rfl
    have ba := ok_bounds hok hpa
    have bb := ok_bounds hok hpb
    have bc := ok_bounds hok hpc
    have htc : triCross l ⟨xa, xb, xc⟩ = cross ⟨pax, pay⟩ ⟨pbx, pby⟩ ⟨pcx, pcy⟩ := by unfold triCross; rw [at0_of hpa, at0_of hpb, at0_of hpc]
    have hcb : -16000000 ≤ cross ⟨pax, pay⟩ ⟨pbx, pby⟩ ⟨pcx, pcy⟩ ∧ cross ⟨pax, pay⟩ ⟨pbx, pby⟩ ⟨pcx, pcy⟩ ≤ 16000000 := cross_bounds' ba bb bc
    have hok3 : ∀ p ∈ [(⟨pax, pay⟩ : P2), ⟨pbx, pby⟩, ⟨pcx, pcy⟩], p.ok = true := fun p hp => by
      simp only [List.mem_cons, List.not_mem_nil, or_false] at hp
      rcases hp with rfl | rfl | rfl
      · exact P2.ok_iff.2 ba
      · exact P2.ok_iff.2 bb
      · exact P2.ok_iff.2 bc
    have hgo : triOk l ⟨xa, xb, xc⟩ = decide (sgn (cross ⟨pax, pay⟩ ⟨pbx, pby⟩ ⟨pcx, pcy⟩) = sgn ar) := by unfold triOk; rw [ht, htc, har, Bool.true_and]
    rw [hgo] at hbad hall
    rw [htc] at hsum
    clear hgo htc
    cbv
    refine Ar.notT_ hA ?_
    cbv
    repeat' (first
      | (refine Ar.nn_ hA (by omega) ?_; cbv)
      | (refine Ar.toN_ hA (fun jj hjj => ?_); cbv)
      | (refine Ar.idx_ hA (x := pt pax pay) (by rw [hjj]; exact ea) ?_; cbv)
      | (refine Ar.idx_ hA (x := pt pbx pby) (by rw [hjj]; exact eb) ?_; cbv)
      | (refine Ar.idx_ hA (x := pt pcx pcy) (by rw [hjj]; exact ec) ?_; cbv))
    refine Ar.callI hA c_spec_l8Orient (d_spec_l8Orient ba bb bc) rfl (fun g1 hg1 => ?_)
    cbv
    refine Ar.call_ hA c_spec_l8Area da rfl ?_
    cbv
    refine Ar.callI hA c_spec_l8Sign d_spec_l8Sign rfl (fun g2 hg2 => ?_)
    cbv
    refine Ar.neq_ hA (fun hne => ?_) (fun heq => ?_)
    · cbv
      exact hyes _ (hbad (decide_eq_false (fun e => hne (by rw [hg1, hg2, e])))).symm
    · have hall := hall (decide_eq_true (by rw [← hg1, ← hg2, heq]))
      cbv
      repeat' (first
        | (refine Ar.nn_ hA (by omega) ?_; cbv)
        | (refine Ar.toN_ hA (fun jj hjj => ?_); cbv)
        | (refine Ar.idx_ hA (x := pt pax pay) (by rw [hjj]; exact ea) ?_; cbv)
        | (refine Ar.idx_ hA (x := pt pbx pby) (by rw [hjj]; exact eb) ?_; cbv)
        | (refine Ar.idx_ hA (x := pt pcx pcy) (by rw [hjj]; exact ec) ?_; cbv))
      refine Ar.callI hA c_spec_l8Cross (d_spec_l8Cross ba bb bc) rfl (fun z hz => ?_)
      cbv
      refine Ar.add_ hA (by omega) (fun q' hq' => ?_)
      cbv
      refine Ar.add_ hA (by omega) (fun i' hi' => ?_)
      cbv
      exact ⟨(i', q'), (by show (n - i').toNat < (n - i).toNat; omega), ⟨by omega, by omega, by omega, by omega, by rw [show i'.toNat = i.toNat + 1 by omega, hsum, hq', hz, h5], by rw [show i'.toNat = i.toNat + 1 by omega]; exact hall⟩, (by refine ⟨?_, ⟨?_, ?_, ?_, ?_, ?_, trivial⟩, trivial⟩ <;> cbv)⟩
  · rw [List.take_of_length_le (by omega)] at h5 h6
    have he := hend q (by omega) h6 h5
    cbv
    refine Ar.call_ hA c_spec_l8Area da rfl ?_
    cbv
    refine Ar.eql_ hA (fun e => ?_) (fun e => ?_)
    · cbv
      exact hyes _ (by rw [← he, decide_eq_true e])
    · cbv
      exact hyes _ (by rw [← he, decide_eq_false e])

theorem c_impl_IsTriangulation : Callable Try.prog 18 := ⟨_, Try.func18, rfl, by kernel_rfl⟩
theorem d_impl_IsTriangulation {es fs : List PV} {l : List P2} {t : List T3} (hes : es = l.map P2.pv) (hfs : fs = t.map T3.pv) (hb : l.length ≤ 1048576) (hbt : t.length ≤ 1048576) : Does Try.prog 18 [.sl es, .sl fs] (.tup [.pv (bl (galF l && isTria l t)), .pv (bl (galF l))]) [] := by
  refine does_of hT hM Try.func18 rfl (D := []) (by kernel_rfl) rfl rfl rfl (fun A K hA hK => ?_)
  have hlen : es.length = l.length := by simp [hes]
  have hlen2 : fs.length = t.length := by simp [hfs]
  have hno : galF l = false → K (.tup [.pv (bl false), .pv (bl false)]) [] := fun h => hK _ _ (by rw [h]; rfl) rfl
  have hyes : galF l = true → ∀ b, b = isTria l t → K (.tup [.pv (bl b), .pv (bl true)]) [] := fun h b hb => hK _ _ (by rw [h, hb, Bool.true_and]) rfl
  clear hK
  cbv
  refine Ar.callT hA c_impl_isGallery (d_impl_isGallery hes hb) rfl (fun hc => ?_) (fun hc => ?_)
  rotate_left
  · cbv
    repeat' (first
      | (refine Ar.nn_ hA (by omega) ?_; cbv)
      | (refine Ar.toN_ hA (fun _ _ => ?_); cbv)
      | (refine Ar.notT_ hA ?_; cbv)
      | (refine Ar.notF_ hA ?_; cbv)
      | (refine Ar.lss_ hA (fun _ => ?_) (fun _ => ?_) <;> cbv)
      | (refine Ar.leq_ hA (fun _ => ?_) (fun _ => ?_) <;> cbv)
      | (refine Ar.gtr_ hA (fun _ => ?_) (fun _ => ?_) <;> cbv)
      | (refine Ar.geq_ hA (fun _ => ?_) (fun _ => ?_) <;> cbv)
      | (refine Ar.eql_ hA (fun _ => ?_) (fun _ => ?_) <;> cbv)
      | (refine Ar.neq_ hA (fun _ => ?_) (fun _ => ?_) <;> cbv)
      | (refine Ar.add_ hA (by omega) (fun _ _ => ?_); cbv)
      | (refine Ar.sub_ hA (by omega) (fun _ _ => ?_); cbv)
      | (refine Ar.neg_ hA (by omega) (fun _ _ => ?_); cbv)
      | (refine Ar.mulB hA 2000 2000 (by omega) (by omega) (by omega) (fun _ _ _ _ => ?_); cbv)
      | (refine Ar.mulB hA 3000000000 3000000000 (by omega) (by omega) (by omega) (fun _ _ _ _ => ?_); cbv)
      | (refine Ar.nz_ hA (by omega) ?_; cbv)
      | (refine Ar.rem_ hA (by omega) (fun _ _ => ?_); cbv)
      | (refine Ar.quo_ hA (by omega) (fun _ _ => ?_); cbv)
      | (refine Ar.mx_ hA (fun _ _ => ?_); cbv)
      | (refine Ar.mn_ hA (fun _ _ => ?_); cbv)
      | (refine Ar.len_ hA (fun _ _ _ => ?_); cbv)
      | (refine Ar.lenN_ hA (fun _ _ => ?_); cbv)
      | (refine Ar.bneq_ hA (fun _ => ?_) (fun _ => ?_) <;> cbv)
      | (refine Ar.beq_ hA (fun _ => ?_) (fun _ => ?_) <;> cbv)
      | (refine Ar.ofN_ hA (fun _ _ _ => ?_); cbv)
)
    exact hno hc
  have hyes := hyes hc
  have hway : isWayF l = true := by unfold galF at hc; rw [Bool.and_eq_true] at hc; exact hc.1
  obtain ⟨c1, c2, hok⟩ := isWayF_iff.1 hway
  clear hno hway
  have da := d_impl_areaTwice hes (by omega) c2 hok
  obtain ⟨ar, har⟩ : ∃ a, a = area2 l := ⟨_, rfl⟩
  rw [← har] at da
  have hcount : t.length + 2 ≠ l.length → isTria l t = false := fun h => by unfold isTria; rw [decide_eq_false h]; rfl
  have hbadx := fun i x => all_bad (l := l) (t := t) (i := i) (x := x)
  have hend : ∀ s, t.length + 2 = l.length → t.all (triOk l) = true → s = tSum l t → decide (s = ar) = isTria l t := fun s h1 h2 h3 => by unfold isTria; rw [decide_eq_true h1, h2, h3, har]; rfl
  cbv
  refine Ar.notT_ hA ?_
  cbv
  refine Ar.call_ hA c_impl_areaTwice da rfl ?_
  cbv
  refine Ar.len_ hA (fun n hn hn' => ?_)
  cbv
  refine Ar.len_ hA (fun m hm hm' => ?_)
  cbv
  refine Ar.sub_ hA (by omega) (fun m2 hm2 => ?_)
  cbv
  refine Ar.neq_ hA (fun g => ?_) (fun g => ?_)
  · cbv
    exact hyes _ (hcount (by omega)).symm
  cbv
  refine Ar.len_ hA (fun n2 hn2 hn2' => ?_)
  obtain rfl : n = n2 := by omega
  cbv
  refine Ar.loop_ hA (α := Int × Int) (fun x => (n - x.1).toNat) (fun (i, q) => 0 ≤ i ∧ i ≤ n ∧ -(16000000 * i) ≤ q ∧ q ≤ 16000000 * i ∧ q = tSum l (t.take i.toNat) ∧ (t.take i.toNat).all (triOk l) = true) 75 (fun (i, q) => [(0, .pv (.sl es) []), (6, .pv (i64 ar) []), (7, .pv (i64 q) []), (21, .pv (.sl fs) []), (22, .pv (i64 n) []), (23, .pv (i64 i) [])]) (fun _ => []) (0, 0) (by refine ⟨?_, ⟨?_, ?_, ?_, ?_, ?_, ?_, trivial⟩, trivial⟩ <;> cbv) ⟨by omega, by omega, by omega, by omega, rfl, rfl⟩ ?_
  intro ⟨i, q⟩ s f ⟨h1, h2, h3, h4, h5, h6⟩
  cbv
  refine Ar.lss_ hA (fun h => ?_) (fun h => ?_)
  · obtain ⟨⟨xa, xb, xc⟩, hx⟩ : ∃ p, t[i.toNat]? = some p := ⟨t[i.toNat]'(by omega), List.getElem?_eq_getElem _⟩
    have ex : fs[i.toNat]? = some (tri xa xb xc) := by rw [hfs, List.getElem?_map, hx]; rfl
    have hbad : triOk l ⟨xa, xb, xc⟩ = false → isTria l t = false := hbadx _ _ hx
    have hsum := tSum_next (l := l) hx
    have hall := all_next hx h6
    clear hbadx
    cbv
    refine Ar.nn_ hA (by omega) ?_
    cbv
    refine Ar.toN_ hA (fun j hj => ?_)
    cbv
    refine Ar.idx_ hA (x := tri xa xb xc) (by rw [hj]; exact ex) ?_
    cbv
    refine Ar.callT hA c_impl_isTri (d_impl_isTri (a := xa) (b := xb) (c := xc) hes hb) rfl (fun ht => ?_) (fun ht => ?_)
    rotate_left
    · cbv
      repeat' (first
        | (refine Ar.nn_ hA (by omega) ?_; cbv)
        | (refine Ar.toN_ hA (fun _ _ => ?_); cbv)
        | (refine Ar.notT_ hA ?_; cbv)
        | (refine Ar.notF_ hA ?_; cbv)
        | (refine Ar.lss_ hA (fun _ => ?_) (fun _ => ?_) <;> cbv)
        | (refine Ar.leq_ hA (fun _ => ?_) (fun _ => ?_) <;> cbv)
        | (refine Ar.gtr_ hA (fun _ => ?_) (fun _ => ?_) <;> cbv)
        | (refine Ar.geq_ hA (fun _ => ?_) (fun _ => ?_) <;> cbv)
        | (refine Ar.eql_ hA (fun _ => ?_) (fun _ => ?_) <;> cbv)
        | (refine Ar.neq_ hA (fun _ => ?_) (fun _ => ?_) <;> cbv)
        | (refine Ar.add_ hA (by omega) (fun _ _ => ?_); cbv)
        | (refine Ar.sub_ hA (by omega) (fun _ _ => ?_); cbv)
        | (refine Ar.neg_ hA (by omega) (fun _ _ => ?_); cbv)
        | (refine Ar.mulB hA 2000 2000 (by omega) (by omega) (by omega) (fun _ _ _ _ => ?_); cbv)
        | (refine Ar.mulB hA 3000000000 3000000000 (by omega) (by omega) (by omega) (fun _ _ _ _ => ?_); cbv)
        | (refine Ar.nz_ hA (by omega) ?_; cbv)
        | (refine Ar.rem_ hA (by omega) (fun _ _ => ?_); cbv)
        | (refine Ar.quo_ hA (by omega) (fun _ _ => ?_); cbv)
        | (refine Ar.mx_ hA (fun _ _ => ?_); cbv)
        | (refine Ar.mn_ hA (fun _ _ => ?_); cbv)
        | (refine Ar.len_ hA (fun _ _ _ => ?_); cbv)
        | (refine Ar.lenN_ hA (fun _ _ => ?_); cbv)
        | (refine Ar.bneq_ hA (fun _ => ?_) (fun _ => ?_) <;> cbv)
        | (refine Ar.beq_ hA (fun _ => ?_) (fun _ => ?_) <;> cbv)
        | (refine Ar.ofN_ hA (fun _ _ _ => ?_); cbv)
)
      exact hyes _ (hbad (by unfold triOk; rw [ht]; rfl)).symm
    have ht2 := ht
    unfold triF cornerF at ht2
    simp only [Bool.and_eq_true, decide_eq_true_eq, ofNat_eq] at ht2
    obtain ⟨⟨pax, pay⟩, hpa⟩ : ∃ p, l[xa.toNat]? = some p := ⟨l[xa.toNat]'(by omega), List.getElem?_eq_getElem _⟩
    obtain ⟨⟨pbx, pby⟩, hpb⟩ : ∃ p, l[xb.toNat]? = some p := ⟨l[xb.toNat]'(by omega), List.getElem?_eq_getElem _⟩
    obtain ⟨⟨pcx, pcy⟩, hpc⟩ : ∃ p, l[xc.toNat]? = some p := ⟨l[xc.toNat]'(by omega), List.getElem?_eq_getElem _⟩
    have ea : es[xa.toNat]? = some (pt pax pay) := by rw [hes, List.getElem?_map, hpa]; rfl
    have eb : es[xb.toNat]? = some (pt pbx pby) := by rw [hes, List.getElem?_map, hpb]; rfl
    have ec : es[xc.toNat]? = some (pt pcx pcy) := by rw [hes, List.getElem?_map, hpc]; rfl
    have ba := ok_bounds hok hpa
    have bb := ok_bounds hok hpb
    have bc := ok_bounds hok hpc
    have htc : triCross l ⟨xa, xb, xc⟩ = cross ⟨pax, pay⟩ ⟨pbx, pby⟩ ⟨pcx, pcy⟩ := by unfold triCross; rw [at0_of hpa, at0_of hpb, at0_of hpc]
    have hcb : -16000000 ≤ cross ⟨pax, pay⟩ ⟨pbx, pby⟩ ⟨pcx, pcy⟩ ∧ cross ⟨pax, pay⟩ ⟨pbx, pby⟩ ⟨pcx, pcy⟩ ≤ 16000000 := cross_bounds' ba bb bc
    have hok3 : ∀ p ∈ [(⟨pax, pay⟩ : P2), ⟨pbx, pby⟩, ⟨pcx, pcy⟩], p.ok = true := fun p hp => by
      simp only [List.mem_cons, List.not_mem_nil, or_false] at hp
      rcases hp with rfl | rfl | rfl
      · exact P2.ok_iff.2 ba
      · exact P2.ok_iff.2 bb
      · exact P2.ok_iff.2 bc
    have hgo : triOk l ⟨xa, xb, xc⟩ = decide (sgn (cross ⟨pax, pay⟩ ⟨pbx, pby⟩ ⟨pcx, pcy⟩) = sgn ar) := by unfold triOk; rw [ht, htc, har, Bool.true_and]
    rw [hgo] at hbad hall
    rw [htc] at hsum
    clear hgo htc
    cbv
    refine Ar.notT_ hA ?_
    cbv
    repeat' (first
      | (refine Ar.nn_ hA (by omega) ?_; cbv)
      | (refine Ar.toN_ hA (fun jj hjj => ?_); cbv)
      | (refine Ar.idx_ hA (x := pt pax pay) (by rw [hjj]; exact ea) ?_; cbv)
      | (refine Ar.idx_ hA (x := pt pbx pby) (by rw [hjj]; exact eb) ?_; cbv)
      | (refine Ar.idx_ hA (x := pt pcx pcy) (by rw [hjj]; exact ec) ?_; cbv))
    refine Ar.callI hA c_impl_orient (d_impl_orient ba bb bc) rfl (fun g1 hg1 => ?_)
    cbv
    refine Ar.callI hA c_impl_signOf d_impl_signOf rfl (fun g2 hg2 => ?_)
    cbv
    refine Ar.neq_ hA (fun hne => ?_) (fun heq => ?_)
    · cbv
      exact hyes _ (hbad (decide_eq_false (fun e => hne (by rw [hg1, hg2, e])))).symm
    · have hall := hall (decide_eq_true (by rw [← hg1, ← hg2, heq]))
      cbv
      repeat' (first
        | (refine Ar.nn_ hA (by omega) ?_; cbv)
        | (refine Ar.toN_ hA (fun jj hjj => ?_); cbv)
        | (refine Ar.idx_ hA (x := pt pax pay) (by rw [hjj]; exact ea) ?_; cbv)
        | (refine Ar.idx_ hA (x := pt pbx pby) (by rw [hjj]; exact eb) ?_; cbv)
        | (refine Ar.idx_ hA (x := pt pcx pcy) (by rw [hjj]; exact ec) ?_; cbv))
      refine Ar.callI hA c_impl_areaTwice (d_impl_areaTwice (l := [⟨pax, pay⟩, ⟨pbx, pby⟩, ⟨pcx, pcy⟩]) rfl (by simp) (by simp) hok3) rfl (fun z hz => ?_)
      rw [area_three] at hz
      cbv
      refine Ar.add_ hA (by omega) (fun q' hq' => ?_)
      cbv
      refine Ar.add_ hA (by omega) (fun i' hi' => ?_)
      cbv
      exact ⟨(i', q'), (by show (n - i').toNat < (n - i).toNat; omega), ⟨by omega, by omega, by omega, by omega, by rw [show i'.toNat = i.toNat + 1 by omega, hsum, hq', hz, h5], by rw [show i'.toNat = i.toNat + 1 by omega]; exact hall⟩, (by refine ⟨?_, ⟨?_, ?_, ?_, ?_, ?_, ?_, trivial⟩, trivial⟩ <;> cbv)⟩
  · rw [List.take_of_length_le (by omega)] at h5 h6
    have he := hend q (by omega) h6 h5
    cbv
    refine Ar.eql_ hA (fun e => ?_) (fun e => ?_)
    · cbv
      exact hyes _ (by rw [← he, decide_eq_true e])
    · cbv
      exact hyes _ (by rw [← he, decide_eq_false e])

theorem c_laws_FnExactIsTriangulation : Callable Try.prog 3 := ⟨_, Try.func3, rfl, by kernel_rfl⟩
theorem d_laws_FnExactIsTriangulation {es fs : List PV} {l : List P2} {t : List T3} (hes : es = l.map P2.pv ∧ l.length ≤ 9223372036854775807) (hfs : fs = t.map T3.pv ∧ t.length ≤ 9223372036854775807) : Does Try.prog 3 [.sl es, .sl fs] (.pv (bl true)) [] := by
  refine does_of hT hM Try.func3 rfl (D := []) (by kernel_rfl) rfl rfl rfl (fun A K hA hK => ?_)
  obtain ⟨hes, hmax⟩ := hes
  obtain ⟨hfs, hmax2⟩ := hfs
  have hlen : es.length = l.length := by simp [hes]
  have hlen2 : fs.length = t.length := by simp [hfs]
  cbv
  refine Ar.callI hA c_laws_szPtS (d_laws_szPtS (by omega) (by omega)) rfl (fun r hr => ?_)
  cbv
  refine Ar.lss_ hA (fun h => ?_) (fun h => ?_)
  · cbv
    exact hK _ _ rfl rfl
  have hb : l.length ≤ 1048576 := by have := szF_le hr h; omega
  have hr2 : r ≤ 1048576 := by unfold szF at hr; split at hr <;> omega
  cbv
  refine Ar.callI hA c_laws_szTriS (d_laws_szTriS (by omega) (by omega)) rfl (fun r3 hr3 => ?_)
  cbv
  refine Ar.lss_ hA (fun h => ?_) (fun h => ?_)
  · cbv
    exact hK _ _ rfl rfl
  have hbm : t.length ≤ 1048576 := by unfold szF at hr3; split at hr3 <;> omega
  have e1 := d_laws_eqPtS hes hes hb
  have e2 := d_laws_eqTriS hfs hfs hbm
  rw [decide_eq_true rfl] at e1 e2
  have dS := d_spec_IsTriangulation hes hfs hb hbm
  have dI := d_impl_IsTriangulation hes hfs hb hbm
  generalize (galF l && isTria l t) = B at dS dI
  generalize galF l = G at dS dI
  cbv
  repeat' (first
    | (refine Ar.call_ hA c_laws_toPtS (d_laws_toPtS hes hb) rfl ?_; cbv)
    | (refine Ar.call_ hA c_laws_toTriS (d_laws_toTriS hfs hbm) rfl ?_; cbv)
    | (refine Ar.call_ hA c_spec_IsTriangulation dS rfl ?_; cbv)
    | (refine Ar.call_ hA c_impl_IsTriangulation dI rfl ?_; cbv)
    | (refine Ar.call_ hA c_laws_eqPtS e1 rfl ?_; cbv)
    | (refine Ar.call_ hA c_laws_eqTriS e2 rfl ?_; cbv)
    | (refine Ar.notT_ hA ?_; cbv)
    | (refine Ar.bneq_ hA (fun h => absurd rfl h) (fun _ => ?_); cbv))
  exact hK _ _ rfl rfl

end Go.VAI
