/- HasPt. -/
import Derived.Test.YtidbgfknaopkkaaZ6
namespace Go.VAI
open Go.Proofs
set_option maxRecDepth 100000
set_option maxHeartbeats 8000000

def hasE (l : List P2) (p : P2) (i : Nat) : Bool := decide (0 ≤ sgn (cross (at0 l i) (nx l i) p))
def hasF (l : List P2) (p : P2) : Bool := (List.range l.length).all (hasE l p)
theorem has_yes {l : List P2} {p : P2} (h : ∀ k, k < l.length → hasE l p k = true) : hasF l p = true := by
  unfold hasF
  rw [List.all_eq_true]
  exact fun k hk => h k (List.mem_range.1 hk)
theorem has_no {l : List P2} {p : P2} {k : Nat} (hk : k < l.length) (h : hasE l p k = false) : hasF l p = false := by
  unfold hasF
  rw [List.all_eq_false]
  exact ⟨k, List.mem_range.2 hk, by rw [h]; simp⟩

theorem c_spec_l10Has : Callable Try.prog 83 := ⟨_, Try.func83, rfl, by kernel_rfl⟩
theorem d_spec_l10Has {es : List PV} {l : List P2} {px py : Int} (hes : es = l.map P2.pv) (h0 : 0 < l.length) (hb : l.length ≤ 12) (hok : ∀ p ∈ l, p.ok = true) (hp : -1000 ≤ px ∧ px ≤ 1000 ∧ -1000 ≤ py ∧ py ≤ 1000) : Does Try.prog 83 [.sl es, pt px py] (.pv (bl (hasF l ⟨px, py⟩))) [] := by
  refine does_of hT hM Try.func83 rfl (D := []) (by kernel_rfl) rfl rfl rfl (fun A K hA hK => ?_)
  have hlen : es.length = l.length := by simp [hes]
  have hyes := has_yes (l := l) (p := ⟨px, py⟩)
  have hno := fun k => has_no (l := l) (p := ⟨px, py⟩) (k := k)
  obtain ⟨B, hB⟩ : ∃ B, B = hasF l ⟨px, py⟩ := ⟨_, rfl⟩
  rw [← hB] at hyes hK
  simp only [← hB] at hno
  clear hB
  cbv
  refine Ar.len_ hA (fun n hn hn' => ?_)
  cbv
  refine Ar.loop_ hA (α := Int) (fun i => (n - i).toNat) (fun i => 0 ≤ i ∧ i ≤ n ∧ ∀ k, k < i.toNat → hasE l ⟨px, py⟩ k = true) 22 (fun i => [(0, .pv (.sl es) []), (3, .ref 3 0), (7, .pv (.sl es) []), (8, .pv (i64 n) []), (9, .pv (i64 i) [])]) (fun _ => [(3, some (.cell [.pv (i64 px) [], .pv (i64 py) []]))]) 0 (by refine ⟨?_, ⟨?_, ?_, ?_, ?_, ?_, trivial⟩, ?_, trivial⟩ <;> cbv) ⟨by omega, by omega, fun k hk => absurd hk (by simp)⟩ ?_
  intro i s f ⟨h1, h2, h3⟩
  cbv
  refine Ar.lss_ hA (fun h => ?_) (fun h => ?_)
  · cbv
    refine Ar.nn_ hA (by omega) ?_
    cbv
    refine Ar.toN_ hA (fun j hj => ?_)
    cbv
    obtain ⟨⟨qx, qy⟩, hq⟩ : ∃ p, l[j]? = some p := ⟨l[j]'(by omega), List.getElem?_eq_getElem _⟩
    refine Ar.idx_ hA (x := pt qx qy) (by simp [hes, hq, P2.pv]) ?_
    cbv
    have bq := ok_bounds hok hq
    have bn := nx_bounds hok (by omega) i.toNat
    obtain ⟨nxx, nxy, hn0⟩ : ∃ x y, nx l i.toNat = ⟨x, y⟩ := ⟨_, _, rfl⟩
    have dn := d_spec_l8Next (i := i) hes (by omega) (by omega) (by omega)
    have ha0 : at0 l i.toNat = ⟨qx, qy⟩ := by rw [← hj]; exact at0_of hq
    have hE : hasE l ⟨px, py⟩ i.toNat = decide (0 ≤ sgn (cross ⟨qx, qy⟩ ⟨nxx, nxy⟩ ⟨px, py⟩)) := by unfold hasE; rw [ha0, hn0]
    rw [hn0] at dn bn
    simp only at dn bn
    refine Ar.call_ hA c_spec_l8Next dn rfl ?_
    cbv
    refine Ar.callI hA c_spec_l8Orient (d_spec_l8Orient bq bn hp) rfl (fun o ho => ?_)
    cbv
    refine Ar.lss_ hA (fun g => ?_) (fun g => ?_)
    · have : B = false := hno i.toNat (by omega) (by rw [hE]; exact decide_eq_false (by omega))
      cbv
      exact hK _ _ (by rw [this]) rfl
    · cbv
      refine Ar.add_ hA (by omega) (fun i' hi' => ?_)
      cbv
      refine ⟨i', (by show (n - i').toNat < (n - i).toNat; omega), ⟨by omega, by omega, fun k hk => ?_⟩, (by refine ⟨?_, ⟨?_, ?_, ?_, ?_, ?_, trivial⟩, ?_, trivial⟩ <;> cbv)⟩
      by_cases e : k = i.toNat
      · rw [e, hE]; exact decide_eq_true (by omega)
      · exact h3 k (by omega)
  · cbv
    have : B = true := hyes (fun k hk => h3 k (by omega))
    exact hK _ _ (by rw [this]) rfl

def goodHas (l : List P2) (p : P2) : Bool := isWayF l && P2.ok p && convF l

theorem c_spec_HasPt : Callable Try.prog 44 := ⟨_, Try.func44, rfl, by kernel_rfl⟩
theorem d_spec_HasPt {es : List PV} {l : List P2} {px py : Int} (hes : es = l.map P2.pv) (hb : l.length ≤ 1048576) : Does Try.prog 44 [.sl es, pt px py] (.tup [.pv (bl (goodHas l ⟨px, py⟩ && hasF l ⟨px, py⟩)), .pv (bl (goodHas l ⟨px, py⟩))]) [] := by
  refine does_of hT hM Try.func44 rfl (D := []) (by kernel_rfl) rfl rfl rfl (fun A K hA hK => ?_)
  have hno : goodHas l ⟨px, py⟩ = false → K (.tup [.pv (bl false), .pv (bl false)]) [] := fun h => hK _ _ (by rw [h]; rfl) rfl
  have hyes : goodHas l ⟨px, py⟩ = true → K (.tup [.pv (bl (hasF l ⟨px, py⟩)), .pv (bl true)]) [] := fun h => hK _ _ (by rw [h, Bool.true_and]) rfl
  clear hK
  cbv
  refine Ar.callT hA c_spec_l8Way (d_spec_l8Way hes hb) rfl (fun hc => ?_) (fun hc => ?_)
  rotate_left
  · cbv
    repeat' (first
      | (refine Ar.nn_ hA (by omega) ?_; cbv)
      | (refine Ar.toN_ hA (fun _ _ => ?_); cbv)
      | (refine Ar.notT_ hA ?_; cbv)
      | (refine Ar.notF_ hA ?_; cbv)
      | (refine Ar.lss_ hA (fun _ => ?_) (fun _ => ?_) <;> cbv)
      | (refine Ar.leq_ hA (fun _ => ?_) (fun _ => ?_) <;> cbv)
      | (refine Ar.gtr_ hA (fun _ => ?_) (fun _ => ?_) <;> cbv)
      | (refine Ar.geq_ hA (fun _ => ?_) (fun _ => ?_) <;> cbv)
      | (refine Ar.eql_ hA (fun _ => ?_) (fun _ => ?_) <;> cbv)
      | (refine Ar.neq_ hA (fun _ => ?_) (fun _ => ?_) <;> cbv)
      | (refine Ar.add_ hA (by omega) (fun _ _ => ?_); cbv)
      | (refine Ar.sub_ hA (by omega) (fun _ _ => ?_); cbv)
      | (refine Ar.neg_ hA (by omega) (fun _ _ => ?_); cbv)
      | (refine Ar.mulB hA 2000 2000 (by omega) (by omega) (by omega) (fun _ _ _ _ => ?_); cbv)
      | (refine Ar.mulB hA 3000000000 3000000000 (by omega) (by omega) (by omega) (fun _ _ _ _ => ?_); cbv)
      | (refine Ar.nz_ hA (by omega) ?_; cbv)
      | (refine Ar.rem_ hA (by omega) (fun _ _ => ?_); cbv)
      | (refine Ar.quo_ hA (by omega) (fun _ _ => ?_); cbv)
      | (refine Ar.mx_ hA (fun _ _ => ?_); cbv)
      | (refine Ar.mn_ hA (fun _ _ => ?_); cbv)
      | (refine Ar.len_ hA (fun _ _ _ => ?_); cbv)
      | (refine Ar.lenN_ hA (fun _ _ => ?_); cbv)
      | (refine Ar.bneq_ hA (fun _ => ?_) (fun _ => ?_) <;> cbv)
      | (refine Ar.beq_ hA (fun _ => ?_) (fun _ => ?_) <;> cbv)
      | (refine Ar.ofN_ hA (fun _ _ _ => ?_); cbv)
)
    exact hno (by unfold goodHas; rw [hc]; rfl)
  cbv
  refine Ar.notT_ hA ?_
  cbv
  refine Ar.callT hA c_spec_GoodPt d_spec_GoodPt rfl (fun hd => ?_) (fun hd => ?_)
  rotate_left
  · cbv
    repeat' (first
      | (refine Ar.nn_ hA (by omega) ?_; cbv)
      | (refine Ar.toN_ hA (fun _ _ => ?_); cbv)
      | (refine Ar.notT_ hA ?_; cbv)
      | (refine Ar.notF_ hA ?_; cbv)
      | (refine Ar.lss_ hA (fun _ => ?_) (fun _ => ?_) <;> cbv)
      | (refine Ar.leq_ hA (fun _ => ?_) (fun _ => ?_) <;> cbv)
      | (refine Ar.gtr_ hA (fun _ => ?_) (fun _ => ?_) <;> cbv)
      | (refine Ar.geq_ hA (fun _ => ?_) (fun _ => ?_) <;> cbv)
      | (refine Ar.eql_ hA (fun _ => ?_) (fun _ => ?_) <;> cbv)
      | (refine Ar.neq_ hA (fun _ => ?_) (fun _ => ?_) <;> cbv)
      | (refine Ar.add_ hA (by omega) (fun _ _ => ?_); cbv)
      | (refine Ar.sub_ hA (by omega) (fun _ _ => ?_); cbv)
      | (refine Ar.neg_ hA (by omega) (fun _ _ => ?_); cbv)
      | (refine Ar.mulB hA 2000 2000 (by omega) (by omega) (by omega) (fun _ _ _ _ => ?_); cbv)
      | (refine Ar.mulB hA 3000000000 3000000000 (by omega) (by omega) (by omega) (fun _ _ _ _ => ?_); cbv)
      | (refine Ar.nz_ hA (by omega) ?_; cbv)
      | (refine Ar.rem_ hA (by omega) (fun _ _ => ?_); cbv)
      | (refine Ar.quo_ hA (by omega) (fun _ _ => ?_); cbv)
      | (refine Ar.mx_ hA (fun _ _ => ?_); cbv)
      | (refine Ar.mn_ hA (fun _ _ => ?_); cbv)
      | (refine Ar.len_ hA (fun _ _ _ => ?_); cbv)
      | (refine Ar.lenN_ hA (fun _ _ => ?_); cbv)
      | (refine Ar.bneq_ hA (fun _ => ?_) (fun _ => ?_) <;> cbv)
      | (refine Ar.beq_ hA (fun _ => ?_) (fun _ => ?_) <;> cbv)
      | (refine Ar.ofN_ hA (fun _ _ _ => ?_); cbv)
)
    exact hno (by unfold goodHas; rw [hd, Bool.and_false]; rfl)
  obtain ⟨c1, c2, hok⟩ := isWayF_iff.1 hc
  have bp : -1000 ≤ px ∧ px ≤ 1000 ∧ -1000 ≤ py ∧ py ≤ 1000 := P2.ok_iff.1 hd
  have dc := d_spec_l10Convex hes c1 c2 hok
  cbv
  refine Ar.notT_ hA ?_
  cbv
  refine Ar.callT hA c_spec_l10Convex dc rfl (fun he => ?_) (fun he => ?_)
  rotate_left
  · cbv
    repeat' (first
      | (refine Ar.nn_ hA (by omega) ?_; cbv)
      | (refine Ar.toN_ hA (fun _ _ => ?_); cbv)
      | (refine Ar.notT_ hA ?_; cbv)
      | (refine Ar.notF_ hA ?_; cbv)
      | (refine Ar.lss_ hA (fun _ => ?_) (fun _ => ?_) <;> cbv)
      | (refine Ar.leq_ hA (fun _ => ?_) (fun _ => ?_) <;> cbv)
      | (refine Ar.gtr_ hA (fun _ => ?_) (fun _ => ?_) <;> cbv)
      | (refine Ar.geq_ hA (fun _ => ?_) (fun _ => ?_) <;> cbv)
      | (refine Ar.eql_ hA (fun _ => ?_) (fun _ => ?_) <;> cbv)
      | (refine Ar.neq_ hA (fun _ => ?_) (fun _ => ?_) <;> cbv)
      | (refine Ar.add_ hA (by omega) (fun _ _ => ?_); cbv)
      | (refine Ar.sub_ hA (by omega) (fun _ _ => ?_); cbv)
      | (refine Ar.neg_ hA (by omega) (fun _ _ => ?_); cbv)
      | (refine Ar.mulB hA 2000 2000 (by omega) (by omega) (by omega) (fun _ _ _ _ => ?_); cbv)
      | (refine Ar.mulB hA 3000000000 3000000000 (by omega) (by omega) (by omega) (fun _ _ _ _ => ?_); cbv)
      | (refine Ar.nz_ hA (by omega) ?_; cbv)
      | (refine Ar.rem_ hA (by omega) (fun _ _ => ?_); cbv)
      | (refine Ar.quo_ hA (by omega) (fun _ _ => ?_); cbv)
      | (refine Ar.mx_ hA (fun _ _ => ?_); cbv)
      | (refine Ar.mn_ hA (fun _ _ => ?_); cbv)
      | (refine Ar.len_ hA (fun _ _ _ => ?_); cbv)
      | (refine Ar.lenN_ hA (fun _ _ => ?_); cbv)
      | (refine Ar.bneq_ hA (fun _ => ?_) (fun _ => ?_) <;> cbv)
      | (refine Ar.beq_ hA (fun _ => ?_) (fun _ => ?_) <;> cbv)
      | (refine Ar.ofN_ hA (fun _ _ _ => ?_); cbv)
)
    exact hno (by unfold goodHas; rw [he, Bool.and_false])
  have hy := hyes (by unfold goodHas; rw [hc, hd, he]; rfl)
  have dh := d_spec_l10Has hes (by omega) c2 hok bp
  generalize hasF l ⟨px, py⟩ = B at hy dh
  cbv
  refine Ar.notT_ hA ?_
  cbv
  refine Ar.call_ hA c_spec_l10Has dh rfl ?_
  cbv
  exact hy

theorem c_impl_HasPt : Callable Try.prog 46 := ⟨_, Try.func46, rfl, by kernel_rfl⟩
theorem d_impl_HasPt {es : List PV} {l : List P2} {px py : Int} (hes : es = l.map P2.pv) (hb : l.length ≤ 1048576) : Does Try.prog 46 [.sl es, pt px py] (.tup [.pv (bl (goodHas l ⟨px, py⟩ && hasF l ⟨px, py⟩)), .pv (bl (goodHas l ⟨px, py⟩))]) [] := by
  refine does_of hT hM Try.func46 rfl (D := []) (by kernel_rfl) rfl rfl rfl (fun A K hA hK => ?_)
  have hlen : es.length = l.length := by simp [hes]
  have hno : goodHas l ⟨px, py⟩ = false → K (.tup [.pv (bl false), .pv (bl false)]) [] := fun h => hK _ _ (by rw [h]; rfl) rfl
  have hyes : goodHas l ⟨px, py⟩ = true → ∀ b, b = hasF l ⟨px, py⟩ → K (.tup [.pv (bl b), .pv (bl true)]) [] := fun h b hb => hK _ _ (by rw [h, hb, Bool.true_and]) rfl
  clear hK
  cbv
  refine Ar.callT hA c_impl_isWay (d_impl_isWay hes hb) rfl (fun hc => ?_) (fun hc => ?_)
  rotate_left
  · cbv
    repeat' (first
      | (refine Ar.nn_ hA (by omega) ?_; cbv)
      | (refine Ar.toN_ hA (fun _ _ => ?_); cbv)
      | (refine Ar.notT_ hA ?_; cbv)
      | (refine Ar.notF_ hA ?_; cbv)
      | (refine Ar.lss_ hA (fun _ => ?_) (fun _ => ?_) <;> cbv)
      | (refine Ar.leq_ hA (fun _ => ?_) (fun _ => ?_) <;> cbv)
      | (refine Ar.gtr_ hA (fun _ => ?_) (fun _ => ?_) <;> cbv)
      | (refine Ar.geq_ hA (fun _ => ?_) (fun _ => ?_) <;> cbv)
      | (refine Ar.eql_ hA (fun _ => ?_) (fun _ => ?_) <;> cbv)
      | (refine Ar.neq_ hA (fun _ => ?_) (fun _ => ?_) <;> cbv)
      | (refine Ar.add_ hA (by omega) (fun _ _ => ?_); cbv)
      | (refine Ar.sub_ hA (by omega) (fun _ _ => ?_); cbv)
      | (refine Ar.neg_ hA (by omega) (fun _ _ => ?_); cbv)
      | (refine Ar.mulB hA 2000 2000 (by omega) (by omega) (by omega) (fun _ _ _ _ => ?_); cbv)
      | (refine Ar.mulB hA 3000000000 3000000000 (by omega) (by omega) (by omega) (fun _ _ _ _ => ?_); cbv)
      | (refine Ar.nz_ hA (by omega) ?_; cbv)
      | (refine Ar.rem_ hA (by omega) (fun _ _ => ?_); cbv)
      | (refine Ar.quo_ hA (by omega) (fun _ _ => ?_); cbv)
      | (refine Ar.mx_ hA (fun _ _ => ?_); cbv)
      | (refine Ar.mn_ hA (fun _ _ => ?_); cbv)
      | (refine Ar.len_ hA (fun _ _ _ => ?_); cbv)
      | (refine Ar.lenN_ hA (fun _ _ => ?_); cbv)
      | (refine Ar.bneq_ hA (fun _ => ?_) (fun _ => ?_) <;> cbv)
      | (refine Ar.beq_ hA (fun _ => ?_) (fun _ => ?_) <;> cbv)
      | (refine Ar.ofN_ hA (fun _ _ _ => ?_); cbv)
)
    exact hno (by unfold goodHas; rw [hc]; rfl)
  cbv
  refine Ar.notT_ hA ?_
  cbv
  refine Ar.callT hA c_impl_GoodPt d_impl_GoodPt rfl (fun hd => ?_) (fun hd => ?_)
  rotate_left
  · cbv
    repeat' (first
      | (refine Ar.nn_ hA (by omega) ?_; cbv)
      | (refine Ar.toN_ hA (fun _ _ => ?_); cbv)
      | (refine Ar.notT_ hA ?_; cbv)
      | (refine Ar.notF_ hA ?_; cbv)
      | (refine Ar.lss_ hA (fun _ => ?_) (fun _ => ?_) <;> cbv)
      | (refine Ar.leq_ hA (fun _ => ?_) (fun _ => ?_) <;> cbv)
      | (refine Ar.gtr_ hA (fun _ => ?_) (fun _ => ?_) <;> cbv)
      | (refine Ar.geq_ hA (fun _ => ?_) (fun _ => ?_) <;> cbv)
      | (refine Ar.eql_ hA (fun _ => ?_) (fun _ => ?_) <;> cbv)
      | (refine Ar.neq_ hA (fun _ => ?_) (fun _ => ?_) <;> cbv)
      | (refine Ar.add_ hA (by omega) (fun _ _ => ?_); cbv)
      | (refine Ar.sub_ hA (by omega) (fun _ _ => ?_); cbv)
      | (refine Ar.neg_ hA (by omega) (fun _ _ => ?_); cbv)
      | (refine Ar.mulB hA 2000 2000 (by omega) (by omega) (by omega) (fun _ _ _ _ => ?_); cbv)
      | (refine Ar.mulB hA 3000000000 3000000000 (by omega) (by omega) (by omega) (fun _ _ _ _ => ?_); cbv)
      | (refine Ar.nz_ hA (by omega) ?_; cbv)
      | (refine Ar.rem_ hA (by omega) (fun _ _ => ?_); cbv)
      | (refine Ar.quo_ hA (by omega) (fun _ _ => ?_); cbv)
      | (refine Ar.mx_ hA (fun _ _ => ?_); cbv)
      | (refine Ar.mn_ hA (fun _ _ => ?_); cbv)
      | (refine Ar.len_ hA (fun _ _ _ => ?_); cbv)
      | (refine Ar.lenN_ hA (fun _ _ => ?_); cbv)
      | (refine Ar.bneq_ hA (fun _ => ?_) (fun _ => ?_) <;> cbv)
      | (refine Ar.beq_ hA (fun _ => ?_) (fun _ => ?_) <;> cbv)
      | (refine Ar.ofN_ hA (fun _ _ _ => ?_); cbv)
)
    exact hno (by unfold goodHas; rw [hd, Bool.and_false]; rfl)
  obtain ⟨c1, c2, hok⟩ := isWayF_iff.1 hc
  have bp : -1000 ≤ px ∧ px ≤ 1000 ∧ -1000 ≤ py ∧ py ≤ 1000 := P2.ok_iff.1 hd
  have dc := d_impl_isConvex hes c1 c2 hok
  cbv
  refine Ar.notT_ hA ?_
  cbv
  refine Ar.callT hA c_impl_isConvex dc rfl (fun he => ?_) (fun he => ?_)
  rotate_left
  · cbv
    repeat' (first
      | (refine Ar.nn_ hA (by omega) ?_; cbv)
      | (refine Ar.toN_ hA (fun _ _ => ?_); cbv)
      | (refine Ar.notT_ hA ?_; cbv)
      | (refine Ar.notF_ hA ?_; cbv)
      | (refine Ar.lss_ hA (fun _ => ?_) (fun _ => ?_) <;> cbv)
      | (refine Ar.leq_ hA (fun _ => ?_) (fun _ => ?_) <;> cbv)
      | (refine Ar.gtr_ hA (fun _ => ?_) (fun _ => ?_) <;> cbv)
      | (refine Ar.geq_ hA (fun _ => ?_) (fun _ => ?_) <;> cbv)
      | (refine Ar.eql_ hA (fun _ => ?_) (fun _ => ?_) <;> cbv)
      | (refine Ar.neq_ hA (fun _ => ?_) (fun _ => ?_) <;> cbv)
      | (refine Ar.add_ hA (by omega) (fun _ _ => ?_); cbv)
      | (refine Ar.sub_ hA (by omega) (fun _ _ => ?_); cbv)
      | (refine Ar.neg_ hA (by omega) (fun _ _ => ?_); cbv)
      | (refine Ar.mulB hA 2000 2000 (by omega) (by omega) (by omega) (fun _ _ _ _ => ?_); cbv)
      | (refine Ar.mulB hA 3000000000 3000000000 (by omega) (by omega) (by omega) (fun _ _ _ _ => ?_); cbv)
      | (refine Ar.nz_ hA (by omega) ?_; cbv)
      | (refine Ar.rem_ hA (by omega) (fun _ _ => ?_); cbv)
      | (refine Ar.quo_ hA (by omega) (fun _ _ => ?_); cbv)
      | (refine Ar.mx_ hA (fun _ _ => ?_); cbv)
      | (refine Ar.mn_ hA (fun _ _ => ?_); cbv)
      | (refine Ar.len_ hA (fun _ _ _ => ?_); cbv)
      | (refine Ar.lenN_ hA (fun _ _ => ?_); cbv)
      | (refine Ar.bneq_ hA (fun _ => ?_) (fun _ => ?_) <;> cbv)
      | (refine Ar.beq_ hA (fun _ => ?_) (fun _ => ?_) <;> cbv)
      | (refine Ar.ofN_ hA (fun _ _ _ => ?_); cbv)
)
    exact hno (by unfold goodHas; rw [he, Bool.and_false])
  have hy := hyes (by unfold goodHas; rw [hc, hd, he]; rfl)
  have hyesB := has_yes (l := l) (p := ⟨px, py⟩)
  have hnoB := fun k => has_no (l := l) (p := ⟨px, py⟩) (k := k)
  obtain ⟨B, hB⟩ : ∃ B, B = hasF l ⟨px, py⟩ := ⟨_, rfl⟩
  rw [← hB] at hyesB hy
  simp only [← hB] at hnoB
  clear hB hyes hno dc
  cbv
  refine Ar.notT_ hA ?_
  cbv
  refine Ar.len_ hA (fun n hn hn' => ?_)
  cbv
  refine Ar.loop_ hA (α := Int) (fun i => (n - i).toNat) (fun i => 0 ≤ i ∧ i ≤ n ∧ ∀ k, k < i.toNat → hasE l ⟨px, py⟩ k = true) 39 (fun i => [(0, .pv (.sl es) []), (3, .ref 3 0), (21, .pv (.sl es) []), (22, .pv (i64 n) []), (23, .pv (i64 i) [])]) (fun _ => [(3, some (.cell [.pv (i64 px) [], .pv (i64 py) []]))]) 0 (by refine ⟨?_, ⟨?_, ?_, ?_, ?_, ?_, trivial⟩, ?_, trivial⟩ <;> cbv) ⟨by omega, by omega, fun k hk => absurd hk (by simp)⟩ ?_
  intro i s f ⟨h1, h2, h3⟩
  cbv
  refine Ar.lss_ hA (fun h => ?_) (fun h => ?_)
  · cbv
    refine Ar.nn_ hA (by omega) ?_
    cbv
    refine Ar.toN_ hA (fun j hj => ?_)
    cbv
    obtain ⟨⟨qx, qy⟩, hq⟩ : ∃ p, l[j]? = some p := ⟨l[j]'(by omega), List.getElem?_eq_getElem _⟩
    refine Ar.idx_ hA (x := pt qx qy) (by simp [hes, hq, P2.pv]) ?_
    cbv
    have bq := ok_bounds hok hq
    have bn := nx_bounds hok (by omega) i.toNat
    obtain ⟨nxx, nxy, hn0⟩ : ∃ x y, nx l i.toNat = ⟨x, y⟩ := ⟨_, _, rfl⟩
    have ha0 : at0 l i.toNat = ⟨qx, qy⟩ := by rw [← hj]; exact at0_of hq
    have hE : hasE l ⟨px, py⟩ i.toNat = decide (0 ≤ sgn (cross ⟨qx, qy⟩ ⟨nxx, nxy⟩ ⟨px, py⟩)) := by unfold hasE; rw [ha0, hn0]
    rw [hn0] at bn
    simp only at bn
    refine Ar.callI hA c_impl_after (d_impl_after hes (by omega) (by omega) (by omega)) rfl (fun r hr => ?_)
    obtain ⟨hr1, hr2, hr3⟩ := after_idx (by omega) h1 hr
    rw [hn0] at hr3
    have er : es[r.toNat]? = some (pt nxx nxy) := by rw [hes, List.getElem?_map, hr3]; rfl
    cbv
    repeat' (first
      | apply And.intro
      | (refine Ar.nn_ hA (by omega) ?_; cbv)
      | (refine Ar.toN_ hA (fun j2 hj2 => ?_); cbv)
      | (refine Ar.idx_ hA (x := pt nxx nxy) (by rw [hj2]; exact er) ?_; cbv))
    all_goals
      refine Ar.callI hA c_impl_orient (d_impl_orient bq bn bp) rfl (fun o ho => ?_)
      cbv
      refine Ar.lss_ hA (fun g => ?_) (fun g => ?_)
      · have : B = false := hnoB i.toNat (by omega) (by rw [hE]; exact decide_eq_false (by omega))
        cbv
        exact hy _ this.symm
      · cbv
        refine Ar.add_ hA (by omega) (fun i' hi' => ?_)
        cbv
        refine ⟨i', (by show (n - i').toNat < (n - i).toNat; omega), ⟨by omega, by omega, fun k hk => ?_⟩, (by refine ⟨?_, ⟨?_, ?_, ?_, ?_, ?_, trivial⟩, ?_, trivial⟩ <;> cbv)⟩
        by_cases e : k = i.toNat
        · rw [e, hE]; exact decide_eq_true (by omega)
        · exact h3 k (by omega)
  · cbv
    have : B = true := hyesB (fun k hk => h3 k (by omega))
    exact hy _ this.symm

theorem c_laws_FnExactHasPt : Callable Try.prog 12 := ⟨_, Try.func12, rfl, by kernel_rfl⟩
theorem d_laws_FnExactHasPt {es : List PV} {l : List P2} {px py : Int} (hes : es = l.map P2.pv ∧ l.length ≤ 9223372036854775807) (_ : InR px ∧ InR py) : Does Try.prog 12 [.sl es, pt px py] (.pv (bl true)) [] := by
  refine does_of hT hM Try.func12 rfl (D := []) (by kernel_rfl) rfl rfl rfl (fun A K hA hK => ?_)
  obtain ⟨hes, hmax⟩ := hes
  have hlen : es.length = l.length := by simp [hes]
  cbv
  refine Ar.callI hA c_laws_szPtS (d_laws_szPtS (by omega) (by omega)) rfl (fun r hr => ?_)
  cbv
  refine Ar.lss_ hA (fun h => ?_) (fun h => ?_)
  · cbv
    exact hK _ _ rfl rfl
  have hb : l.length ≤ 1048576 := by have := szF_le hr h; omega
  have dS := d_spec_HasPt (px := px) (py := py) hes hb
  have dI := d_impl_HasPt (px := px) (py := py) hes hb
  have e1 := d_laws_eqPtS hes hes hb
  rw [decide_eq_true rfl] at e1
  have e2 := d_laws_eqPt (ax := px) (ay := py) (bx := px) (b_y := py)
  rw [decide_eq_true rfl] at e2
  generalize (goodHas l ⟨px, py⟩ && hasF l ⟨px, py⟩) = B at dS dI
  generalize goodHas l ⟨px, py⟩ = G at dS dI
  cbv
  repeat' (first
    | (refine Ar.call_ hA c_laws_toPtS (d_laws_toPtS hes hb) rfl ?_; cbv)
    | (refine Ar.call_ hA c_laws_toPt d_laws_toPt rfl ?_; cbv)
    | (refine Ar.call_ hA c_spec_HasPt dS rfl ?_; cbv)
    | (refine Ar.call_ hA c_impl_HasPt dI rfl ?_; cbv)
    | (refine Ar.call_ hA c_laws_eqPtS e1 rfl ?_; cbv)
    | (refine Ar.call_ hA c_laws_eqPt e2 rfl ?_; cbv)
    | (refine Ar.notT_ hA ?_; cbv)
    | (refine Ar.bneq_ hA (fun h => absurd rfl h) (fun _ => ?_); cbv))
  exact hK _ _ rfl rfl

end Go.VAI
