/- The laws CrossingsAt, WindingAt, Inside. -/
import Derived.Test.YtekmnlagkoelcaaR
namespace Go.VAI
open Go.Proofs
set_option maxRecDepth 100000
set_option maxHeartbeats 8000000

def goodOff (l : List P2) (x y : Int) : Bool := goodOn l x y && !onWayF l x y
def windR (l : List P2) (x y : Int) : Int := if goodOff l x y then windF l x y else 0
def crossR (l : List P2) (x y : Int) : Int := if goodOff l x y then crossF l x y else 0
def insideR (l : List P2) (x y : Int) (eo : Bool) : Bool := goodOff l x y && (if eo then decide (crossF l x y % 2 = 1) else decide (windF l x y ≠ 0))

theorem c_impl_isOff : Callable Try.prog 63 := ⟨_, Try.func63, rfl, by kernel_rfl⟩
theorem d_impl_isOff {es : List PV} {l : List P2} {qx qy : Int} (hes : es = l.map P2.pv) (hb : l.length ≤ 1048576) : Does Try.prog 63 [.sl es, pt qx qy] (.pv (bl (goodOff l qx qy))) [] := by
  refine does_of hT hM Try.func63 rfl (D := []) (by kernel_rfl) rfl rfl rfl (fun A K hA hK => ?_)
  cbv
  refine Ar.callT hA c_impl_isWay (d_impl_isWay hes hb) rfl (fun hc => ?_) (fun hc => ?_)
  · cbv
    refine Ar.callT hA c_impl_GoodPt d_impl_GoodPt rfl (fun hd => ?_) (fun hd => ?_)
    · have hg : goodOn l qx qy = true := by unfold goodOn; rw [hc, hd]; rfl
      obtain ⟨c1, c2, hok, hq⟩ := goodOn_iff hg
      cbv
      repeat' (first
        | (refine Ar.nn_ hA (by omega) ?_; cbv)
        | (refine Ar.toN_ hA (fun _ _ => ?_); cbv)
        | (refine Ar.notT_ hA ?_; cbv)
        | (refine Ar.notF_ hA ?_; cbv)
        | (refine Ar.lss_ hA (fun _ => ?_) (fun _ => ?_) <;> cbv)
        | (refine Ar.leq_ hA (fun _ => ?_) (fun _ => ?_) <;> cbv)
        | (refine Ar.gtr_ hA (fun _ => ?_) (fun _ => ?_) <;> cbv)
        | (refine Ar.geq_ hA (fun _ => ?_) (fun _ => ?_) <;> cbv)
        | (refine Ar.eql_ hA (fun _ => ?_) (fun _ => ?_) <;> cbv)
        | (refine Ar.neq_ hA (fun _ => ?_) (fun _ => ?_) <;> cbv)
        | (refine Ar.add_ hA (by omega) (fun _ _ => ?_); cbv)
        | (refine Ar.sub_ hA (by omega) (fun _ _ => ?_); cbv)
        | (refine Ar.neg_ hA (by omega) (fun _ _ => ?_); cbv)
        | (refine Ar.mulB hA 2000 2000 (by omega) (by omega) (by omega) (fun _ _ _ _ => ?_); cbv)
        | (refine Ar.mulB hA 3000000000 3000000000 (by omega) (by omega) (by omega) (fun _ _ _ _ => ?_); cbv)
        | (refine Ar.nz_ hA (by omega) ?_; cbv)
        | (refine Ar.rem_ hA (by omega) (fun _ _ => ?_); cbv)
        | (refine Ar.quo_ hA (by omega) (fun _ _ => ?_); cbv)
        | (refine Ar.mx_ hA (fun _ _ => ?_); cbv)
        | (refine Ar.mn_ hA (fun _ _ => ?_); cbv)
        | (refine Ar.len_ hA (fun _ _ _ => ?_); cbv)
        | (refine Ar.lenN_ hA (fun _ _ => ?_); cbv)
        | (refine Ar.bneq_ hA (fun _ => ?_) (fun _ => ?_) <;> cbv)
        | (refine Ar.beq_ hA (fun _ => ?_) (fun _ => ?_) <;> cbv)
        | (refine Ar.ofN_ hA (fun _ _ _ => ?_); cbv)
        | (refine Ar.callT hA c_impl_onWay (d_impl_onWay hes (by omega) c2 hok hq) rfl (fun _ => ?_) (fun _ => ?_) <;> cbv))
      all_goals exact hK _ _ (by simp_all [goodOff]) rfl
    · cbv
      repeat' (first
        | (refine Ar.nn_ hA (by omega) ?_; cbv)
        | (refine Ar.toN_ hA (fun _ _ => ?_); cbv)
        | (refine Ar.notT_ hA ?_; cbv)
        | (refine Ar.notF_ hA ?_; cbv)
        | (refine Ar.lss_ hA (fun _ => ?_) (fun _ => ?_) <;> cbv)
        | (refine Ar.leq_ hA (fun _ => ?_) (fun _ => ?_) <;> cbv)
        | (refine Ar.gtr_ hA (fun _ => ?_) (fun _ => ?_) <;> cbv)
        | (refine Ar.geq_ hA (fun _ => ?_) (fun _ => ?_) <;> cbv)
        | (refine Ar.eql_ hA (fun _ => ?_) (fun _ => ?_) <;> cbv)
        | (refine Ar.neq_ hA (fun _ => ?_) (fun _ => ?_) <;> cbv)
        | (refine Ar.add_ hA (by omega) (fun _ _ => ?_); cbv)
        | (refine Ar.sub_ hA (by omega) (fun _ _ => ?_); cbv)
        | (refine Ar.neg_ hA (by omega) (fun _ _ => ?_); cbv)
        | (refine Ar.mulB hA 2000 2000 (by omega) (by omega) (by omega) (fun _ _ _ _ => ?_); cbv)
        | (refine Ar.mulB hA 3000000000 3000000000 (by omega) (by omega) (by omega) (fun _ _ _ _ => ?_); cbv)
        | (refine Ar.nz_ hA (by omega) ?_; cbv)
        | (refine Ar.rem_ hA (by omega) (fun _ _ => ?_); cbv)
        | (refine Ar.quo_ hA (by omega) (fun _ _ => ?_); cbv)
        | (refine Ar.mx_ hA (fun _ _ => ?_); cbv)
        | (refine Ar.mn_ hA (fun _ _ => ?_); cbv)
        | (refine Ar.len_ hA (fun _ _ _ => ?_); cbv)
        | (refine Ar.lenN_ hA (fun _ _ => ?_); cbv)
        | (refine Ar.bneq_ hA (fun _ => ?_) (fun _ => ?_) <;> cbv)
        | (refine Ar.beq_ hA (fun _ => ?_) (fun _ => ?_) <;> cbv)
        | (refine Ar.ofN_ hA (fun _ _ _ => ?_); cbv)
)
      exact hK _ _ (by simp [goodOff, goodOn, hd]) rfl
  · cbv
    repeat' (first
      | (refine Ar.nn_ hA (by omega) ?_; cbv)
      | (refine Ar.toN_ hA (fun _ _ => ?_); cbv)
      | (refine Ar.notT_ hA ?_; cbv)
      | (refine Ar.notF_ hA ?_; cbv)
      | (refine Ar.lss_ hA (fun _ => ?_) (fun _ => ?_) <;> cbv)
      | (refine Ar.leq_ hA (fun _ => ?_) (fun _ => ?_) <;> cbv)
      | (refine Ar.gtr_ hA (fun _ => ?_) (fun _ => ?_) <;> cbv)
      | (refine Ar.geq_ hA (fun _ => ?_) (fun _ => ?_) <;> cbv)
      | (refine Ar.eql_ hA (fun _ => ?_) (fun _ => ?_) <;> cbv)
      | (refine Ar.neq_ hA (fun _ => ?_) (fun _ => ?_) <;> cbv)
      | (refine Ar.add_ hA (by omega) (fun _ _ => ?_); cbv)
      | (refine Ar.sub_ hA (by omega) (fun _ _ => ?_); cbv)
      | (refine Ar.neg_ hA (by omega) (fun _ _ => ?_); cbv)
      | (refine Ar.mulB hA 2000 2000 (by omega) (by omega) (by omega) (fun _ _ _ _ => ?_); cbv)
      | (refine Ar.mulB hA 3000000000 3000000000 (by omega) (by omega) (by omega) (fun _ _ _ _ => ?_); cbv)
      | (refine Ar.nz_ hA (by omega) ?_; cbv)
      | (refine Ar.rem_ hA (by omega) (fun _ _ => ?_); cbv)
      | (refine Ar.quo_ hA (by omega) (fun _ _ => ?_); cbv)
      | (refine Ar.mx_ hA (fun _ _ => ?_); cbv)
      | (refine Ar.mn_ hA (fun _ _ => ?_); cbv)
      | (refine Ar.len_ hA (fun _ _ _ => ?_); cbv)
      | (refine Ar.lenN_ hA (fun _ _ => ?_); cbv)
      | (refine Ar.bneq_ hA (fun _ => ?_) (fun _ => ?_) <;> cbv)
      | (refine Ar.beq_ hA (fun _ => ?_) (fun _ => ?_) <;> cbv)
      | (refine Ar.ofN_ hA (fun _ _ _ => ?_); cbv)
)
    exact hK _ _ (by simp [goodOff, goodOn, hc]) rfl

theorem goodOff_iff {l : List P2} {x y : Int} (h : goodOff l x y = true) : goodOn l x y = true ∧ onWayF l x y = false := by
  unfold goodOff at h
  rw [Bool.and_eq_true, Bool.not_eq_true'] at h
  exact h

theorem c_spec_CrossingsAt : Callable Try.prog 34 := ⟨_, Try.func34, rfl, by kernel_rfl⟩
theorem d_spec_CrossingsAt {es : List PV} {l : List P2} {qx qy : Int} (hes : es = l.map P2.pv) (hb : l.length ≤ 1048576) : Does Try.prog 34 [.sl es, pt qx qy] (.tup [.pv (i64 (crossR l qx qy)), .pv (bl (goodOff l qx qy))]) [] := by
  refine does_of hT hM Try.func34 rfl (D := []) (by kernel_rfl) rfl rfl rfl (fun A K hA hK => ?_)
  cbv
  refine Ar.callT hA c_spec_l9Good (d_spec_l9Good hes hb) rfl (fun hc => ?_) (fun hc => ?_)
  · obtain ⟨c1, c2, hok, hq⟩ := goodOn_iff hc
    cbv
    refine Ar.notT_ hA ?_
    cbv
    refine Ar.callT hA c_spec_l9On (d_spec_l9On hes (by omega) c2 hok hq) rfl (fun hd => ?_) (fun hd => ?_)
    · have hg : goodOff l qx qy = false := by unfold goodOff; rw [hc, hd]; rfl
      cbv
      repeat' (first
        | (refine Ar.nn_ hA (by omega) ?_; cbv)
        | (refine Ar.toN_ hA (fun _ _ => ?_); cbv)
        | (refine Ar.notT_ hA ?_; cbv)
        | (refine Ar.notF_ hA ?_; cbv)
        | (refine Ar.lss_ hA (fun _ => ?_) (fun _ => ?_) <;> cbv)
        | (refine Ar.leq_ hA (fun _ => ?_) (fun _ => ?_) <;> cbv)
        | (refine Ar.gtr_ hA (fun _ => ?_) (fun _ => ?_) <;> cbv)
        | (refine Ar.geq_ hA (fun _ => ?_) (fun _ => ?_) <;> cbv)
        | (refine Ar.eql_ hA (fun _ => ?_) (fun _ => ?_) <;> cbv)
        | (refine Ar.neq_ hA (fun _ => ?_) (fun _ => ?_) <;> cbv)
        | (refine Ar.add_ hA (by omega) (fun _ _ => ?_); cbv)
        | (refine Ar.sub_ hA (by omega) (fun _ _ => ?_); cbv)
        | (refine Ar.neg_ hA (by omega) (fun _ _ => ?_); cbv)
        | (refine Ar.mulB hA 2000 2000 (by omega) (by omega) (by omega) (fun _ _ _ _ => ?_); cbv)
        | (refine Ar.mulB hA 3000000000 3000000000 (by omega) (by omega) (by omega) (fun _ _ _ _ => ?_); cbv)
        | (refine Ar.nz_ hA (by omega) ?_; cbv)
        | (refine Ar.rem_ hA (by omega) (fun _ _ => ?_); cbv)
        | (refine Ar.quo_ hA (by omega) (fun _ _ => ?_); cbv)
        | (refine Ar.mx_ hA (fun _ _ => ?_); cbv)
        | (refine Ar.mn_ hA (fun _ _ => ?_); cbv)
        | (refine Ar.len_ hA (fun _ _ _ => ?_); cbv)
        | (refine Ar.lenN_ hA (fun _ _ => ?_); cbv)
        | (refine Ar.bneq_ hA (fun _ => ?_) (fun _ => ?_) <;> cbv)
        | (refine Ar.beq_ hA (fun _ => ?_) (fun _ => ?_) <;> cbv)
        | (refine Ar.ofN_ hA (fun _ _ _ => ?_); cbv)
)
      exact hK _ _ (by rw [crossR, hg]; rfl) rfl
    · have hg : goodOff l qx qy = true := by unfold goodOff; rw [hc, hd]; rfl
      cbv
      refine Ar.callI hA c_spec_l9Crossings (d_spec_l9Crossings hes (by omega) c2 hok hq) rfl (fun r hr => ?_)
      cbv
      exact hK _ _ (by rw [crossR, hg, hr]; rfl) rfl
  · cbv
    repeat' (first
      | (refine Ar.nn_ hA (by omega) ?_; cbv)
      | (refine Ar.toN_ hA (fun _ _ => ?_); cbv)
      | (refine Ar.notT_ hA ?_; cbv)
      | (refine Ar.notF_ hA ?_; cbv)
      | (refine Ar.lss_ hA (fun _ => ?_) (fun _ => ?_) <;> cbv)
      | (refine Ar.leq_ hA (fun _ => ?_) (fun _ => ?_) <;> cbv)
      | (refine Ar.gtr_ hA (fun _ => ?_) (fun _ => ?_) <;> cbv)
      | (refine Ar.geq_ hA (fun _ => ?_) (fun _ => ?_) <;> cbv)
      | (refine Ar.eql_ hA (fun _ => ?_) (fun _ => ?_) <;> cbv)
      | (refine Ar.neq_ hA (fun _ => ?_) (fun _ => ?_) <;> cbv)
      | (refine Ar.add_ hA (by omega) (fun _ _ => ?_); cbv)
      | (refine Ar.sub_ hA (by omega) (fun _ _ => ?_); cbv)
      | (refine Ar.neg_ hA (by omega) (fun _ _ => ?_); cbv)
      | (refine Ar.mulB hA 2000 2000 (by omega) (by omega) (by omega) (fun _ _ _ _ => ?_); cbv)
      | (refine Ar.mulB hA 3000000000 3000000000 (by omega) (by omega) (by omega) (fun _ _ _ _ => ?_); cbv)
      | (refine Ar.nz_ hA (by omega) ?_; cbv)
      | (refine Ar.rem_ hA (by omega) (fun _ _ => ?_); cbv)
      | (refine Ar.quo_ hA (by omega) (fun _ _ => ?_); cbv)
      | (refine Ar.mx_ hA (fun _ _ => ?_); cbv)
      | (refine Ar.mn_ hA (fun _ _ => ?_); cbv)
      | (refine Ar.len_ hA (fun _ _ _ => ?_); cbv)
      | (refine Ar.lenN_ hA (fun _ _ => ?_); cbv)
      | (refine Ar.bneq_ hA (fun _ => ?_) (fun _ => ?_) <;> cbv)
      | (refine Ar.beq_ hA (fun _ => ?_) (fun _ => ?_) <;> cbv)
      | (refine Ar.ofN_ hA (fun _ _ _ => ?_); cbv)
)
    exact hK _ _ (by simp [crossR, goodOff, hc]) rfl

theorem c_spec_WindingAt : Callable Try.prog 36 := ⟨_, Try.func36, rfl, by kernel_rfl⟩
theorem d_spec_WindingAt {es : List PV} {l : List P2} {qx qy : Int} (hes : es = l.map P2.pv) (hb : l.length ≤ 1048576) : Does Try.prog 36 [.sl es, pt qx qy] (.tup [.pv (i64 (windR l qx qy)), .pv (bl (goodOff l qx qy))]) [] := by
  refine does_of hT hM Try.func36 rfl (D := []) (by kernel_rfl) rfl rfl rfl (fun A K hA hK => ?_)
  cbv
  refine Ar.callT hA c_spec_l9Good (d_spec_l9Good hes hb) rfl (fun hc => ?_) (fun hc => ?_)
  · obtain ⟨c1, c2, hok, hq⟩ := goodOn_iff hc
    cbv
    refine Ar.notT_ hA ?_
    cbv
    refine Ar.callT hA c_spec_l9On (d_spec_l9On hes (by omega) c2 hok hq) rfl (fun hd => ?_) (fun hd => ?_)
    · have hg : goodOff l qx qy = false := by unfold goodOff; rw [hc, hd]; rfl
      cbv
      repeat' (first
        | (refine Ar.nn_ hA (by omega) ?_; cbv)
        | (refine Ar.toN_ hA (fun _ _ => ?_); cbv)
        | (refine Ar.notT_ hA ?_; cbv)
        | (refine Ar.notF_ hA ?_; cbv)
        | (refine Ar.lss_ hA (fun _ => ?_) (fun _ => ?_) <;> cbv)
        | (refine Ar.leq_ hA (fun _ => ?_) (fun _ => ?_) <;> cbv)
        | (refine Ar.gtr_ hA (fun _ => ?_) (fun _ => ?_) <;> cbv)
        | (refine Ar.geq_ hA (fun _ => ?_) (fun _ => ?_) <;> cbv)
        | (refine Ar.eql_ hA (fun _ => ?_) (fun _ => ?_) <;> cbv)
        | (refine Ar.neq_ hA (fun _ => ?_) (fun _ => ?_) <;> cbv)
        | (refine Ar.add_ hA (by omega) (fun _ _ => ?_); cbv)
        | (refine Ar.sub_ hA (by omega) (fun _ _ => ?_); cbv)
        | (refine Ar.neg_ hA (by omega) (fun _ _ => ?_); cbv)
        | (refine Ar.mulB hA 2000 2000 (by omega) (by omega) (by omega) (fun _ _ _ _ => ?_); cbv)
        | (refine Ar.mulB hA 3000000000 3000000000 (by omega) (by omega) (by omega) (fun _ _ _ _ => ?_); cbv)
        | (refine Ar.nz_ hA (by omega) ?_; cbv)
        | (refine Ar.rem_ hA (by omega) (fun _ _ => ?_); cbv)
        | (refine Ar.quo_ hA (by omega) (fun _ _ => ?_); cbv)
        | (refine Ar.mx_ hA (fun _ _ => ?_); cbv)
        | (refine Ar.mn_ hA (fun _ _ => ?_); cbv)
        | (refine Ar.len_ hA (fun _ _ _ => ?_); cbv)
        | (refine Ar.lenN_ hA (fun _ _ => ?_); cbv)
        | (refine Ar.bneq_ hA (fun _ => ?_) (fun _ => ?_) <;> cbv)
        | (refine Ar.beq_ hA (fun _ => ?_) (fun _ => ?_) <;> cbv)
        | (refine Ar.ofN_ hA (fun _ _ _ => ?_); cbv)
)
      exact hK _ _ (by rw [windR, hg]; rfl) rfl
    · have hg : goodOff l qx qy = true := by unfold goodOff; rw [hc, hd]; rfl
      cbv
      refine Ar.callI hA c_spec_l9Winding (d_spec_l9Winding hes (by omega) c2 hok hq) rfl (fun r hr => ?_)
      cbv
      exact hK _ _ (by rw [windR, hg, hr]; rfl) rfl
  · cbv
    repeat' (first
      | (refine Ar.nn_ hA (by omega) ?_; cbv)
      | (refine Ar.toN_ hA (fun _ _ => ?_); cbv)
      | (refine Ar.notT_ hA ?_; cbv)
      | (refine Ar.notF_ hA ?_; cbv)
      | (refine Ar.lss_ hA (fun _ => ?_) (fun _ => ?_) <;> cbv)
      | (refine Ar.leq_ hA (fun _ => ?_) (fun _ => ?_) <;> cbv)
      | (refine Ar.gtr_ hA (fun _ => ?_) (fun _ => ?_) <;> cbv)
      | (refine Ar.geq_ hA (fun _ => ?_) (fun _ => ?_) <;> cbv)
      | (refine Ar.eql_ hA (fun _ => ?_) (fun _ => ?_) <;> cbv)
      | (refine Ar.neq_ hA (fun _ => ?_) (fun _ => ?_) <;> cbv)
      | (refine Ar.add_ hA (by omega) (fun _ _ => ?_); cbv)
      | (refine Ar.sub_ hA (by omega) (fun _ _ => ?_); cbv)
      | (refine Ar.neg_ hA (by omega) (fun _ _ => ?_); cbv)
      | (refine Ar.mulB hA 2000 2000 (by omega) (by omega) (by omega) (fun _ _ _ _ => ?_); cbv)
      | (refine Ar.mulB hA 3000000000 3000000000 (by omega) (by omega) (by omega) (fun _ _ _ _ => ?_); cbv)
      | (refine Ar.nz_ hA (by omega) ?_; cbv)
      | (refine Ar.rem_ hA (by omega) (fun _ _ => ?_); cbv)
      | (refine Ar.quo_ hA (by omega) (fun _ _ => ?_); cbv)
      | (refine Ar.mx_ hA (fun _ _ => ?_); cbv)
      | (refine Ar.mn_ hA (fun _ _ => ?_); cbv)
      | (refine Ar.len_ hA (fun _ _ _ => ?_); cbv)
      | (refine Ar.lenN_ hA (fun _ _ => ?_); cbv)
      | (refine Ar.bneq_ hA (fun _ => ?_) (fun _ => ?_) <;> cbv)
      | (refine Ar.beq_ hA (fun _ => ?_) (fun _ => ?_) <;> cbv)
      | (refine Ar.ofN_ hA (fun _ _ _ => ?_); cbv)
)
    exact hK _ _ (by simp [windR, goodOff, hc]) rfl

theorem c_impl_CrossingsAt : Callable Try.prog 35 := ⟨_, Try.func35, rfl, by kernel_rfl⟩
theorem d_impl_CrossingsAt {es : List PV} {l : List P2} {qx qy : Int} (hes : es = l.map P2.pv) (hb : l.length ≤ 1048576) : Does Try.prog 35 [.sl es, pt qx qy] (.tup [.pv (i64 (crossR l qx qy)), .pv (bl (goodOff l qx qy))]) [] := by
  refine does_of hT hM Try.func35 rfl (D := []) (by kernel_rfl) rfl rfl rfl (fun A K hA hK => ?_)
  cbv
  refine Ar.callT hA c_impl_isOff (d_impl_isOff hes hb) rfl (fun hg => ?_) (fun hg => ?_)
  · obtain ⟨c1, c2, hok, hq⟩ := goodOn_iff (goodOff_iff hg).1
    have dt := d_impl_turns hes (by omega) c2 hok hq
    obtain ⟨w, hw⟩ : ∃ w, w = windF l qx qy := ⟨_, rfl⟩
    obtain ⟨c, hcr⟩ : ∃ w, w = crossF l qx qy := ⟨_, rfl⟩
    rw [← hw, ← hcr] at dt
    cbv
    refine Ar.notT_ hA ?_
    cbv
    refine Ar.call_ hA c_impl_turns dt rfl ?_
    cbv
    exact hK _ _ (by rw [crossR, hg, hcr]; rfl) rfl
  · cbv
    repeat' (first
      | (refine Ar.nn_ hA (by omega) ?_; cbv)
      | (refine Ar.toN_ hA (fun _ _ => ?_); cbv)
      | (refine Ar.notT_ hA ?_; cbv)
      | (refine Ar.notF_ hA ?_; cbv)
      | (refine Ar.lss_ hA (fun _ => ?_) (fun _ => ?_) <;> cbv)
      | (refine Ar.leq_ hA (fun _ => ?_) (fun _ => ?_) <;> cbv)
      | (refine Ar.gtr_ hA (fun _ => ?_) (fun _ => ?_) <;> cbv)
      | (refine Ar.geq_ hA (fun _ => ?_) (fun _ => ?_) <;> cbv)
      | (refine Ar.eql_ hA (fun _ => ?_) (fun _ => ?_) <;> cbv)
      | (refine Ar.neq_ hA (fun _ => ?_) (fun _ => ?_) <;> cbv)
      | (refine Ar.add_ hA (by omega) (fun _ _ => ?_); cbv)
      | (refine Ar.sub_ hA (by omega) (fun _ _ => ?_); cbv)
      | (refine Ar.neg_ hA (by omega) (fun _ _ => ?_); cbv)
      | (refine Ar.mulB hA 2000 2000 (by omega) (by omega) (by omega) (fun _ _ _ _ => ?_); cbv)
      | (refine Ar.mulB hA 3000000000 3000000000 (by omega) (by omega) (by omega) (fun _ _ _ _ => ?_); cbv)
      | (refine Ar.nz_ hA (by omega) ?_; cbv)
      | (refine Ar.rem_ hA (by omega) (fun _ _ => ?_); cbv)
      | (refine Ar.quo_ hA (by omega) (fun _ _ => ?_); cbv)
      | (refine Ar.mx_ hA (fun _ _ => ?_); cbv)
      | (refine Ar.mn_ hA (fun _ _ => ?_); cbv)
      | (refine Ar.len_ hA (fun _ _ _ => ?_); cbv)
      | (refine Ar.lenN_ hA (fun _ _ => ?_); cbv)
      | (refine Ar.bneq_ hA (fun _ => ?_) (fun _ => ?_) <;> cbv)
      | (refine Ar.beq_ hA (fun _ => ?_) (fun _ => ?_) <;> cbv)
      | (refine Ar.ofN_ hA (fun _ _ _ => ?_); cbv)
)
    exact hK _ _ (by simp [crossR, hg]) rfl

theorem c_impl_WindingAt : Callable Try.prog 37 := ⟨_, Try.func37, rfl, by kernel_rfl⟩
theorem d_impl_WindingAt {es : List PV} {l : List P2} {qx qy : Int} (hes : es = l.map P2.pv) (hb : l.length ≤ 1048576) : Does Try.prog 37 [.sl es, pt qx qy] (.tup [.pv (i64 (windR l qx qy)), .pv (bl (goodOff l qx qy))]) [] := by
  refine does_of hT hM Try.func37 rfl (D := []) (by kernel_rfl) rfl rfl rfl (fun A K hA hK => ?_)
  cbv
  refine Ar.callT hA c_impl_isOff (d_impl_isOff hes hb) rfl (fun hg => ?_) (fun hg => ?_)
  · obtain ⟨c1, c2, hok, hq⟩ := goodOn_iff (goodOff_iff hg).1
    have dt := d_impl_turns hes (by omega) c2 hok hq
    obtain ⟨w, hw⟩ : ∃ w, w = windF l qx qy := ⟨_, rfl⟩
    obtain ⟨c, hcr⟩ : ∃ w, w = crossF l qx qy := ⟨_, rfl⟩
    rw [← hw, ← hcr] at dt
    cbv
    refine Ar.notT_ hA ?_
    cbv
    refine Ar.call_ hA c_impl_turns dt rfl ?_
    cbv
    exact hK _ _ (by rw [windR, hg, hw]; rfl) rfl
  · cbv
    repeat' (first
      | (refine Ar.nn_ hA (by omega) ?_; cbv)
      | (refine Ar.toN_ hA (fun _ _ => ?_); cbv)
      | (refine Ar.notT_ hA ?_; cbv)
      | (refine Ar.notF_ hA ?_; cbv)
      | (refine Ar.lss_ hA (fun _ => ?_) (fun _ => ?_) <;> cbv)
      | (refine Ar.leq_ hA (fun _ => ?_) (fun _ => ?_) <;> cbv)
      | (refine Ar.gtr_ hA (fun _ => ?_) (fun _ => ?_) <;> cbv)
      | (refine Ar.geq_ hA (fun _ => ?_) (fun _ => ?_) <;> cbv)
      | (refine Ar.eql_ hA (fun _ => ?_) (fun _ => ?_) <;> cbv)
      | (refine Ar.neq_ hA (fun _ => ?_) (fun _ => ?_) <;> cbv)
      | (refine Ar.add_ hA (by omega) (fun _ _ => ?_); cbv)
      | (refine Ar.sub_ hA (by omega) (fun _ _ => ?_); cbv)
      | (refine Ar.neg_ hA (by omega) (fun _ _ => ?_); cbv)
      | (refine Ar.mulB hA 2000 2000 (by omega) (by omega) (by omega) (fun _ _ _ _ => ?_); cbv)
      | (refine Ar.mulB hA 3000000000 3000000000 (by omega) (by omega) (by omega) (fun _ _ _ _ => ?_); cbv)
      | (refine Ar.nz_ hA (by omega) ?_; cbv)
      | (refine Ar.rem_ hA (by omega) (fun _ _ => ?_); cbv)
      | (refine Ar.quo_ hA (by omega) (fun _ _ => ?_); cbv)
      | (refine Ar.mx_ hA (fun _ _ => ?_); cbv)
      | (refine Ar.mn_ hA (fun _ _ => ?_); cbv)
      | (refine Ar.len_ hA (fun _ _ _ => ?_); cbv)
      | (refine Ar.lenN_ hA (fun _ _ => ?_); cbv)
      | (refine Ar.bneq_ hA (fun _ => ?_) (fun _ => ?_) <;> cbv)
      | (refine Ar.beq_ hA (fun _ => ?_) (fun _ => ?_) <;> cbv)
      | (refine Ar.ofN_ hA (fun _ _ _ => ?_); cbv)
)
    exact hK _ _ (by simp [windR, hg]) rfl

theorem sumTo_nn {f : Nat → Int} (h : ∀ i, 0 ≤ f i) : ∀ k, 0 ≤ sumTo f k
  | 0 => Int.le_refl _
  | k + 1 => by unfold sumTo; have := sumTo_nn h k; have := h k; omega

theorem crossF_nn (l : List P2) (x y : Int) : 0 ≤ crossF l x y := by
  unfold crossF
  exact sumTo_nn (fun i => by unfold turnC; split <;> omega) _

theorem c_spec_Inside : Callable Try.prog 40 := ⟨_, Try.func40, rfl, by kernel_rfl⟩
theorem d_spec_Inside {es : List PV} {l : List P2} {qx qy : Int} {eo : Bool} (hes : es = l.map P2.pv) (hb : l.length ≤ 1048576) : Does Try.prog 40 [.sl es, pt qx qy, bl eo] (.tup [.pv (bl (insideR l qx qy eo)), .pv (bl (goodOff l qx qy))]) [] := by
  refine does_of hT hM Try.func40 rfl (D := []) (by kernel_rfl) rfl rfl rfl (fun A K hA hK => ?_)
  cbv
  refine Ar.callT hA c_spec_l9Good (d_spec_l9Good hes hb) rfl (fun hc => ?_) (fun hc => ?_)
  · obtain ⟨c1, c2, hok, hq⟩ := goodOn_iff hc
    cbv
    refine Ar.notT_ hA ?_
    cbv
    refine Ar.callT hA c_spec_l9On (d_spec_l9On hes (by omega) c2 hok hq) rfl (fun hd => ?_) (fun hd => ?_)
    · have hg : goodOff l qx qy = false := by unfold goodOff; rw [hc, hd]; rfl
      cbv
      repeat' (first
        | (refine Ar.nn_ hA (by omega) ?_; cbv)
        | (refine Ar.toN_ hA (fun _ _ => ?_); cbv)
        | (refine Ar.notT_ hA ?_; cbv)
        | (refine Ar.notF_ hA ?_; cbv)
        | (refine Ar.lss_ hA (fun _ => ?_) (fun _ => ?_) <;> cbv)
        | (refine Ar.leq_ hA (fun _ => ?_) (fun _ => ?_) <;> cbv)
        | (refine Ar.gtr_ hA (fun _ => ?_) (fun _ => ?_) <;> cbv)
        | (refine Ar.geq_ hA (fun _ => ?_) (fun _ => ?_) <;> cbv)
        | (refine Ar.eql_ hA (fun _ => ?_) (fun _ => ?_) <;> cbv)
        | (refine Ar.neq_ hA (fun _ => ?_) (fun _ => ?_) <;> cbv)
        | (refine Ar.add_ hA (by omega) (fun _ _ => ?_); cbv)
        | (refine Ar.sub_ hA (by omega) (fun _ _ => ?_); cbv)
        | (refine Ar.neg_ hA (by omega) (fun _ _ => ?_); cbv)
        | (refine Ar.mulB hA 2000 2000 (by omega) (by omega) (by omega) (fun _ _ _ _ => ?_); cbv)
        | (refine Ar.mulB hA 3000000000 3000000000 (by omega) (by omega) (by omega) (fun _ _ _ _ => ?_); cbv)
        | (refine Ar.nz_ hA (by omega) ?_; cbv)
        | (refine Ar.rem_ hA (by omega) (fun _ _ => ?_); cbv)
        | (refine Ar.quo_ hA (by omega) (fun _ _ => ?_); cbv)
        | (refine Ar.mx_ hA (fun _ _ => ?_); cbv)
        | (refine Ar.mn_ hA (fun _ _ => ?_); cbv)
        | (refine Ar.len_ hA (fun _ _ _ => ?_); cbv)
        | (refine Ar.lenN_ hA (fun _ _ => ?_); cbv)
        | (refine Ar.bneq_ hA (fun _ => ?_) (fun _ => ?_) <;> cbv)
        | (refine Ar.beq_ hA (fun _ => ?_) (fun _ => ?_) <;> cbv)
        | (refine Ar.ofN_ hA (fun _ _ _ => ?_); cbv)
)
      exact hK _ _ (by rw [insideR, hg]; rfl) rfl
    · have hg : goodOff l qx qy = true := by unfold goodOff; rw [hc, hd]; rfl
      have hnn := crossF_nn l qx qy
      cases eo
      · cbv
        refine Ar.callI hA c_spec_l9Winding (d_spec_l9Winding hes (by omega) c2 hok hq) rfl (fun r hr => ?_)
        cbv
        refine Ar.neq_ hA (fun h => ?_) (fun h => ?_)
        all_goals
          cbv
          exact hK _ _ (by simp [insideR, hg, ← hr, h]) rfl
      · cbv
        refine Ar.callI hA c_spec_l9Crossings (d_spec_l9Crossings hes (by omega) c2 hok hq) rfl (fun r hr => ?_)
        cbv
        refine Ar.nz_ hA (by omega) ?_
        cbv
        refine Ar.rem_ hA (by omega) (fun r2 hr2 => ?_)
        cbv
        refine Ar.eql_ hA (fun h => ?_) (fun h => ?_)
        all_goals
          cbv
          exact hK _ _ (by rw [hr2] at h; simp [insideR, hg, ← hr, h]) rfl
  · cbv
    repeat' (first
      | (refine Ar.nn_ hA (by omega) ?_; cbv)
      | (refine Ar.toN_ hA (fun _ _ => ?_); cbv)
      | (refine Ar.notT_ hA ?_; cbv)
      | (refine Ar.notF_ hA ?_; cbv)
      | (refine Ar.lss_ hA (fun _ => ?_) (fun _ => ?_) <;> cbv)
      | (refine Ar.leq_ hA (fun _ => ?_) (fun _ => ?_) <;> cbv)
      | (refine Ar.gtr_ hA (fun _ => ?_) (fun _ => ?_) <;> cbv)
      | (refine Ar.geq_ hA (fun _ => ?_) (fun _ => ?_) <;> cbv)
      | (refine Ar.eql_ hA (fun _ => ?_) (fun _ => ?_) <;> cbv)
      | (refine Ar.neq_ hA (fun _ => ?_) (fun _ => ?_) <;> cbv)
      | (refine Ar.add_ hA (by omega) (fun _ _ => ?_); cbv)
      | (refine Ar.sub_ hA (by omega) (fun _ _ => ?_); cbv)
      | (refine Ar.neg_ hA (by omega) (fun _ _ => ?_); cbv)
      | (refine Ar.mulB hA 2000 2000 (by omega) (by omega) (by omega) (fun _ _ _ _ => ?_); cbv)
      | (refine Ar.mulB hA 3000000000 3000000000 (by omega) (by omega) (by omega) (fun _ _ _ _ => ?_); cbv)
      | (refine Ar.nz_ hA (by omega) ?_; cbv)
      | (refine Ar.rem_ hA (by omega) (fun _ _ => ?_); cbv)
      | (refine Ar.quo_ hA (by omega) (fun _ _ => ?_); cbv)
      | (refine Ar.mx_ hA (fun _ _ => ?_); cbv)
      | (refine Ar.mn_ hA (fun _ _ => ?_); cbv)
      | (refine Ar.len_ hA (fun _ _ _ => ?_); cbv)
      | (refine Ar.lenN_ hA (fun _ _ => ?_); cbv)
      | (refine Ar.bneq_ hA (fun _ => ?_) (fun _ => ?_) <;> cbv)
      | (refine Ar.beq_ hA (fun _ => ?_) (fun _ => ?_) <;> cbv)
      | (refine Ar.ofN_ hA (fun _ _ _ => ?_); cbv)
)
    exact hK _ _ (by simp [insideR, goodOff, hc]) rfl

theorem c_impl_Inside : Callable Try.prog 41 := ⟨_, Try.func41, rfl, by kernel_rfl⟩
theorem d_impl_Inside {es : List PV} {l : List P2} {qx qy : Int} {eo : Bool} (hes : es = l.map P2.pv) (hb : l.length ≤ 1048576) : Does Try.prog 41 [.sl es, pt qx qy, bl eo] (.tup [.pv (bl (insideR l qx qy eo)), .pv (bl (goodOff l qx qy))]) [] := by
  refine does_of hT hM Try.func41 rfl (D := []) (by kernel_rfl) rfl rfl rfl (fun A K hA hK => ?_)
  cbv
  refine Ar.callT hA c_impl_isOff (d_impl_isOff hes hb) rfl (fun hg => ?_) (fun hg => ?_)
  · obtain ⟨c1, c2, hok, hq⟩ := goodOn_iff (goodOff_iff hg).1
    have dt := d_impl_turns hes (by omega) c2 hok hq
    have hnn := crossF_nn l qx qy
    obtain ⟨w, hw⟩ : ∃ w, w = windF l qx qy := ⟨_, rfl⟩
    obtain ⟨c, hcr⟩ : ∃ w, w = crossF l qx qy := ⟨_, rfl⟩
    rw [← hw, ← hcr] at dt
    cbv
    refine Ar.notT_ hA ?_
    cbv
    refine Ar.call_ hA c_impl_turns dt rfl ?_
    cases eo
    · cbv
      refine Ar.neq_ hA (fun h => ?_) (fun h => ?_)
      all_goals
        cbv
        exact hK _ _ (by simp [insideR, hg, ← hw, h]) rfl
    · cbv
      refine Ar.nz_ hA (by omega) ?_
      cbv
      refine Ar.rem_ hA (by omega) (fun r2 hr2 => ?_)
      cbv
      refine Ar.eql_ hA (fun h => ?_) (fun h => ?_)
      all_goals
        cbv
        exact hK _ _ (by rw [hr2] at h; simp [insideR, hg, ← hcr, h]) rfl
  · cbv
    repeat' (first
      | (refine Ar.nn_ hA (by omega) ?_; cbv)
      | (refine Ar.toN_ hA (fun _ _ => ?_); cbv)
      | (refine Ar.notT_ hA ?_; cbv)
      | (refine Ar.notF_ hA ?_; cbv)
      | (refine Ar.lss_ hA (fun _ => ?_) (fun _ => ?_) <;> cbv)
      | (refine Ar.leq_ hA (fun _ => ?_) (fun _ => ?_) <;> cbv)
      | (refine Ar.gtr_ hA (fun _ => ?_) (fun _ => ?_) <;> cbv)
      | (refine Ar.geq_ hA (fun _ => ?_) (fun _ => ?_) <;> cbv)
      | (refine Ar.eql_ hA (fun _ => ?_) (fun _ => ?_) <;> cbv)
      | (refine Ar.neq_ hA (fun _ => ?_) (fun _ => ?_) <;> cbv)
      | (refine Ar.add_ hA (by omega) (fun _ _ => ?_); cbv)
      | (refine Ar.sub_ hA (by omega) (fun _ _ => ?_); cbv)
      | (refine Ar.neg_ hA (by omega) (fun _ _ => ?_); cbv)
      | (refine Ar.mulB hA 2000 2000 (by omega) (by omega) (by omega) (fun _ _ _ _ => ?_); cbv)
      | (refine Ar.mulB hA 3000000000 3000000000 (by omega) (by omega) (by omega) (fun _ _ _ _ => ?_); cbv)
      | (refine Ar.nz_ hA (by omega) ?_; cbv)
      | (refine Ar.rem_ hA (by omega) (fun _ _ => ?_); cbv)
      | (refine Ar.quo_ hA (by omega) (fun _ _ => ?_); cbv)
      | (refine Ar.mx_ hA (fun _ _ => ?_); cbv)
      | (refine Ar.mn_ hA (fun _ _ => ?_); cbv)
      | (refine Ar.len_ hA (fun _ _ _ => ?_); cbv)
      | (refine Ar.lenN_ hA (fun _ _ => ?_); cbv)
      | (refine Ar.bneq_ hA (fun _ => ?_) (fun _ => ?_) <;> cbv)
      | (refine Ar.beq_ hA (fun _ => ?_) (fun _ => ?_) <;> cbv)
      | (refine Ar.ofN_ hA (fun _ _ _ => ?_); cbv)
)
    exact hK _ _ (by simp [insideR, hg]) rfl

theorem c_laws_FnExactCrossingsAt : Callable Try.prog 9 := ⟨_, Try.func9, rfl, by kernel_rfl⟩
theorem d_laws_FnExactCrossingsAt {es : List PV} {l : List P2} {qx qy : Int} (hes : es = l.map P2.pv ∧ l.length ≤ 9223372036854775807) (_ : InR qx ∧ InR qy) : Does Try.prog 9 [.sl es, pt qx qy] (.pv (bl true)) [] := by
  refine does_of hT hM Try.func9 rfl (D := []) (by kernel_rfl) rfl rfl rfl (fun A K hA hK => ?_)
  obtain ⟨hes, hmax⟩ := hes
  have hlen : es.length = l.length := by simp [hes]
  cbv
  refine Ar.callI hA c_laws_szPtS (d_laws_szPtS (by omega) (by omega)) rfl (fun r hr => ?_)
  cbv
  refine Ar.lss_ hA (fun h => ?_) (fun h => ?_)
  · cbv
    exact hK _ _ rfl rfl
  have hb : l.length ≤ 1048576 := by have := szF_le hr h; omega
  cbv
  repeat' (first
    | (refine Ar.nn_ hA (by omega) ?_; cbv)
    | (refine Ar.toN_ hA (fun _ _ => ?_); cbv)
    | (refine Ar.notT_ hA ?_; cbv)
    | (refine Ar.notF_ hA ?_; cbv)
    | (refine Ar.lss_ hA (fun _ => ?_) (fun _ => ?_) <;> cbv)
    | (refine Ar.leq_ hA (fun _ => ?_) (fun _ => ?_) <;> cbv)
    | (refine Ar.gtr_ hA (fun _ => ?_) (fun _ => ?_) <;> cbv)
    | (refine Ar.geq_ hA (fun _ => ?_) (fun _ => ?_) <;> cbv)
    | (refine Ar.eql_ hA (fun _ => ?_) (fun _ => ?_) <;> cbv)
    | (refine Ar.neq_ hA (fun _ => ?_) (fun _ => ?_) <;> cbv)
    | (refine Ar.add_ hA (by omega) (fun _ _ => ?_); cbv)
    | (refine Ar.sub_ hA (by omega) (fun _ _ => ?_); cbv)
    | (refine Ar.neg_ hA (by omega) (fun _ _ => ?_); cbv)
    | (refine Ar.mulB hA 2000 2000 (by omega) (by omega) (by omega) (fun _ _ _ _ => ?_); cbv)
    | (refine Ar.mulB hA 3000000000 3000000000 (by omega) (by omega) (by omega) (fun _ _ _ _ => ?_); cbv)
    | (refine Ar.nz_ hA (by omega) ?_; cbv)
    | (refine Ar.rem_ hA (by omega) (fun _ _ => ?_); cbv)
    | (refine Ar.quo_ hA (by omega) (fun _ _ => ?_); cbv)
    | (refine Ar.mx_ hA (fun _ _ => ?_); cbv)
    | (refine Ar.mn_ hA (fun _ _ => ?_); cbv)
    | (refine Ar.len_ hA (fun _ _ _ => ?_); cbv)
    | (refine Ar.lenN_ hA (fun _ _ => ?_); cbv)
    | (refine Ar.bneq_ hA (fun _ => ?_) (fun _ => ?_) <;> cbv)
    | (refine Ar.beq_ hA (fun _ => ?_) (fun _ => ?_) <;> cbv)
    | (refine Ar.ofN_ hA (fun _ _ _ => ?_); cbv)
    | (refine Ar.call_ hA c_laws_toPtS (d_laws_toPtS hes hb) rfl ?_; cbv)
    | (refine Ar.call_ hA c_laws_toPt (d_laws_toPt) rfl ?_; cbv)
    | (refine Ar.callIB hA c_spec_CrossingsAt (d_spec_CrossingsAt hes hb) rfl (fun _ _ _ _ => ?_); cbv)
    | (refine Ar.callIB hA c_impl_CrossingsAt (d_impl_CrossingsAt hes hb) rfl (fun _ _ _ _ => ?_); cbv)
    | (refine Ar.callT hA c_laws_eqPtS (d_laws_eqPtS hes hes hb) rfl (fun _ => ?_) (fun _ => ?_) <;> cbv))
  all_goals first | exact hK _ _ rfl rfl | (exfalso; subst_vars; simp_all; done)

theorem c_laws_FnExactWindingAt : Callable Try.prog 10 := ⟨_, Try.func10, rfl, by kernel_rfl⟩
theorem d_laws_FnExactWindingAt {es : List PV} {l : List P2} {qx qy : Int} (hes : es = l.map P2.pv ∧ l.length ≤ 9223372036854775807) (_ : InR qx ∧ InR qy) : Does Try.prog 10 [.sl es, pt qx qy] (.pv (bl true)) [] := by
  refine does_of hT hM Try.func10 rfl (D := []) (by kernel_rfl) rfl rfl rfl (fun A K hA hK => ?_)
  obtain ⟨hes, hmax⟩ := hes
  have hlen : es.length = l.length := by simp [hes]
  cbv
  refine Ar.callI hA c_laws_szPtS (d_laws_szPtS (by omega) (by omega)) rfl (fun r hr => ?_)
  cbv
  refine Ar.lss_ hA (fun h => ?_) (fun h => ?_)
  · cbv
    exact hK _ _ rfl rfl
  have hb : l.length ≤ 1048576 := by have := szF_le hr h; omega
  cbv
  repeat' (first
    | (refine Ar.nn_ hA (by omega) ?_; cbv)
    | (refine Ar.toN_ hA (fun _ _ => ?_); cbv)
    | (refine Ar.notT_ hA ?_; cbv)
    | (refine Ar.notF_ hA ?_; cbv)
    | (refine Ar.lss_ hA (fun _ => ?_) (fun _ => ?_) <;> cbv)
    | (refine Ar.leq_ hA (fun _ => ?_) (fun _ => ?_) <;> cbv)
    | (refine Ar.gtr_ hA (fun _ => ?_) (fun _ => ?_) <;> cbv)
    | (refine Ar.geq_ hA (fun _ => ?_) (fun _ => ?_) <;> cbv)
    | (refine Ar.eql_ hA (fun _ => ?_) (fun _ => ?_) <;> cbv)
    | (refine Ar.neq_ hA (fun _ => ?_) (fun _ => ?_) <;> cbv)
    | (refine Ar.add_ hA (by omega) (fun _ _ => ?_); cbv)
    | (refine Ar.sub_ hA (by omega) (fun _ _ => ?_); cbv)
    | (refine Ar.neg_ hA (by omega) (fun _ _ => ?_); cbv)
    | (refine Ar.mulB hA 2000 2000 (by omega) (by omega) (by omega) (fun _ _ _ _ => ?_); cbv)
    | (refine Ar.mulB hA 3000000000 3000000000 (by omega) (by omega) (by omega) (fun _ _ _ _ => ?_); cbv)
    | (refine Ar.nz_ hA (by omega) ?_; cbv)
    | (refine Ar.rem_ hA (by omega) (fun _ _ => ?_); cbv)
    | (refine Ar.quo_ hA (by omega) (fun _ _ => ?_); cbv)
    | (refine Ar.mx_ hA (fun _ _ => ?_); cbv)
    | (refine Ar.mn_ hA (fun _ _ => ?_); cbv)
    | (refine Ar.len_ hA (fun _ _ _ => ?_); cbv)
    | (refine Ar.lenN_ hA (fun _ _ => ?_); cbv)
    | (refine Ar.bneq_ hA (fun _ => ?_) (fun _ => ?_) <;> cbv)
    | (refine Ar.beq_ hA (fun _ => ?_) (fun _ => ?_) <;> cbv)
    | (refine Ar.ofN_ hA (fun _ _ _ => ?_); cbv)
    | (refine Ar.call_ hA c_laws_toPtS (d_laws_toPtS hes hb) rfl ?_; cbv)
    | (refine Ar.call_ hA c_laws_toPt (d_laws_toPt) rfl ?_; cbv)
    | (refine Ar.callIB hA c_spec_WindingAt (d_spec_WindingAt hes hb) rfl (fun _ _ _ _ => ?_); cbv)
    | (refine Ar.callIB hA c_impl_WindingAt (d_impl_WindingAt hes hb) rfl (fun _ _ _ _ => ?_); cbv)
    | (refine Ar.callT hA c_laws_eqPtS (d_laws_eqPtS hes hes hb) rfl (fun _ => ?_) (fun _ => ?_) <;> cbv))
  all_goals first | exact hK _ _ rfl rfl | (exfalso; subst_vars; simp_all; done)

theorem c_laws_FnExactInside : Callable Try.prog 12 := ⟨_, Try.func12, rfl, by kernel_rfl⟩
theorem d_laws_FnExactInside {es : List PV} {l : List P2} {qx qy : Int} {eo : Bool} (hes : es = l.map P2.pv ∧ l.length ≤ 9223372036854775807) (_ : InR qx ∧ InR qy) (_ : True) : Does Try.prog 12 [.sl es, pt qx qy, bl eo] (.pv (bl true)) [] := by
  refine does_of hT hM Try.func12 rfl (D := []) (by kernel_rfl) rfl rfl rfl (fun A K hA hK => ?_)
  obtain ⟨hes, hmax⟩ := hes
  have hlen : es.length = l.length := by simp [hes]
  cbv
  refine Ar.callI hA c_laws_szPtS (d_laws_szPtS (by omega) (by omega)) rfl (fun r hr => ?_)
  cbv
  refine Ar.lss_ hA (fun h => ?_) (fun h => ?_)
  · cbv
    exact hK _ _ rfl rfl
  have hb : l.length ≤ 1048576 := by have := szF_le hr h; omega
  cbv
  repeat' (first
    | (refine Ar.nn_ hA (by omega) ?_; cbv)
    | (refine Ar.toN_ hA (fun _ _ => ?_); cbv)
    | (refine Ar.notT_ hA ?_; cbv)
    | (refine Ar.notF_ hA ?_; cbv)
    | (refine Ar.lss_ hA (fun _ => ?_) (fun _ => ?_) <;> cbv)
    | (refine Ar.leq_ hA (fun _ => ?_) (fun _ => ?_) <;> cbv)
    | (refine Ar.gtr_ hA (fun _ => ?_) (fun _ => ?_) <;> cbv)
    | (refine Ar.geq_ hA (fun _ => ?_) (fun _ => ?_) <;> cbv)
    | (refine Ar.eql_ hA (fun _ => ?_) (fun _ => ?_) <;> cbv)
    | (refine Ar.neq_ hA (fun _ => ?_) (fun _ => ?_) <;> cbv)
    | (refine Ar.add_ hA (by omega) (fun _ _ => ?_); cbv)
    | (refine Ar.sub_ hA (by omega) (fun _ _ => ?_); cbv)
    | (refine Ar.neg_ hA (by omega) (fun _ _ => ?_); cbv)
    | (refine Ar.mulB hA 2000 2000 (by omega) (by omega) (by omega) (fun _ _ _ _ => ?_); cbv)
    | (refine Ar.mulB hA 3000000000 3000000000 (by omega) (by omega) (by omega) (fun _ _ _ _ => ?_); cbv)
    | (refine Ar.nz_ hA (by omega) ?_; cbv)
    | (refine Ar.rem_ hA (by omega) (fun _ _ => ?_); cbv)
    | (refine Ar.quo_ hA (by omega) (fun _ _ => ?_); cbv)
    | (refine Ar.mx_ hA (fun _ _ => ?_); cbv)
    | (refine Ar.mn_ hA (fun _ _ => ?_); cbv)
    | (refine Ar.len_ hA (fun _ _ _ => ?_); cbv)
    | (refine Ar.lenN_ hA (fun _ _ => ?_); cbv)
    | (refine Ar.bneq_ hA (fun _ => ?_) (fun _ => ?_) <;> cbv)
    | (refine Ar.beq_ hA (fun _ => ?_) (fun _ => ?_) <;> cbv)
    | (refine Ar.ofN_ hA (fun _ _ _ => ?_); cbv)
    | (refine Ar.call_ hA c_laws_toPtS (d_laws_toPtS hes hb) rfl ?_; cbv)
    | (refine Ar.call_ hA c_laws_toPt (d_laws_toPt) rfl ?_; cbv)
    | (refine Ar.callBB hA c_spec_Inside (d_spec_Inside hes hb) rfl (fun _ _ _ _ => ?_); cbv)
    | (refine Ar.callBB hA c_impl_Inside (d_impl_Inside hes hb) rfl (fun _ _ _ _ => ?_); cbv)
    | (refine Ar.callT hA c_laws_eqPtS (d_laws_eqPtS hes hes hb) rfl (fun _ => ?_) (fun _ => ?_) <;> cbv))
  all_goals first | exact hK _ _ rfl rfl | (exfalso; subst_vars; simp_all; done)

end Go.VAI
