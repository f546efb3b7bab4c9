/- SortPts. -/
import Derived.Test.YtidbgfknaopkkaaZ1
namespace Go.VAI
open Go.Proofs
set_option maxRecDepth 100000
set_option maxHeartbeats 8000000

def goodSort (l : List P2) : Bool := l.all P2.ok && decide (l.length ≤ 16)
def sortR (l : List P2) : List P2 := if goodSort l then sortF l else []
theorem sortR_le {l : List P2} : (sortR l).length ≤ 16 := by
  unfold sortR
  split
  · rename_i h
    unfold goodSort at h
    rw [Bool.and_eq_true, decide_eq_true_eq] at h
    exact Nat.le_trans (sortF_len l) h.2
  · simp

theorem c_spec_SortPts : Callable Try.prog 35 := ⟨_, Try.func35, rfl, by kernel_rfl⟩
theorem d_spec_SortPts {es : List PV} {l : List P2} (hes : es = l.map P2.pv) (hb : l.length ≤ 1048576) : Does Try.prog 35 [.sl es] (.tup [.row ((sortR l).map P2.pv) 2 .free, .pv (bl (goodSort l))]) [] := by
  refine does_of hT hM Try.func35 rfl (D := []) (by kernel_rfl) rfl rfl rfl (fun A K hA hK => ?_)
  have hlen : es.length = l.length := by simp [hes]
  have hno : goodSort l = false → K (.tup [.row [] 2 .free, .pv (bl false)]) [] := fun h => hK _ _ (by rw [sortR, h]; rfl) rfl
  have hyes : goodSort l = true → K (.tup [.row ((sortF l).map P2.pv) 2 .free, .pv (bl true)]) [] := fun h => hK _ _ (by rw [sortR, h]; rfl) rfl
  clear hK
  cbv
  refine Ar.callT hA c_spec_l8Pts (d_spec_l8Pts hes hb) rfl (fun hc => ?_) (fun hc => ?_)
  rotate_left
  · have hg : goodSort l = false := by unfold goodSort; rw [hc]; rfl
    cbv
    repeat' (first
      | (refine Ar.nn_ hA (by omega) ?_; cbv)
      | (refine Ar.toN_ hA (fun _ _ => ?_); cbv)
      | (refine Ar.notT_ hA ?_; cbv)
      | (refine Ar.notF_ hA ?_; cbv)
      | (refine Ar.lss_ hA (fun _ => ?_) (fun _ => ?_) <;> cbv)
      | (refine Ar.leq_ hA (fun _ => ?_) (fun _ => ?_) <;> cbv)
      | (refine Ar.gtr_ hA (fun _ => ?_) (fun _ => ?_) <;> cbv)
      | (refine Ar.geq_ hA (fun _ => ?_) (fun _ => ?_) <;> cbv)
      | (refine Ar.eql_ hA (fun _ => ?_) (fun _ => ?_) <;> cbv)
      | (refine Ar.neq_ hA (fun _ => ?_) (fun _ => ?_) <;> cbv)
      | (refine Ar.add_ hA (by omega) (fun _ _ => ?_); cbv)
      | (refine Ar.sub_ hA (by omega) (fun _ _ => ?_); cbv)
      | (refine Ar.neg_ hA (by omega) (fun _ _ => ?_); cbv)
      | (refine Ar.mulB hA 2000 2000 (by omega) (by omega) (by omega) (fun _ _ _ _ => ?_); cbv)
      | (refine Ar.mulB hA 3000000000 3000000000 (by omega) (by omega) (by omega) (fun _ _ _ _ => ?_); cbv)
      | (refine Ar.nz_ hA (by omega) ?_; cbv)
      | (refine Ar.rem_ hA (by omega) (fun _ _ => ?_); cbv)
      | (refine Ar.quo_ hA (by omega) (fun _ _ => ?_); cbv)
      | (refine Ar.mx_ hA (fun _ _ => ?_); cbv)
      | (refine Ar.mn_ hA (fun _ _ => ?_); cbv)
      | (refine Ar.len_ hA (fun _ _ _ => ?_); cbv)
      | (refine Ar.lenN_ hA (fun _ _ => ?_); cbv)
      | (refine Ar.bneq_ hA (fun _ => ?_) (fun _ => ?_) <;> cbv)
      | (refine Ar.beq_ hA (fun _ => ?_) (fun _ => ?_) <;> cbv)
      | (refine Ar.ofN_ hA (fun _ _ _ => ?_); cbv)
)
    exact hno hg
  cbv
  refine Ar.notT_ hA ?_
  cbv
  refine Ar.len_ hA (fun n hn hn' => ?_)
  cbv
  refine Ar.gtr_ hA (fun g => ?_) (fun g => ?_)
  · have hg : goodSort l = false := by unfold goodSort; rw [hc, Bool.true_and]; exact decide_eq_false (by omega)
    cbv
    exact hno hg
  have hg : goodSort l = true := by unfold goodSort; rw [hc, Bool.true_and]; exact decide_eq_true (by omega)
  have hy := hyes hg
  have ds := d_spec_l10Sort hes (by omega)
  generalize (sortF l).map P2.pv = R at hy ds
  cbv
  refine Ar.call_ hA c_spec_l10Sort ds rfl ?_
  cbv
  exact hy

theorem c_impl_SortPts : Callable Try.prog 36 := ⟨_, Try.func36, rfl, by kernel_rfl⟩
theorem d_impl_SortPts {es : List PV} {l : List P2} (hes : es = l.map P2.pv) (hb : l.length ≤ 1048576) : Does Try.prog 36 [.sl es] (.tup [.row ((sortR l).map P2.pv) 2 .free, .pv (bl (goodSort l))]) [] := by
  refine does_of hT hM Try.func36 rfl (D := []) (by kernel_rfl) rfl rfl rfl (fun A K hA hK => ?_)
  have hlen : es.length = l.length := by simp [hes]
  have hno : goodSort l = false → K (.tup [.row [] 2 .free, .pv (bl false)]) [] := fun h => hK _ _ (by rw [sortR, h]; rfl) rfl
  have hyes : goodSort l = true → K (.tup [.row ((sortF l).map P2.pv) 2 .free, .pv (bl true)]) [] := fun h => hK _ _ (by rw [sortR, h]; rfl) rfl
  clear hK
  cbv
  refine Ar.len_ hA (fun n hn hn' => ?_)
  cbv
  refine Ar.gtr_ hA (fun g => ?_) (fun g => ?_)
  · have hg : goodSort l = false := by unfold goodSort; rw [decide_eq_false (by omega), Bool.and_false]
    cbv
    exact hno hg
  cbv
  refine Ar.callT hA c_impl_arePts (d_impl_arePts hes hb) rfl (fun hc => ?_) (fun hc => ?_)
  rotate_left
  · have hg : goodSort l = false := by unfold goodSort; rw [hc]; rfl
    cbv
    repeat' (first
      | (refine Ar.nn_ hA (by omega) ?_; cbv)
      | (refine Ar.toN_ hA (fun _ _ => ?_); cbv)
      | (refine Ar.notT_ hA ?_; cbv)
      | (refine Ar.notF_ hA ?_; cbv)
      | (refine Ar.lss_ hA (fun _ => ?_) (fun _ => ?_) <;> cbv)
      | (refine Ar.leq_ hA (fun _ => ?_) (fun _ => ?_) <;> cbv)
      | (refine Ar.gtr_ hA (fun _ => ?_) (fun _ => ?_) <;> cbv)
      | (refine Ar.geq_ hA (fun _ => ?_) (fun _ => ?_) <;> cbv)
      | (refine Ar.eql_ hA (fun _ => ?_) (fun _ => ?_) <;> cbv)
      | (refine Ar.neq_ hA (fun _ => ?_) (fun _ => ?_) <;> cbv)
      | (refine Ar.add_ hA (by omega) (fun _ _ => ?_); cbv)
      | (refine Ar.sub_ hA (by omega) (fun _ _ => ?_); cbv)
      | (refine Ar.neg_ hA (by omega) (fun _ _ => ?_); cbv)
      | (refine Ar.mulB hA 2000 2000 (by omega) (by omega) (by omega) (fun _ _ _ _ => ?_); cbv)
      | (refine Ar.mulB hA 3000000000 3000000000 (by omega) (by omega) (by omega) (fun _ _ _ _ => ?_); cbv)
      | (refine Ar.nz_ hA (by omega) ?_; cbv)
      | (refine Ar.rem_ hA (by omega) (fun _ _ => ?_); cbv)
      | (refine Ar.quo_ hA (by omega) (fun _ _ => ?_); cbv)
      | (refine Ar.mx_ hA (fun _ _ => ?_); cbv)
      | (refine Ar.mn_ hA (fun _ _ => ?_); cbv)
      | (refine Ar.len_ hA (fun _ _ _ => ?_); cbv)
      | (refine Ar.lenN_ hA (fun _ _ => ?_); cbv)
      | (refine Ar.bneq_ hA (fun _ => ?_) (fun _ => ?_) <;> cbv)
      | (refine Ar.beq_ hA (fun _ => ?_) (fun _ => ?_) <;> cbv)
      | (refine Ar.ofN_ hA (fun _ _ _ => ?_); cbv)
)
    exact hno hg
  have hg : goodSort l = true := by unfold goodSort; rw [hc, Bool.true_and]; exact decide_eq_true (by omega)
  have hy := hyes hg
  have ds := d_impl_sorted hes hb
  generalize (sortF l).map P2.pv = R at hy ds
  cbv
  refine Ar.notT_ hA ?_
  cbv
  refine Ar.call_ hA c_impl_sorted ds rfl ?_
  cbv
  exact hy

theorem c_laws_FnExactSortPts : Callable Try.prog 8 := ⟨_, Try.func8, rfl, by kernel_rfl⟩
theorem d_laws_FnExactSortPts {es : List PV} {l : List P2} (hes : es = l.map P2.pv ∧ l.length ≤ 9223372036854775807) : Does Try.prog 8 [.sl es] (.pv (bl true)) [] := by
  refine does_of hT hM Try.func8 rfl (D := []) (by kernel_rfl) rfl rfl rfl (fun A K hA hK => ?_)
  obtain ⟨hes, hmax⟩ := hes
  have hlen : es.length = l.length := by simp [hes]
  have hcl := sortR_le (l := l)
  obtain ⟨C, hC⟩ : ∃ C, C = sortR l := ⟨_, rfl⟩
  have dS := fun (hb : l.length ≤ 1048576) => d_spec_SortPts hes hb
  have dI := fun (hb : l.length ≤ 1048576) => d_impl_SortPts hes hb
  rw [← hC] at dS dI hcl
  clear hC
  generalize hG : goodSort l = G at dS dI
  clear hG
  obtain ⟨E, hE⟩ : ∃ E, E = C.map P2.pv := ⟨_, rfl⟩
  rw [← hE] at dS dI
  obtain ⟨M, hM⟩ : ∃ M, M = (up2 l.length 1).map P2.pv := ⟨_, rfl⟩
  obtain ⟨N, hN⟩ : ∃ N, N = (up2 C.length 1).map P2.pv := ⟨_, rfl⟩
  have m1 := fun (hb : l.length ≤ 1048576) => d_laws_markPtS (k := 1) hes hb (by omega)
  have m2 := d_laws_markPtS (k := 1) hE (by omega) (by omega)
  have m3 := d_laws_heldPtS (k := 1) hN (by omega) (by omega)
  have e1 := d_laws_eqPtS hE hE (by omega)
  have e2 := fun (hb : l.length ≤ 1048576) => d_laws_eqPtS hes hes hb
  rw [decide_eq_true rfl] at e1
  rw [← hM] at m1
  rw [← hN] at m2
  obtain ⟨u, hu⟩ : ∃ u, u = on2 l.length 1 := ⟨_, rfl⟩
  obtain ⟨v, hv⟩ : ∃ v, v = on2 C.length 1 := ⟨_, rfl⟩
  have hu0 := on2_pos hu (by omega)
  have hv0 := on2_pos hv (by omega)
  rw [← hu] at m1
  rw [← hv] at m2 m3
  clear hu hv hM hN hE
  cbv
  refine Ar.callI hA c_laws_szPtS (d_laws_szPtS (by omega) (by omega)) rfl (fun r hr => ?_)
  cbv
  refine Ar.lss_ hA (fun h => ?_) (fun h => ?_)
  · cbv
    exact hK _ _ rfl rfl
  have hb : l.length ≤ 1048576 := by have := szF_le hr h; omega
  have dS := dS hb
  have dI := dI hb
  have m1 := m1 hb
  have e2 := e2 hb
  rw [decide_eq_true rfl] at e2
  cbv
  repeat' (first
    | (refine Ar.call_ hA c_laws_toPtS (d_laws_toPtS hes hb) rfl ?_; cbv)
    | (refine Ar.call_ hA c_spec_SortPts dS rfl ?_; cbv)
    | (refine Ar.call_ hA c_impl_SortPts dI rfl ?_; cbv)
    | (refine Ar.call_ hA c_laws_eqPtS e1 rfl ?_; cbv)
    | (refine Ar.call_ hA c_laws_eqPtS e2 rfl ?_; cbv)
    | (refine Ar.call_ hA c_laws_markPtS m1 rfl ?_; cbv)
    | (refine Ar.call_ hA c_laws_markPtS m2 rfl ?_; cbv)
    | (refine Ar.call_ hA c_laws_heldPtS m3 rfl ?_; cbv)
    | (refine Ar.notT_ hA ?_; cbv)
    | (refine Ar.bneq_ hA (fun h => absurd rfl h) (fun _ => ?_); cbv)
    | (refine Ar.neq_ hA (fun h => absurd rfl h) (fun _ => ?_); cbv)
    | (refine Ar.lss_ hA (fun h => absurd h (by omega)) (fun _ => ?_); cbv))
  exact hK _ _ rfl rfl

end Go.VAI
