/- HullOf, IsHull. -/
import Derived.Test.YtidbgfknaopkkaaZ4
namespace Go.VAI
open Go.Proofs
set_option maxRecDepth 100000
set_option maxHeartbeats 8000000

theorem c_impl_hull : Callable Try.prog 75 := ⟨_, Try.func75, rfl, by kernel_rfl⟩
theorem d_impl_hull {es : List PV} {l : List P2} (hes : es = l.map P2.pv) (hb : l.length ≤ 16) (h0 : 0 < l.length) (hok : ∀ p ∈ l, p.ok = true) : Does Try.prog 75 [.sl es] (.row ((hullF l).map P2.pv) 2 .free) [] := by
  refine does_of hT hM Try.func75 rfl (D := []) (by kernel_rfl) rfl rfl rfl (fun A K hA hK => ?_)
  have dS := d_impl_sorted hes (by omega)
  have hsp := sortF_pos h0
  obtain ⟨s, hs⟩ : ∃ s, s = sortF l := ⟨_, rfl⟩
  have hsl : s.length ≤ 16 := by rw [hs]; exact Nat.le_trans (sortF_len l) hb
  have hsok : ∀ p ∈ s, p.ok = true := fun p hp => hok p (sortF_mem.1 (by rw [← hs]; exact hp))
  unfold hullF at hK
  rw [← hs] at dS hK hsp
  clear hs
  obtain ⟨r0, hr0⟩ : ∃ r, r = s.map P2.pv := ⟨_, rfl⟩
  rw [← hr0] at dS
  have hr0l : r0.length = s.length := by rw [hr0]; simp
  have dV := d_slices_Reverse_impl_Pt_impl_Pt hr0 (by omega)
  obtain ⟨rt, hrt0⟩ : ∃ r, r = r0.reverse := ⟨_, rfl⟩
  have hrt : rt = s.reverse.map P2.pv := by rw [hrt0, hr0, List.map_reverse]
  rw [← hrt0] at dV
  have dC := d_impl_sideOf hr0 hsl hsp hsok
  have dD := d_impl_sideOf hrt (by simpa using hsl) (by simpa using hsp) (fun p hp => hsok p (by simpa using hp))
  have hc1 := chainF_len s
  have hc2 := chainF_len s.reverse
  rw [List.length_reverse] at hc2
  have hd1 := sideF_len s
  have hd2 := sideF_len s.reverse
  obtain ⟨c1, hc1'⟩ : ∃ r, r = (sideF s).map P2.pv := ⟨_, rfl⟩
  obtain ⟨c2, hc2'⟩ : ∃ r, r = (sideF s.reverse).map P2.pv := ⟨_, rfl⟩
  have hl1 : c1.length = (sideF s).length := by rw [hc1']; simp
  have hl2 : c2.length = (sideF s.reverse).length := by rw [hc2']; simp
  have hres : s.length ≠ 1 → ∀ r, r = c1 ++ c2 → K (.row r 2 .free) [] := fun h r hr => hK _ _ (by
    have e : hullS s = sideF s ++ sideF s.reverse := by
      unfold hullS
      split
      · exact (hullS_two (by omega)).symm
      · rfl
    rw [e, hr, hc1', hc2', List.map_append]) rfl
  have hone : s.length = 1 → K (.row r0 2 .free) [] := fun h => hK _ _ (by unfold hullS; rw [if_pos (by omega), hr0]) rfl
  clear hK
  rw [← hc1'] at dC
  rw [← hc2'] at dD
  clear hc1' hc2'
  have b1 : c1.length ≤ 16 := by omega
  have b2 : c2.length ≤ 16 := by omega
  clear hl1 hl2 hd1 hd2 hc1 hc2 hrt hrt0
  cbv
  refine Ar.call_ hA c_impl_sorted dS rfl ?_
  cbv
  refine Ar.len_ hA (fun n hn hn' => ?_)
  cbv
  refine Ar.eql_ hA (fun g => ?_) (fun g => ?_)
  · cbv
    exact hone (by omega)
  cbv
  refine Ar.call_ hA c_impl_sideOf dC rfl ?_
  cbv
  refine Ar.call_ hA c_slices_Reverse_impl_Pt_impl_Pt dV rfl ?_
  cbv
  refine Ar.call_ hA c_impl_sideOf dD rfl ?_
  cbv
  refine Ar.app_ hA (fun r hr => ?_)
  cbv
  refine Ar.fitsL_ hA (by rw [hr, List.length_append]; omega) ?_
  cbv
  exact hres (by omega) _ hr

def hullR (l : List P2) : List P2 := if isCloudF l then hullF l else []
theorem hullR_le {l : List P2} : (hullR l).length ≤ 32 := by
  unfold hullR
  split
  · rename_i h; exact hullF_len (isCloudF_iff.1 h).2.1
  · simp

theorem c_spec_HullOf : Callable Try.prog 38 := ⟨_, Try.func38, rfl, by kernel_rfl⟩
theorem d_spec_HullOf {es : List PV} {l : List P2} (hes : es = l.map P2.pv) (hb : l.length ≤ 1048576) : Does Try.prog 38 [.sl es] (.tup [.row ((hullR l).map P2.pv) 2 .free, .pv (bl (isCloudF l))]) [] := by
  refine does_of hT hM Try.func38 rfl (D := []) (by kernel_rfl) rfl rfl rfl (fun A K hA hK => ?_)
  have hlen : es.length = l.length := by simp [hes]
  have hno : isCloudF l = false → K (.tup [.row [] 2 .free, .pv (bl false)]) [] := fun h => hK _ _ (by rw [hullR, h]; rfl) rfl
  have hyes : isCloudF l = true → K (.tup [.row ((hullF l).map P2.pv) 2 .free, .pv (bl true)]) [] := fun h => hK _ _ (by rw [hullR, h]; rfl) rfl
  clear hK
  cbv
  refine Ar.callT hA c_spec_l10Cloud (d_spec_l10Cloud hes hb) rfl (fun hc => ?_) (fun hc => ?_)
  rotate_left
  · cbv
    repeat' (first
      | (refine Ar.nn_ hA (by omega) ?_; cbv)
      | (refine Ar.toN_ hA (fun _ _ => ?_); cbv)
      | (refine Ar.notT_ hA ?_; cbv)
      | (refine Ar.notF_ hA ?_; cbv)
      | (refine Ar.lss_ hA (fun _ => ?_) (fun _ => ?_) <;> cbv)
      | (refine Ar.leq_ hA (fun _ => ?_) (fun _ => ?_) <;> cbv)
      | (refine Ar.gtr_ hA (fun _ => ?_) (fun _ => ?_) <;> cbv)
      | (refine Ar.geq_ hA (fun _ => ?_) (fun _ => ?_) <;> cbv)
      | (refine Ar.eql_ hA (fun _ => ?_) (fun _ => ?_) <;> cbv)
      | (refine Ar.neq_ hA (fun _ => ?_) (fun _ => ?_) <;> cbv)
      | (refine Ar.add_ hA (by omega) (fun _ _ => ?_); cbv)
      | (refine Ar.sub_ hA (by omega) (fun _ _ => ?_); cbv)
      | (refine Ar.neg_ hA (by omega) (fun _ _ => ?_); cbv)
      | (refine Ar.mulB hA 2000 2000 (by omega) (by omega) (by omega) (fun _ _ _ _ => ?_); cbv)
      | (refine Ar.mulB hA 3000000000 3000000000 (by omega) (by omega) (by omega) (fun _ _ _ _ => ?_); cbv)
      | (refine Ar.nz_ hA (by omega) ?_; cbv)
      | (refine Ar.rem_ hA (by omega) (fun _ _ => ?_); cbv)
      | (refine Ar.quo_ hA (by omega) (fun _ _ => ?_); cbv)
      | (refine Ar.mx_ hA (fun _ _ => ?_); cbv)
      | (refine Ar.mn_ hA (fun _ _ => ?_); cbv)
      | (refine Ar.len_ hA (fun _ _ _ => ?_); cbv)
      | (refine Ar.lenN_ hA (fun _ _ => ?_); cbv)
      | (refine Ar.bneq_ hA (fun _ => ?_) (fun _ => ?_) <;> cbv)
      | (refine Ar.beq_ hA (fun _ => ?_) (fun _ => ?_) <;> cbv)
      | (refine Ar.ofN_ hA (fun _ _ _ => ?_); cbv)
)
    exact hno hc
  obtain ⟨c1, c2, hok⟩ := isCloudF_iff.1 hc
  have hy := hyes hc
  have ds := d_spec_l10Hull hes c2 hok
  generalize (hullF l).map P2.pv = R at hy ds
  cbv
  refine Ar.notT_ hA ?_
  cbv
  refine Ar.call_ hA c_spec_l10Hull ds rfl ?_
  cbv
  exact hy

theorem c_impl_HullOf : Callable Try.prog 39 := ⟨_, Try.func39, rfl, by kernel_rfl⟩
theorem d_impl_HullOf {es : List PV} {l : List P2} (hes : es = l.map P2.pv) (hb : l.length ≤ 1048576) : Does Try.prog 39 [.sl es] (.tup [.row ((hullR l).map P2.pv) 2 .free, .pv (bl (isCloudF l))]) [] := by
  refine does_of hT hM Try.func39 rfl (D := []) (by kernel_rfl) rfl rfl rfl (fun A K hA hK => ?_)
  have hlen : es.length = l.length := by simp [hes]
  have hno : isCloudF l = false → K (.tup [.row [] 2 .free, .pv (bl false)]) [] := fun h => hK _ _ (by rw [hullR, h]; rfl) rfl
  have hyes : isCloudF l = true → K (.tup [.row ((hullF l).map P2.pv) 2 .free, .pv (bl true)]) [] := fun h => hK _ _ (by rw [hullR, h]; rfl) rfl
  clear hK
  cbv
  refine Ar.callT hA c_impl_isCloud (d_impl_isCloud hes hb) rfl (fun hc => ?_) (fun hc => ?_)
  rotate_left
  · cbv
    repeat' (first
      | (refine Ar.nn_ hA (by omega) ?_; cbv)
      | (refine Ar.toN_ hA (fun _ _ => ?_); cbv)
      | (refine Ar.notT_ hA ?_; cbv)
      | (refine Ar.notF_ hA ?_; cbv)
      | (refine Ar.lss_ hA (fun _ => ?_) (fun _ => ?_) <;> cbv)
      | (refine Ar.leq_ hA (fun _ => ?_) (fun _ => ?_) <;> cbv)
      | (refine Ar.gtr_ hA (fun _ => ?_) (fun _ => ?_) <;> cbv)
      | (refine Ar.geq_ hA (fun _ => ?_) (fun _ => ?_) <;> cbv)
      | (refine Ar.eql_ hA (fun _ => ?_) (fun _ => ?_) <;> cbv)
      | (refine Ar.neq_ hA (fun _ => ?_) (fun _ => ?_) <;> cbv)
      | (refine Ar.add_ hA (by omega) (fun _ _ => ?_); cbv)
      | (refine Ar.sub_ hA (by omega) (fun _ _ => ?_); cbv)
      | (refine Ar.neg_ hA (by omega) (fun _ _ => ?_); cbv)
      | (refine Ar.mulB hA 2000 2000 (by omega) (by omega) (by omega) (fun _ _ _ _ => ?_); cbv)
      | (refine Ar.mulB hA 3000000000 3000000000 (by omega) (by omega) (by omega) (fun _ _ _ _ => ?_); cbv)
      | (refine Ar.nz_ hA (by omega) ?_; cbv)
      | (refine Ar.rem_ hA (by omega) (fun _ _ => ?_); cbv)
      | (refine Ar.quo_ hA (by omega) (fun _ _ => ?_); cbv)
      | (refine Ar.mx_ hA (fun _ _ => ?_); cbv)
      | (refine Ar.mn_ hA (fun _ _ => ?_); cbv)
      | (refine Ar.len_ hA (fun _ _ _ => ?_); cbv)
      | (refine Ar.lenN_ hA (fun _ _ => ?_); cbv)
      | (refine Ar.bneq_ hA (fun _ => ?_) (fun _ => ?_) <;> cbv)
      | (refine Ar.beq_ hA (fun _ => ?_) (fun _ => ?_) <;> cbv)
      | (refine Ar.ofN_ hA (fun _ _ _ => ?_); cbv)
)
    exact hno hc
  obtain ⟨c1, c2, hok⟩ := isCloudF_iff.1 hc
  have hy := hyes hc
  have ds := d_impl_hull hes c2 c1 hok
  generalize (hullF l).map P2.pv = R at hy ds
  cbv
  refine Ar.notT_ hA ?_
  cbv
  refine Ar.call_ hA c_impl_hull ds rfl ?_
  cbv
  exact hy

theorem c_laws_FnExactHullOf : Callable Try.prog 9 := ⟨_, Try.func9, rfl, by kernel_rfl⟩
theorem d_laws_FnExactHullOf {es : List PV} {l : List P2} (hes : es = l.map P2.pv ∧ l.length ≤ 9223372036854775807) : Does Try.prog 9 [.sl es] (.pv (bl true)) [] := by
  refine does_of hT hM Try.func9 rfl (D := []) (by kernel_rfl) rfl rfl rfl (fun A K hA hK => ?_)
  obtain ⟨hes, hmax⟩ := hes
  have hlen : es.length = l.length := by simp [hes]
  have hcl := hullR_le (l := l)
  obtain ⟨C, hC⟩ : ∃ C, C = hullR l := ⟨_, rfl⟩
  have dS := fun (hb : l.length ≤ 1048576) => d_spec_HullOf hes hb
  have dI := fun (hb : l.length ≤ 1048576) => d_impl_HullOf hes hb
  rw [← hC] at dS dI hcl
  clear hC
  generalize hG : isCloudF l = G at dS dI
  clear hG
  obtain ⟨E, hE⟩ : ∃ E, E = C.map P2.pv := ⟨_, rfl⟩
  rw [← hE] at dS dI
  obtain ⟨M, hM⟩ : ∃ M, M = (up2 l.length 1).map P2.pv := ⟨_, rfl⟩
  obtain ⟨N, hN⟩ : ∃ N, N = (up2 C.length 1).map P2.pv := ⟨_, rfl⟩
  have m1 := fun (hb : l.length ≤ 1048576) => d_laws_markPtS (k := 1) hes hb (by omega)
  have m2 := d_laws_markPtS (k := 1) hE (by omega) (by omega)
  have m3 := d_laws_heldPtS (k := 1) hN (by omega) (by omega)
  have e1 := d_laws_eqPtS hE hE (by omega)
  have e2 := fun (hb : l.length ≤ 1048576) => d_laws_eqPtS hes hes hb
  rw [decide_eq_true rfl] at e1
  rw [← hM] at m1
  rw [← hN] at m2
  obtain ⟨u, hu⟩ : ∃ u, u = on2 l.length 1 := ⟨_, rfl⟩
  obtain ⟨v, hv⟩ : ∃ v, v = on2 C.length 1 := ⟨_, rfl⟩
  have hu0 := on2_pos hu (by omega)
  have hv0 := on2_pos hv (by omega)
  rw [← hu] at m1
  rw [← hv] at m2 m3
  clear hu hv hM hN hE
  cbv
  refine Ar.callI hA c_laws_szPtS (d_laws_szPtS (by omega) (by omega)) rfl (fun r hr => ?_)
  cbv
  refine Ar.lss_ hA (fun h => ?_) (fun h => ?_)
  · cbv
    exact hK _ _ rfl rfl
  have hb : l.length ≤ 1048576 := by have := szF_le hr h; omega
  have dS := dS hb
  have dI := dI hb
  have m1 := m1 hb
  have e2 := e2 hb
  rw [decide_eq_true rfl] at e2
  cbv
  repeat' (first
    | (refine Ar.call_ hA c_laws_toPtS (d_laws_toPtS hes hb) rfl ?_; cbv)
    | (refine Ar.call_ hA c_spec_HullOf dS rfl ?_; cbv)
    | (refine Ar.call_ hA c_impl_HullOf dI rfl ?_; cbv)
    | (refine Ar.call_ hA c_laws_eqPtS e1 rfl ?_; cbv)
    | (refine Ar.call_ hA c_laws_eqPtS e2 rfl ?_; cbv)
    | (refine Ar.call_ hA c_laws_markPtS m1 rfl ?_; cbv)
    | (refine Ar.call_ hA c_laws_markPtS m2 rfl ?_; cbv)
    | (refine Ar.call_ hA c_laws_heldPtS m3 rfl ?_; cbv)
    | (refine Ar.notT_ hA ?_; cbv)
    | (refine Ar.bneq_ hA (fun h => absurd rfl h) (fun _ => ?_); cbv)
    | (refine Ar.neq_ hA (fun h => absurd rfl h) (fun _ => ?_); cbv)
    | (refine Ar.lss_ hA (fun h => absurd h (by omega)) (fun _ => ?_); cbv))
  exact hK _ _ rfl rfl

def goodIs (l m : List P2) : Bool := isCloudF l && m.all P2.ok

theorem c_spec_l10Same : Callable Try.prog 76 := ⟨_, Try.func76, rfl, by kernel_rfl⟩
theorem d_spec_l10Same {es fs : List PV} {l m : List P2} (hes : es = l.map P2.pv) (hfs : fs = m.map P2.pv) (hb : l.length ≤ 1048576) (hbm : m.length ≤ 1048576) : Does Try.prog 76 [.sl es, .sl fs] (.pv (bl (decide (l = m)))) [] := by
  refine does_of hT hM Try.func76 rfl (D := []) (by kernel_rfl) rfl rfl rfl (fun A K hA hK => ?_)
  have hlen : es.length = l.length := by simp [hes]
  have hlen2 : fs.length = m.length := by simp [hfs]
  have hno : l ≠ m → K (.pv (bl false)) [] := fun h => hK _ _ (by rw [decide_eq_false h]) rfl
  have hyes : l = m → K (.pv (bl true)) [] := fun h => hK _ _ (by rw [decide_eq_true h]) rfl
  clear hK
  cbv
  refine Ar.len_ hA (fun n hn hn' => ?_)
  cbv
  refine Ar.len_ hA (fun n2 hn2 hn2' => ?_)
  cbv
  refine Ar.neq_ hA (fun g => ?_) (fun g => ?_)
  · cbv
    exact hno (fun e => g (by subst e; omega))
  subst g
  cbv
  refine Ar.len_ hA (fun n3 hn3 hn3' => ?_)
  obtain rfl : n = n3 := by omega
  cbv
  refine Ar.loop_ hA (α := Int) (fun i => (n - i).toNat) (fun i => 0 ≤ i ∧ i ≤ n ∧ ∀ k, k < i.toNat → l[k]? = m[k]?) 26 (fun i => [(0, .pv (.sl es) []), (1, .pv (.sl fs) []), (12, .pv (i64 n) []), (13, .pv (i64 i) [])]) (fun _ => []) 0 (by refine ⟨?_, ⟨?_, ?_, ?_, ?_, trivial⟩, trivial⟩ <;> cbv) ⟨by omega, by omega, fun k hk => absurd hk (by simp)⟩ ?_
  intro i s f ⟨h1, h2, h3⟩
  cbv
  refine Ar.lss_ hA (fun h => ?_) (fun h => ?_)
  · obtain ⟨⟨px, py⟩, hp⟩ : ∃ p, l[i.toNat]? = some p := ⟨l[i.toNat]'(by omega), List.getElem?_eq_getElem _⟩
    obtain ⟨⟨qx, qy⟩, hq⟩ : ∃ p, m[i.toNat]? = some p := ⟨m[i.toNat]'(by omega), List.getElem?_eq_getElem _⟩
    have ep : es[i.toNat]? = some (pt px py) := by rw [hes, List.getElem?_map, hp]; rfl
    have eq : fs[i.toNat]? = some (pt qx qy) := by rw [hfs, List.getElem?_map, hq]; rfl
    cbv
    repeat' (first
      | apply And.intro
      | (refine Ar.nn_ hA (by omega) ?_; cbv)
      | (refine Ar.toN_ hA (fun j hj => ?_); cbv)
      | (refine Ar.idx_ hA (x := pt px py) (by rw [show j = i.toNat by omega]; exact ep) ?_; cbv)
      | (refine Ar.idx_ hA (x := pt qx qy) (by rw [show j = i.toNat by omega]; exact eq) ?_; cbv))
    all_goals
      refine Ar.nePt_ hA (fun he => ?_) (fun he => ?_)
      · cbv
        exact hno (fun e => he (by subst e; rw [hp] at hq; cases hq; exact ⟨rfl, rfl⟩))
      · cbv
        refine Ar.add_ hA (by omega) (fun i' hi' => ?_)
        cbv
        refine ⟨i', (by show (n - i').toNat < (n - i).toNat; omega), ⟨by omega, by omega, fun k hk => ?_⟩, (by refine ⟨?_, ⟨?_, ?_, ?_, ?_, trivial⟩, trivial⟩ <;> cbv)⟩
        by_cases e : k = i.toNat
        · rw [e, hp, hq, he.1, he.2]
        · exact h3 k (by omega)
  · cbv
    refine hyes (List.ext_getElem? (fun k => ?_))
    by_cases hk : k < l.length
    · exact h3 k (by omega)
    · rw [List.getElem?_eq_none (by omega), List.getElem?_eq_none (by omega)]

theorem c_slices_Equal_impl_Pt_impl_Pt : Callable Try.prog 77 := ⟨_, Try.func77, rfl, by kernel_rfl⟩
theorem d_slices_Equal_impl_Pt_impl_Pt {es fs : List PV} {l m : List P2} (hes : es = l.map P2.pv) (hfs : fs = m.map P2.pv) (hb : l.length ≤ 1048576) (hbm : m.length ≤ 1048576) : Does Try.prog 77 [.sl es, .sl fs] (.pv (bl (decide (l = m)))) [] := by
  refine does_of hT hM Try.func77 rfl (D := []) (by kernel_rfl) rfl rfl rfl (fun A K hA hK => ?_)
  have hlen : es.length = l.length := by simp [hes]
  have hlen2 : fs.length = m.length := by simp [hfs]
  have hno : l ≠ m → K (.pv (bl false)) [] := fun h => hK _ _ (by rw [decide_eq_false h]) rfl
  have hyes : l = m → K (.pv (bl true)) [] := fun h => hK _ _ (by rw [decide_eq_true h]) rfl
  clear hK
  cbv
  refine Ar.len_ hA (fun n hn hn' => ?_)
  cbv
  refine Ar.len_ hA (fun n2 hn2 hn2' => ?_)
  cbv
  refine Ar.neq_ hA (fun g => ?_) (fun g => ?_)
  · cbv
    exact hno (fun e => g (by subst e; omega))
  subst g
  cbv
  refine Ar.len_ hA (fun n3 hn3 hn3' => ?_)
  obtain rfl : n = n3 := by omega
  cbv
  refine Ar.loop_ hA (α := Int) (fun i => (n - i).toNat) (fun i => 0 ≤ i ∧ i ≤ n ∧ ∀ k, k < i.toNat → l[k]? = m[k]?) 26 (fun i => [(0, .pv (.sl es) []), (1, .pv (.sl fs) []), (12, .pv (i64 n) []), (13, .pv (i64 i) [])]) (fun _ => []) 0 (by refine ⟨?_, ⟨?_, ?_, ?_, ?_, trivial⟩, trivial⟩ <;> cbv) ⟨by omega, by omega, fun k hk => absurd hk (by simp)⟩ ?_
  intro i s f ⟨h1, h2, h3⟩
  cbv
  refine Ar.lss_ hA (fun h => ?_) (fun h => ?_)
  · obtain ⟨⟨px, py⟩, hp⟩ : ∃ p, l[i.toNat]? = some p := ⟨l[i.toNat]'(by omega), List.getElem?_eq_getElem _⟩
    obtain ⟨⟨qx, qy⟩, hq⟩ : ∃ p, m[i.toNat]? = some p := ⟨m[i.toNat]'(by omega), List.getElem?_eq_getElem _⟩
    have ep : es[i.toNat]? = some (pt px py) := by rw [hes, List.getElem?_map, hp]; rfl
    have eq : fs[i.toNat]? = some (pt qx qy) := by rw [hfs, List.getElem?_map, hq]; rfl
    cbv
    repeat' (first
      | apply And.intro
      | (refine Ar.nn_ hA (by omega) ?_; cbv)
      | (refine Ar.toN_ hA (fun j hj => ?_); cbv)
      | (refine Ar.idx_ hA (x := pt px py) (by rw [show j = i.toNat by omega]; exact ep) ?_; cbv)
      | (refine Ar.idx_ hA (x := pt qx qy) (by rw [show j = i.toNat by omega]; exact eq) ?_; cbv))
    all_goals
      refine Ar.nePt_ hA (fun he => ?_) (fun he => ?_)
      · cbv
        exact hno (fun e => he (by subst e; rw [hp] at hq; cases hq; exact ⟨rfl, rfl⟩))
      · cbv
        refine Ar.add_ hA (by omega) (fun i' hi' => ?_)
        cbv
        refine ⟨i', (by show (n - i').toNat < (n - i).toNat; omega), ⟨by omega, by omega, fun k hk => ?_⟩, (by refine ⟨?_, ⟨?_, ?_, ?_, ?_, trivial⟩, trivial⟩ <;> cbv)⟩
        by_cases e : k = i.toNat
        · rw [e, hp, hq, he.1, he.2]
        · exact h3 k (by omega)
  · cbv
    refine hyes (List.ext_getElem? (fun k => ?_))
    by_cases hk : k < l.length
    · exact h3 k (by omega)
    · rw [List.getElem?_eq_none (by omega), List.getElem?_eq_none (by omega)]

theorem c_spec_IsHull : Callable Try.prog 40 := ⟨_, Try.func40, rfl, by kernel_rfl⟩
theorem d_spec_IsHull {es fs : List PV} {l m : List P2} (hes : es = l.map P2.pv) (hfs : fs = m.map P2.pv) (hb : l.length ≤ 1048576) (hbm : m.length ≤ 1048576) : Does Try.prog 40 [.sl es, .sl fs] (.tup [.pv (bl (goodIs l m && decide (hullF l = m))), .pv (bl (goodIs l m))]) [] := by
  refine does_of hT hM Try.func40 rfl (D := []) (by kernel_rfl) rfl rfl rfl (fun A K hA hK => ?_)
  have hno : goodIs l m = false → K (.tup [.pv (bl false), .pv (bl false)]) [] := fun h => hK _ _ (by rw [h]; rfl) rfl
  have hyes : goodIs l m = true → K (.tup [.pv (bl (decide (hullF l = m))), .pv (bl true)]) [] := fun h => hK _ _ (by rw [h, Bool.true_and]) rfl
  clear hK
  cbv
  refine Ar.callT hA c_spec_l10Cloud (d_spec_l10Cloud hes hb) rfl (fun hc => ?_) (fun hc => ?_)
  rotate_left
  · cbv
    repeat' (first
      | (refine Ar.nn_ hA (by omega) ?_; cbv)
      | (refine Ar.toN_ hA (fun _ _ => ?_); cbv)
      | (refine Ar.notT_ hA ?_; cbv)
      | (refine Ar.notF_ hA ?_; cbv)
      | (refine Ar.lss_ hA (fun _ => ?_) (fun _ => ?_) <;> cbv)
      | (refine Ar.leq_ hA (fun _ => ?_) (fun _ => ?_) <;> cbv)
      | (refine Ar.gtr_ hA (fun _ => ?_) (fun _ => ?_) <;> cbv)
      | (refine Ar.geq_ hA (fun _ => ?_) (fun _ => ?_) <;> cbv)
      | (refine Ar.eql_ hA (fun _ => ?_) (fun _ => ?_) <;> cbv)
      | (refine Ar.neq_ hA (fun _ => ?_) (fun _ => ?_) <;> cbv)
      | (refine Ar.add_ hA (by omega) (fun _ _ => ?_); cbv)
      | (refine Ar.sub_ hA (by omega) (fun _ _ => ?_); cbv)
      | (refine Ar.neg_ hA (by omega) (fun _ _ => ?_); cbv)
      | (refine Ar.mulB hA 2000 2000 (by omega) (by omega) (by omega) (fun _ _ _ _ => ?_); cbv)
      | (refine Ar.mulB hA 3000000000 3000000000 (by omega) (by omega) (by omega) (fun _ _ _ _ => ?_); cbv)
      | (refine Ar.nz_ hA (by omega) ?_; cbv)
      | (refine Ar.rem_ hA (by omega) (fun _ _ => ?_); cbv)
      | (refine Ar.quo_ hA (by omega) (fun _ _ => ?_); cbv)
      | (refine Ar.mx_ hA (fun _ _ => ?_); cbv)
      | (refine Ar.mn_ hA (fun _ _ => ?_); cbv)
      | (refine Ar.len_ hA (fun _ _ _ => ?_); cbv)
      | (refine Ar.lenN_ hA (fun _ _ => ?_); cbv)
      | (refine Ar.bneq_ hA (fun _ => ?_) (fun _ => ?_) <;> cbv)
      | (refine Ar.beq_ hA (fun _ => ?_) (fun _ => ?_) <;> cbv)
      | (refine Ar.ofN_ hA (fun _ _ _ => ?_); cbv)
)
    exact hno (by unfold goodIs; rw [hc]; rfl)
  cbv
  refine Ar.notT_ hA ?_
  cbv
  refine Ar.callT hA c_spec_l8Pts (d_spec_l8Pts hfs hbm) rfl (fun hd => ?_) (fun hd => ?_)
  rotate_left
  · cbv
    repeat' (first
      | (refine Ar.nn_ hA (by omega) ?_; cbv)
      | (refine Ar.toN_ hA (fun _ _ => ?_); cbv)
      | (refine Ar.notT_ hA ?_; cbv)
      | (refine Ar.notF_ hA ?_; cbv)
      | (refine Ar.lss_ hA (fun _ => ?_) (fun _ => ?_) <;> cbv)
      | (refine Ar.leq_ hA (fun _ => ?_) (fun _ => ?_) <;> cbv)
      | (refine Ar.gtr_ hA (fun _ => ?_) (fun _ => ?_) <;> cbv)
      | (refine Ar.geq_ hA (fun _ => ?_) (fun _ => ?_) <;> cbv)
      | (refine Ar.eql_ hA (fun _ => ?_) (fun _ => ?_) <;> cbv)
      | (refine Ar.neq_ hA (fun _ => ?_) (fun _ => ?_) <;> cbv)
      | (refine Ar.add_ hA (by omega) (fun _ _ => ?_); cbv)
      | (refine Ar.sub_ hA (by omega) (fun _ _ => ?_); cbv)
      | (refine Ar.neg_ hA (by omega) (fun _ _ => ?_); cbv)
      | (refine Ar.mulB hA 2000 2000 (by omega) (by omega) (by omega) (fun _ _ _ _ => ?_); cbv)
      | (refine Ar.mulB hA 3000000000 3000000000 (by omega) (by omega) (by omega) (fun _ _ _ _ => ?_); cbv)
      | (refine Ar.nz_ hA (by omega) ?_; cbv)
      | (refine Ar.rem_ hA (by omega) (fun _ _ => ?_); cbv)
      | (refine Ar.quo_ hA (by omega) (fun _ _ => ?_); cbv)
      | (refine Ar.mx_ hA (fun _ _ => ?_); cbv)
      | (refine Ar.mn_ hA (fun _ _ => ?_); cbv)
      | (refine Ar.len_ hA (fun _ _ _ => ?_); cbv)
      | (refine Ar.lenN_ hA (fun _ _ => ?_); cbv)
      | (refine Ar.bneq_ hA (fun _ => ?_) (fun _ => ?_) <;> cbv)
      | (refine Ar.beq_ hA (fun _ => ?_) (fun _ => ?_) <;> cbv)
      | (refine Ar.ofN_ hA (fun _ _ _ => ?_); cbv)
)
    exact hno (by unfold goodIs; rw [hd, Bool.and_false])
  obtain ⟨c1, c2, hok⟩ := isCloudF_iff.1 hc
  have hy := hyes (by unfold goodIs; rw [hc, hd]; rfl)
  have ds := d_spec_l10Hull hes c2 hok
  have hul := hullF_len c2
  obtain ⟨R, hR⟩ : ∃ R, R = (hullF l).map P2.pv := ⟨_, rfl⟩
  rw [← hR] at ds
  have de := d_spec_l10Same hR hfs (by omega) hbm
  generalize decide (hullF l = m) = B at hy de
  cbv
  refine Ar.notT_ hA ?_
  cbv
  refine Ar.call_ hA c_spec_l10Hull ds rfl ?_
  cbv
  refine Ar.call_ hA c_spec_l10Same de rfl ?_
  cbv
  exact hy

theorem c_impl_IsHull : Callable Try.prog 41 := ⟨_, Try.func41, rfl, by kernel_rfl⟩
theorem d_impl_IsHull {es fs : List PV} {l m : List P2} (hes : es = l.map P2.pv) (hfs : fs = m.map P2.pv) (hb : l.length ≤ 1048576) (hbm : m.length ≤ 1048576) : Does Try.prog 41 [.sl es, .sl fs] (.tup [.pv (bl (goodIs l m && decide (hullF l = m))), .pv (bl (goodIs l m))]) [] := by
  refine does_of hT hM Try.func41 rfl (D := []) (by kernel_rfl) rfl rfl rfl (fun A K hA hK => ?_)
  have hno : goodIs l m = false → K (.tup [.pv (bl false), .pv (bl false)]) [] := fun h => hK _ _ (by rw [h]; rfl) rfl
  have hyes : goodIs l m = true → K (.tup [.pv (bl (decide (hullF l = m))), .pv (bl true)]) [] := fun h => hK _ _ (by rw [h, Bool.true_and]) rfl
  clear hK
  cbv
  refine Ar.callT hA c_impl_isCloud (d_impl_isCloud hes hb) rfl (fun hc => ?_) (fun hc => ?_)
  rotate_left
  · cbv
    repeat' (first
      | (refine Ar.nn_ hA (by omega) ?_; cbv)
      | (refine Ar.toN_ hA (fun _ _ => ?_); cbv)
      | (refine Ar.notT_ hA ?_; cbv)
      | (refine Ar.notF_ hA ?_; cbv)
      | (refine Ar.lss_ hA (fun _ => ?_) (fun _ => ?_) <;> cbv)
      | (refine Ar.leq_ hA (fun _ => ?_) (fun _ => ?_) <;> cbv)
      | (refine Ar.gtr_ hA (fun _ => ?_) (fun _ => ?_) <;> cbv)
      | (refine Ar.geq_ hA (fun _ => ?_) (fun _ => ?_) <;> cbv)
      | (refine Ar.eql_ hA (fun _ => ?_) (fun _ => ?_) <;> cbv)
      | (refine Ar.neq_ hA (fun _ => ?_) (fun _ => ?_) <;> cbv)
      | (refine Ar.add_ hA (by omega) (fun _ _ => ?_); cbv)
      | (refine Ar.sub_ hA (by omega) (fun _ _ => ?_); cbv)
      | (refine Ar.neg_ hA (by omega) (fun _ _ => ?_); cbv)
      | (refine Ar.mulB hA 2000 2000 (by omega) (by omega) (by omega) (fun _ _ _ _ => ?_); cbv)
      | (refine Ar.mulB hA 3000000000 3000000000 (by omega) (by omega) (by omega) (fun _ _ _ _ => ?_); cbv)
      | (refine Ar.nz_ hA (by omega) ?_; cbv)
      | (refine Ar.rem_ hA (by omega) (fun _ _ => ?_); cbv)
      | (refine Ar.quo_ hA (by omega) (fun _ _ => ?_); cbv)
      | (refine Ar.mx_ hA (fun _ _ => ?_); cbv)
      | (refine Ar.mn_ hA (fun _ _ => ?_); cbv)
      | (refine Ar.len_ hA (fun _ _ _ => ?_); cbv)
      | (refine Ar.lenN_ hA (fun _ _ => ?_); cbv)
      | (refine Ar.bneq_ hA (fun _ => ?_) (fun _ => ?_) <;> cbv)
      | (refine Ar.beq_ hA (fun _ => ?_) (fun _ => ?_) <;> cbv)
      | (refine Ar.ofN_ hA (fun _ _ _ => ?_); cbv)
)
    exact hno (by unfold goodIs; rw [hc]; rfl)
  cbv
  refine Ar.notT_ hA ?_
  cbv
  refine Ar.callT hA c_impl_arePts (d_impl_arePts hfs hbm) rfl (fun hd => ?_) (fun hd => ?_)
  rotate_left
  · cbv
    repeat' (first
      | (refine Ar.nn_ hA (by omega) ?_; cbv)
      | (refine Ar.toN_ hA (fun _ _ => ?_); cbv)
      | (refine Ar.notT_ hA ?_; cbv)
      | (refine Ar.notF_ hA ?_; cbv)
      | (refine Ar.lss_ hA (fun _ => ?_) (fun _ => ?_) <;> cbv)
      | (refine Ar.leq_ hA (fun _ => ?_) (fun _ => ?_) <;> cbv)
      | (refine Ar.gtr_ hA (fun _ => ?_) (fun _ => ?_) <;> cbv)
      | (refine Ar.geq_ hA (fun _ => ?_) (fun _ => ?_) <;> cbv)
      | (refine Ar.eql_ hA (fun _ => ?_) (fun _ => ?_) <;> cbv)
      | (refine Ar.neq_ hA (fun _ => ?_) (fun _ => ?_) <;> cbv)
      | (refine Ar.add_ hA (by omega) (fun _ _ => ?_); cbv)
      | (refine Ar.sub_ hA (by omega) (fun _ _ => ?_); cbv)
      | (refine Ar.neg_ hA (by omega) (fun _ _ => ?_); cbv)
      | (refine Ar.mulB hA 2000 2000 (by omega) (by omega) (by omega) (fun _ _ _ _ => ?_); cbv)
      | (refine Ar.mulB hA 3000000000 3000000000 (by omega) (by omega) (by omega) (fun _ _ _ _ => ?_); cbv)
      | (refine Ar.nz_ hA (by omega) ?_; cbv)
      | (refine Ar.rem_ hA (by omega) (fun _ _ => ?_); cbv)
      | (refine Ar.quo_ hA (by omega) (fun _ _ => ?_); cbv)
      | (refine Ar.mx_ hA (fun _ _ => ?_); cbv)
      | (refine Ar.mn_ hA (fun _ _ => ?_); cbv)
      | (refine Ar.len_ hA (fun _ _ _ => ?_); cbv)
      | (refine Ar.lenN_ hA (fun _ _ => ?_); cbv)
      | (refine Ar.bneq_ hA (fun _ => ?_) (fun _ => ?_) <;> cbv)
      | (refine Ar.beq_ hA (fun _ => ?_) (fun _ => ?_) <;> cbv)
      | (refine Ar.ofN_ hA (fun _ _ _ => ?_); cbv)
)
    exact hno (by unfold goodIs; rw [hd, Bool.and_false])
  obtain ⟨c1, c2, hok⟩ := isCloudF_iff.1 hc
  have hy := hyes (by unfold goodIs; rw [hc, hd]; rfl)
  have ds := d_impl_hull hes c2 c1 hok
  have hul := hullF_len c2
  obtain ⟨R, hR⟩ : ∃ R, R = (hullF l).map P2.pv := ⟨_, rfl⟩
  rw [← hR] at ds
  have de := d_slices_Equal_impl_Pt_impl_Pt hR hfs (by omega) hbm
  generalize decide (hullF l = m) = B at hy de
  cbv
  refine Ar.notT_ hA ?_
  cbv
  refine Ar.call_ hA c_impl_hull ds rfl ?_
  cbv
  refine Ar.call_ hA c_slices_Equal_impl_Pt_impl_Pt de rfl ?_
  cbv
  exact hy

theorem c_laws_FnExactIsHull : Callable Try.prog 10 := ⟨_, Try.func10, rfl, by kernel_rfl⟩
theorem d_laws_FnExactIsHull {es fs : List PV} {l m : List P2} (hes : es = l.map P2.pv ∧ l.length ≤ 9223372036854775807) (hfs : fs = m.map P2.pv ∧ m.length ≤ 9223372036854775807) : Does Try.prog 10 [.sl es, .sl fs] (.pv (bl true)) [] := by
  refine does_of hT hM Try.func10 rfl (D := []) (by kernel_rfl) rfl rfl rfl (fun A K hA hK => ?_)
  obtain ⟨hes, hmax⟩ := hes
  obtain ⟨hfs, hmax2⟩ := hfs
  have hlen : es.length = l.length := by simp [hes]
  have hlen2 : fs.length = m.length := by simp [hfs]
  cbv
  refine Ar.callI hA c_laws_szPtS (d_laws_szPtS (by omega) (by omega)) rfl (fun r hr => ?_)
  cbv
  refine Ar.lss_ hA (fun h => ?_) (fun h => ?_)
  · cbv
    exact hK _ _ rfl rfl
  have hb : l.length ≤ 1048576 := by have := szF_le hr h; omega
  have hr2 : r ≤ 1048576 := by unfold szF at hr; split at hr <;> omega
  cbv
  refine Ar.callI hA c_laws_szPtS (d_laws_szPtS (by omega) (by omega)) rfl (fun r3 hr3 => ?_)
  cbv
  refine Ar.lss_ hA (fun h => ?_) (fun h => ?_)
  · cbv
    exact hK _ _ rfl rfl
  have hbm : m.length ≤ 1048576 := by unfold szF at hr3; split at hr3 <;> omega
  have e1 := d_laws_eqPtS hes hes hb
  have e2 := d_laws_eqPtS hfs hfs hbm
  rw [decide_eq_true rfl] at e1 e2
  have dS := d_spec_IsHull hes hfs hb hbm
  have dI := d_impl_IsHull hes hfs hb hbm
  generalize (goodIs l m && decide (hullF l = m)) = B at dS dI
  generalize goodIs l m = G at dS dI
  cbv
  repeat' (first
    | (refine Ar.call_ hA c_laws_toPtS (d_laws_toPtS hes hb) rfl ?_; cbv)
    | (refine Ar.call_ hA c_laws_toPtS (d_laws_toPtS hfs hbm) rfl ?_; cbv)
    | (refine Ar.call_ hA c_spec_IsHull dS rfl ?_; cbv)
    | (refine Ar.call_ hA c_impl_IsHull dI rfl ?_; cbv)
    | (refine Ar.call_ hA c_laws_eqPtS e1 rfl ?_; cbv)
    | (refine Ar.call_ hA c_laws_eqPtS e2 rfl ?_; cbv)
    | (refine Ar.notT_ hA ?_; cbv)
    | (refine Ar.bneq_ hA (fun h => absurd rfl h) (fun _ => ?_); cbv))
  exact hK _ _ rfl rfl

end Go.VAI
