/- EarsOf of both, and the law. -/
import Derived.Test.YtjkcnepcppljpaaEB
import Derived.Test.YtjkcnepcppljpaaN
namespace Go.VAI
open Go.Proofs
set_option maxRecDepth 100000
set_option maxHeartbeats 8000000

theorem range_next {i : Nat} {r : List PV} {k : Int} (hr : r = (List.range i).map nI) (hk : 0 ≤ k ∧ k.toNat = i) : r ++ [i64 k] = (List.range (i + 1)).map nI := by
  rw [hr, List.range_succ, List.map_append, ← hk.2]
  show _ = _ ++ [i64 (k.toNat : Int)]
  rw [Int.toNat_of_nonneg hk.1]

theorem c_spec_l11All : Callable Try.prog 26 := ⟨_, Try.func26, rfl, by kernel_rfl⟩
theorem d_spec_l11All {es : List PV} {l : List P2} (hes : es = l.map P2.pv) (hb : l.length ≤ 12) : Does Try.prog 26 [.sl es] (.row ((List.range l.length).map nI) 1 .free) [] := by
  refine does_of hT hM Try.func26 rfl (D := []) (by kernel_rfl) rfl rfl rfl (fun A K hA hK => ?_)
  have hlen : es.length = l.length := by simp [hes]
  cbv
  refine Ar.len_ hA (fun n hn hn' => ?_)
  cbv
  refine Ar.loop_ hA (α := Int × List PV) (fun x => (n - x.1).toNat) (fun (i, r) => 0 ≤ i ∧ i ≤ n ∧ r = (List.range i.toNat).map nI) 16 (fun (i, r) => [(3, .own 3 none), (6, .pv (i64 n) []), (7, .pv (i64 i) [])]) (fun (i, r) => [(3, some (.row r 1 .free false))]) (0, []) (by refine ⟨?_, ⟨?_, ?_, ?_, trivial⟩, ?_, trivial⟩ <;> cbv) ⟨by omega, by omega, rfl⟩ ?_
  intro ⟨i, r⟩ s f ⟨h1, h2, h3⟩
  have hrl : r.length ≤ 12 := by rw [h3]; simp; omega
  cbv
  refine Ar.lss_ hA (fun h => ?_) (fun h => ?_)
  · cbv
    refine Ar.app_ hA (fun r' hr' => ?_)
    cbv
    refine Ar.fitsL_ hA (by rw [hr', List.length_append]; simp only [List.length_singleton]; omega) ?_
    cbv
    refine Ar.add_ hA (by omega) (fun i' hi' => ?_)
    cbv
    refine ⟨(i', r'), (by show (n - i').toNat < (n - i).toNat; omega), ⟨by omega, by omega, ?_⟩, (by refine ⟨?_, ⟨?_, ?_, ?_, trivial⟩, ?_, trivial⟩ <;> cbv)⟩
    rw [hr', show i'.toNat = i.toNat + 1 by omega, range_next h3 ⟨h1, rfl⟩]
  · cbv
    exact hK _ _ (by rw [h3, show i.toNat = l.length by omega]) rfl

theorem c_impl_corners : Callable Try.prog 32 := ⟨_, Try.func32, rfl, by kernel_rfl⟩
theorem d_impl_corners {es : List PV} {l : List P2} (hes : es = l.map P2.pv) (hb : l.length ≤ 12) : Does Try.prog 32 [.sl es] (.row ((List.range l.length).map nI) 1 .free) [] := by
  refine does_of hT hM Try.func32 rfl (D := []) (by kernel_rfl) rfl rfl rfl (fun A K hA hK => ?_)
  have hlen : es.length = l.length := by simp [hes]
  cbv
  refine Ar.len_ hA (fun n hn hn' => ?_)
  cbv
  refine Ar.loop_ hA (α := Int × List PV) (fun x => (n - x.1).toNat) (fun (i, r) => 0 ≤ i ∧ i ≤ n ∧ r = (List.range i.toNat).map nI) 17 (fun (i, r) => [(3, .own 5 none), (7, .pv (i64 n) []), (8, .pv (i64 i) [])]) (fun (i, r) => [(5, some (.row r 1 .free false))]) (0, []) (by refine ⟨?_, ⟨?_, ?_, ?_, trivial⟩, ?_, trivial⟩ <;> cbv) ⟨by omega, by omega, rfl⟩ ?_
  intro ⟨i, r⟩ s f ⟨h1, h2, h3⟩
  have hrl : r.length ≤ 12 := by rw [h3]; simp; omega
  cbv
  refine Ar.lss_ hA (fun h => ?_) (fun h => ?_)
  · cbv
    refine Ar.app_ hA (fun r' hr' => ?_)
    cbv
    refine Ar.fitsL_ hA (by rw [hr', List.length_append]; simp only [List.length_singleton]; omega) ?_
    cbv
    refine Ar.add_ hA (by omega) (fun i' hi' => ?_)
    cbv
    refine ⟨(i', r'), (by show (n - i').toNat < (n - i).toNat; omega), ⟨by omega, by omega, ?_⟩, (by refine ⟨?_, ⟨?_, ?_, ?_, trivial⟩, ?_, trivial⟩ <;> cbv)⟩
    rw [hr', show i'.toNat = i.toNat + 1 by omega, range_next h3 ⟨h1, rfl⟩]
  · cbv
    exact hK _ _ (by rw [h3, show i.toNat = l.length by omega]) rfl

def earsF (l : List P2) (n : Nat) : List Nat := (List.range n).filter (earF l (List.range l.length) (sgn (area2 l)))
def earsR (l : List P2) : List Nat := if galF l then earsF l l.length else []
theorem earsF_yes {l : List P2} {r r' : List PV} {i : Nat} {k : Int} (hr : r = (earsF l i).map nI) (he : earF l (List.range l.length) (sgn (area2 l)) i = true) (hk : 0 ≤ k ∧ k.toNat = i) (h : r' = r ++ [i64 k]) : r' = (earsF l (i + 1)).map nI := by
  unfold earsF at *
  have e : [i].filter (earF l (List.range l.length) (sgn (area2 l))) = [i] := by simp [he]
  rw [h, hr, List.range_succ, List.filter_append, List.map_append, e]
  show _ = _ ++ [i64 (i : Int)]
  rw [← hk.2, Int.toNat_of_nonneg hk.1]
theorem earsF_no {l : List P2} {r : List PV} {i : Nat} (hr : r = (earsF l i).map nI) (he : earF l (List.range l.length) (sgn (area2 l)) i = false) : r = (earsF l (i + 1)).map nI := by
  unfold earsF at *
  rw [hr, List.range_succ, List.filter_append]
  simp [he]
theorem earsF_len (l : List P2) (n : Nat) : (earsF l n).length ≤ n := by
  unfold earsF
  exact Nat.le_trans (List.length_filter_le _ _) (by simp)

theorem c_spec_EarsOf : Callable Try.prog 8 := ⟨_, Try.func8, rfl, by kernel_rfl⟩
theorem d_spec_EarsOf {es : List PV} {l : List P2} (hes : es = l.map P2.pv) (hb : l.length ≤ 1048576) : Does Try.prog 8 [.sl es] (.tup [.row ((earsR l).map nI) 1 .free, .pv (bl (galF l))]) [] := by
  refine does_of hT hM Try.func8 rfl (D := []) (by kernel_rfl) rfl rfl rfl (fun A K hA hK => ?_)
  have hlen : es.length = l.length := by simp [hes]
  cbv
  refine Ar.callT hA c_spec_l11Simple (d_spec_l11Simple hes hb) rfl (fun hc => ?_) (fun hc => ?_)
  rotate_left
  · cbv
    refine Ar.notF_ hA ?_
    cbv
    exact hK _ _ (by simp [earsR, hc]) rfl
  have hway : isWayF l = true := by unfold galF at hc; rw [Bool.and_eq_true] at hc; exact hc.1
  obtain ⟨c1, c2, hok⟩ := isWayF_iff.1 hway
  have da := d_spec_l8Area hes (by omega) c2 hok
  obtain ⟨ar, har⟩ : ∃ a, a = area2 l := ⟨_, rfl⟩
  rw [← har] at da
  obtain ⟨fs, hfs⟩ : ∃ fs, fs = (List.range l.length).map nI := ⟨_, rfl⟩
  have dl := d_spec_l11All hes c2
  rw [← hfs] at dl
  have hfl : fs.length = l.length := by rw [hfs]; simp
  have hyes : ∀ r, r = (earsF l l.length).map nI → K (.tup [.row r 1 .free, .pv (bl true)]) [] := fun r h => hK _ _ (by rw [hc, earsR, hc, h]; rfl) rfl
  clear hK
  cbv
  refine Ar.notT_ hA ?_
  cbv
  refine Ar.call_ hA c_spec_l11All dl rfl ?_
  cbv
  refine Ar.len_ hA (fun n hn hn' => ?_)
  cbv
  refine Ar.loop_ hA (α := Int × List PV) (fun x => (n - x.1).toNat) (fun (i, r) => 0 ≤ i ∧ i ≤ n ∧ r = (earsF l i.toNat).map nI) 30 (fun (i, r) => [(0, .pv (.sl es) []), (4, .own 11 none), (5, .own 5 none), (13, .pv (i64 n) []), (14, .pv (i64 i) [])]) (fun (i, r) => [(11, some (.row fs 1 .free false)), (5, some (.row r 1 .free false))]) (0, []) (by refine ⟨?_, ⟨?_, ?_, ?_, ?_, ?_, trivial⟩, ?_, ?_, trivial⟩ <;> cbv) ⟨by omega, by omega, rfl⟩ ?_
  intro ⟨i, r⟩ s f ⟨h1, h2, h3⟩
  have hrl : r.length ≤ 12 := by rw [h3, List.length_map]; have := earsF_len l i.toNat; omega
  cbv
  refine Ar.lss_ hA (fun h => ?_) (fun h => ?_)
  · have hlt : ∀ i ∈ List.range l.length, i < l.length := fun i hi => List.mem_range.1 hi
    have h0 : 0 < (List.range l.length).length := by rw [List.length_range]; omega
    obtain ⟨a, ax, ay, ha⟩ := at3 hok h0 hlt (i.toNat + (List.range l.length).length - 1)
    obtain ⟨b, bx, b_y, hbb⟩ := at3 hok h0 hlt i.toNat
    obtain ⟨c, cx, cy, hcc⟩ := at3 hok h0 hlt (i.toNat + 1)
    have de := fun turn => d_spec_l11Ear (turn := turn) hes hfs hok h0 (by rw [List.length_range]; omega) hlt ⟨h1, by rw [List.length_range]; omega⟩ ha hbb hcc
    have hy := fun r' he hr' => earsF_yes (r' := r') (k := i) h3 he ⟨h1, rfl⟩ hr'
    have hn2 := earsF_no h3
    rw [← har] at hy hn2
    cbv
    refine Ar.call_ hA c_spec_l8Area da rfl ?_
    cbv
    refine Ar.callI hA c_spec_l8Sign d_spec_l8Sign rfl (fun g hg => ?_)
    rw [← hg] at hy hn2
    cbv
    refine Ar.callT hA c_spec_l11Ear (de g) rfl (fun he => ?_) (fun he => ?_)
    · have hy := fun r' => hy r' he
      cbv
      refine Ar.app_ hA (fun r' hr' => ?_)
      cbv
      refine Ar.fitsL_ hA (by rw [hr', List.length_append]; simp only [List.length_singleton]; omega) ?_
      cbv
      refine Ar.add_ hA (by omega) (fun i' hi' => ?_)
      cbv
      refine ⟨(i', r'), (by show (n - i').toNat < (n - i).toNat; omega), ⟨by omega, by omega, ?_⟩, (by refine ⟨?_, ⟨?_, ?_, ?_, ?_, ?_, trivial⟩, ?_, ?_, trivial⟩ <;> cbv)⟩
      rw [show i'.toNat = i.toNat + 1 by omega]; exact hy r' hr'
    · have hn2 := hn2 he
      cbv
      refine Ar.add_ hA (by omega) (fun i' hi' => ?_)
      cbv
      refine ⟨(i', r), (by show (n - i').toNat < (n - i).toNat; omega), ⟨by omega, by omega, ?_⟩, (by refine ⟨?_, ⟨?_, ?_, ?_, ?_, ?_, trivial⟩, ?_, ?_, trivial⟩ <;> cbv)⟩
      rw [show i'.toNat = i.toNat + 1 by omega]; exact hn2
  · cbv
    exact hyes _ (by rw [h3, show i.toNat = l.length by omega])

theorem c_impl_EarsOf : Callable Try.prog 10 := ⟨_, Try.func10, rfl, by kernel_rfl⟩
theorem d_impl_EarsOf {es : List PV} {l : List P2} (hes : es = l.map P2.pv) (hb : l.length ≤ 1048576) : Does Try.prog 10 [.sl es] (.tup [.row ((earsR l).map nI) 1 .free, .pv (bl (galF l))]) [] := by
  refine does_of hT hM Try.func10 rfl (D := []) (by kernel_rfl) rfl rfl rfl (fun A K hA hK => ?_)
  have hlen : es.length = l.length := by simp [hes]
  cbv
  refine Ar.callT hA c_impl_isGallery (d_impl_isGallery hes hb) rfl (fun hc => ?_) (fun hc => ?_)
  rotate_left
  · cbv
    refine Ar.notF_ hA ?_
    cbv
    exact hK _ _ (by simp [earsR, hc]) rfl
  have hway : isWayF l = true := by unfold galF at hc; rw [Bool.and_eq_true] at hc; exact hc.1
  have hsim : simpleF l = true := by unfold galF at hc; rw [Bool.and_eq_true] at hc; exact hc.2
  obtain ⟨c1, c2, hok⟩ := isWayF_iff.1 hway
  have hst := (good_start c1 hsim).2
  have da := d_impl_areaTwice hes (by omega) c2 hok
  obtain ⟨ar, har⟩ : ∃ a, a = area2 l := ⟨_, rfl⟩
  rw [← har] at da hst
  obtain ⟨fs, hfs⟩ : ∃ fs, fs = (List.range l.length).map nI := ⟨_, rfl⟩
  have dl := d_impl_corners hes c2
  rw [← hfs] at dl
  have hfl : fs.length = l.length := by rw [hfs]; simp
  have hyes : ∀ r, r = (earsF l l.length).map nI → K (.tup [.row r 1 .free, .pv (bl true)]) [] := fun r h => hK _ _ (by rw [hc, earsR, hc, h]; rfl) rfl
  clear hK
  cbv
  refine Ar.notT_ hA ?_
  cbv
  refine Ar.call_ hA c_impl_corners dl rfl ?_
  cbv
  refine Ar.len_ hA (fun n hn hn' => ?_)
  cbv
  refine Ar.loop_ hA (α := Int × List PV) (fun x => (n - x.1).toNat) (fun (i, r) => 0 ≤ i ∧ i ≤ n ∧ r = (earsF l i.toNat).map nI) 31 (fun (i, r) => [(0, .pv (.sl es) []), (4, .own 11 none), (5, .own 12 none), (14, .pv (i64 n) []), (15, .pv (i64 i) [])]) (fun (i, r) => [(11, some (.row fs 1 .free false)), (12, some (.row r 1 .free false))]) (0, []) (by refine ⟨?_, ⟨?_, ?_, ?_, ?_, ?_, trivial⟩, ?_, ?_, trivial⟩ <;> cbv) ⟨by omega, by omega, rfl⟩ ?_
  intro ⟨i, r⟩ s f ⟨h1, h2, h3⟩
  have hrl : r.length ≤ 12 := by rw [h3, List.length_map]; have := earsF_len l i.toNat; omega
  cbv
  refine Ar.lss_ hA (fun h => ?_) (fun h => ?_)
  · have hlt : ∀ i ∈ List.range l.length, i < l.length := fun i hi => List.mem_range.1 hi
    have h0 : 0 < (List.range l.length).length := by rw [List.length_range]; omega
    obtain ⟨a, ax, ay, ha⟩ := at3 hok h0 hlt (i.toNat + (List.range l.length).length - 1)
    obtain ⟨b, bx, b_y, hbb⟩ := at3 hok h0 hlt i.toNat
    obtain ⟨c, cx, cy, hcc⟩ := at3 hok h0 hlt (i.toNat + 1)
    have de := fun turn ht => d_impl_isEar (turn := turn) hes hfs hok h0 (by rw [List.length_range]; omega) hlt ⟨h1, by rw [List.length_range]; omega⟩ ht ha hbb hcc
    have hy := fun r' he hr' => earsF_yes (r' := r') (k := i) h3 he ⟨h1, rfl⟩ hr'
    have hn2 := earsF_no h3
    rw [← har] at hy hn2
    cbv
    refine Ar.call_ hA c_impl_areaTwice da rfl ?_
    cbv
    refine Ar.callI hA c_impl_signOf d_impl_signOf rfl (fun g hg => ?_)
    rw [← hg] at hy hn2
    cbv
    refine Ar.callT hA c_impl_isEar (de g (by rw [hg]; omega)) rfl (fun he => ?_) (fun he => ?_)
    · have hy := fun r' => hy r' he
      cbv
      refine Ar.app_ hA (fun r' hr' => ?_)
      cbv
      refine Ar.fitsL_ hA (by rw [hr', List.length_append]; simp only [List.length_singleton]; omega) ?_
      cbv
      refine Ar.add_ hA (by omega) (fun i' hi' => ?_)
      cbv
      refine ⟨(i', r'), (by show (n - i').toNat < (n - i).toNat; omega), ⟨by omega, by omega, ?_⟩, (by refine ⟨?_, ⟨?_, ?_, ?_, ?_, ?_, trivial⟩, ?_, ?_, trivial⟩ <;> cbv)⟩
      rw [show i'.toNat = i.toNat + 1 by omega]; exact hy r' hr'
    · have hn2 := hn2 he
      cbv
      refine Ar.add_ hA (by omega) (fun i' hi' => ?_)
      cbv
      refine ⟨(i', r), (by show (n - i').toNat < (n - i).toNat; omega), ⟨by omega, by omega, ?_⟩, (by refine ⟨?_, ⟨?_, ?_, ?_, ?_, ?_, trivial⟩, ?_, ?_, trivial⟩ <;> cbv)⟩
      rw [show i'.toNat = i.toNat + 1 by omega]; exact hn2
  · cbv
    exact hyes _ (by rw [h3, show i.toNat = l.length by omega])

theorem nI_int (left : List Nat) : left.map nI = (left.map fun k : Nat => (k : Int)).map i64 := by rw [List.map_map]; rfl
theorem onFrom_pos {n : Nat} {k r : Int} (h : r = onFrom n k) (hk : 0 ≤ k) : 0 ≤ r := by unfold onFrom at h; omega

theorem c_laws_FnExactEarsOf : Callable Try.prog 3 := ⟨_, Try.func3, rfl, by kernel_rfl⟩
theorem d_laws_FnExactEarsOf {es : List PV} {l : List P2} (hes : es = l.map P2.pv ∧ l.length ≤ 9223372036854775807) : Does Try.prog 3 [.sl es] (.pv (bl true)) [] := by
  refine does_of hT hM Try.func3 rfl (D := []) (by kernel_rfl) rfl rfl rfl (fun A K hA hK => ?_)
  obtain ⟨hes, hmax⟩ := hes
  have hlen : es.length = l.length := by simp [hes]
  cbv
  refine Ar.callI hA c_laws_szPtS (d_laws_szPtS (by omega) (by omega)) rfl (fun r hr => ?_)
  cbv
  refine Ar.lss_ hA (fun h => ?_) (fun h => ?_)
  · cbv
    exact hK _ _ rfl rfl
  have hb : l.length ≤ 1048576 := by have := szF_le hr h; omega
  have dS := d_spec_EarsOf hes hb
  have dI := d_impl_EarsOf hes hb
  have hcl : (earsR l).length ≤ 1048576 := by
    unfold earsR
    split
    · have := earsF_len l l.length; omega
    · simp
  obtain ⟨C, hC⟩ : ∃ C, C = (earsR l).map fun k : Nat => (k : Int) := ⟨_, rfl⟩
  have hCl : C.length ≤ 1048576 := by rw [hC, List.length_map]; exact hcl
  rw [nI_int, ← hC] at dS dI
  clear hC
  generalize galF l = G at dS dI
  obtain ⟨E, hE⟩ : ∃ E, E = C.map i64 := ⟨_, rfl⟩
  rw [← hE] at dS dI
  obtain ⟨M, hM⟩ : ∃ M, M = (up2 l.length 1).map P2.pv := ⟨_, rfl⟩
  obtain ⟨N, hN⟩ : ∃ N, N = (countUp C.length 1).map i64 := ⟨_, rfl⟩
  have m1 := d_laws_markPtS (k := 1) hes hb (by omega)
  have m2 := d_laws_markIntS (k := 1) hE (by omega) (by omega)
  have m3 := d_laws_heldIntS (k := 1) hN (by omega) (by omega)
  have e1 := d_laws_eqIntS hE hE (by omega)
  have e2 := d_laws_eqPtS hes hes hb
  rw [decide_eq_true rfl] at e1 e2
  rw [← hM] at m1
  rw [← hN] at m2
  obtain ⟨u, hu⟩ : ∃ u, u = on2 l.length 1 := ⟨_, rfl⟩
  obtain ⟨v, hv⟩ : ∃ v, v = onFrom C.length 1 := ⟨_, rfl⟩
  have hu0 := on2_pos hu (by omega)
  have hv0 := onFrom_pos hv (by omega)
  rw [← hu] at m1
  rw [← hv] at m2 m3
  clear hu hv hM hN hE
  cbv
  repeat' (first
    | (refine Ar.call_ hA c_laws_toPtS (d_laws_toPtS hes hb) rfl ?_; cbv)
    | (refine Ar.call_ hA c_spec_EarsOf dS rfl ?_; cbv)
    | (refine Ar.call_ hA c_impl_EarsOf dI rfl ?_; cbv)
    | (refine Ar.call_ hA c_laws_eqIntS e1 rfl ?_; cbv)
    | (refine Ar.call_ hA c_laws_eqPtS e2 rfl ?_; cbv)
    | (refine Ar.call_ hA c_laws_markPtS m1 rfl ?_; cbv)
    | (refine Ar.call_ hA c_laws_markIntS m2 rfl ?_; cbv)
    | (refine Ar.call_ hA c_laws_heldIntS m3 rfl ?_; cbv)
    | (refine Ar.notT_ hA ?_; cbv)
    | (refine Ar.bneq_ hA (fun h => absurd rfl h) (fun _ => ?_); cbv)
    | (refine Ar.neq_ hA (fun h => absurd rfl h) (fun _ => ?_); cbv)
    | (refine Ar.lss_ hA (fun h => absurd h (by omega)) (fun _ => ?_); cbv))
  exact hK _ _ rfl rfl

end Go.VAI
