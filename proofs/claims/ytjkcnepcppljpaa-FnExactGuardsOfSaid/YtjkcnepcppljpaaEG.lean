/- Triangulate of both, and the law. -/
import Derived.Test.YtjkcnepcppljpaaEF
import Derived.Test.YtjkcnepcppljpaaN
namespace Go.VAI
open Go.Proofs
set_option maxRecDepth 100000
set_option maxHeartbeats 8000000

def up3 (n : Nat) (k : Int) : List T3 := (List.range n).map fun i : Nat => ⟨k + 3 * (i : Int), k + 3 * (i : Int) + 1, k + 3 * (i : Int) + 2⟩
theorem up3_get {n j : Nat} {k : Int} (h : j < n) : (up3 n k)[j]? = some ⟨k + 3 * (j : Int), k + 3 * (j : Int) + 1, k + 3 * (j : Int) + 2⟩ := by
  unfold up3; rw [List.getElem?_map, List.getElem?_range h]; rfl
theorem up3_len {n : Nat} {k : Int} : (up3 n k).length = n := by simp [up3]
def on3 (n : Nat) (k : Int) : Int := k + 3 * (n : Int)
theorem on3_pos {n : Nat} {k r : Int} (h : r = on3 n k) (hk : 0 ≤ k) : 0 ≤ r := by unfold on3 at h; omega

theorem c_laws_markTriS : Callable Try.prog 19 := ⟨_, Try.func19, rfl, by kernel_rfl⟩
theorem d_laws_markTriS {es : List PV} {l : List T3} {k : Int} (hes : es = l.map T3.pv) (hb : l.length ≤ 1048576) (hk : 0 ≤ k ∧ k ≤ 1099511627776) : Does Try.prog 19 [.sl es, i64 k] (.pv (i64 (on3 l.length k))) [.sl ((up3 l.length k).map T3.pv)] := by
  refine does_of hT hM Try.func19 rfl (D := []) (by kernel_rfl) rfl rfl rfl (fun A K hA hK => ?_)
  have hlen : es.length = l.length := by simp [hes]
  obtain ⟨L, hL⟩ : ∃ L, L = (up3 l.length k).map T3.pv := ⟨_, rfl⟩
  have hLl : L.length = l.length := by rw [hL]; simp [up3_len]
  have hLg : ∀ j, j < l.length → L[j]? = some (tri (on3 j k) (on3 j k + 1) (on3 j k + 2)) := by
    intro j hj
    rw [hL, List.getElem?_map, up3_get hj]; rfl
  rw [← hL] at hK
  cbv
  refine Ar.loop_ hA (α := Int × List PV × Int) (fun x => l.length - x.1.toNat) (fun (i, r, q) => 0 ≤ i ∧ i.toNat ≤ l.length ∧ r = L.take i.toNat ++ es.drop i.toNat ∧ q = k + 3 * i) 34 (fun (i, r, q) => [(0, .own 0 none), (1, .pv (i64 q) []), (5, .pv (i64 i) [])]) (fun (i, r, q) => [(0, some (.row r 3 .free true))]) (0, es, k) ⟨rfl, ⟨rfl, rfl, rfl, trivial⟩, rfl, trivial⟩ ⟨by omega, by simp, by simp, by omega⟩ ?_
  intro ⟨i, r, q⟩ s f ⟨h1, h2, h3, h4⟩
  have hrl : r.length = l.length := by rw [h3]; simp; omega
  cbv
  refine Ar.len_ hA (fun n2 hn2 hn2' => ?_)
  cbv
  refine Ar.lss_ hA (fun h => ?_) (fun h => ?_)
  · cbv
    refine Ar.nn_ hA h1 ?_
    cbv
    refine Ar.toN_ hA (fun j hj => ?_)
    cbv
    obtain ⟨⟨pa, pb, pc⟩, hp⟩ : ∃ p, l[j]? = some p := ⟨l[j]'(by omega), List.getElem?_eq_getElem _⟩
    have hrj : r[j]? = some (tri pa pb pc) := by
      rw [h3, hj, over_get (by omega) (by omega), ← hj, hes]
      simp [hp, T3.pv]
    refine Ar.idx_ hA (x := tri pa pb pc) hrj ?_
    cbv
    refine Ar.idx_ hA (x := tri pa pb pc) hrj ?_
    cbv
    refine Ar.set_ hA (fun r1 hr1 => ?_)
    cbv
    refine Ar.add_ hA (by omega) (fun q1 hq1 => ?_)
    cbv
    refine Ar.nn_ hA h1 ?_
    cbv
    refine Ar.toN_ hA (fun j' hj' => ?_)
    obtain rfl : j = j' := by omega
    have hrj1 : r1[j]? = some (tri q pb pc) := by
      rw [hr1, List.getElem?_set_self (by omega)]
    cbv
    refine Ar.idx_ hA (x := tri q pb pc) hrj1 ?_
    cbv
    refine Ar.idx_ hA (x := tri q pb pc) hrj1 ?_
    cbv
    refine Ar.set_ hA (fun r2 hr2 => ?_)
    have hr1l : r1.length = l.length := by rw [hr1, List.length_set, hrl]
    cbv
    refine Ar.add_ hA (by omega) (fun q2 hq2 => ?_)
    cbv
    refine Ar.nn_ hA h1 ?_
    cbv
    refine Ar.toN_ hA (fun j' hj' => ?_)
    obtain rfl : j = j' := by omega
    have hrj2 : r2[j]? = some (tri q q1 pc) := by
      rw [hr2, List.getElem?_set_self (by omega)]
    cbv
    refine Ar.idx_ hA (x := tri q q1 pc) hrj2 ?_
    cbv
    refine Ar.idx_ hA (x := tri q q1 pc) hrj2 ?_
    cbv
    refine Ar.set_ hA (fun r3 hr3 => ?_)
    cbv
    refine Ar.add_ hA (by omega) (fun q3 hq3 => ?_)
    cbv
    refine Ar.add_ hA (by omega) (fun k' hk' => ?_)
    cbv
    refine ⟨(k', r3, q3), (by show l.length - k'.toNat < l.length - i.toNat; omega), ⟨by omega, by omega, ?_, by omega⟩, rfl, ⟨rfl, rfl, rfl, trivial⟩, rfl, trivial⟩
    have hLj := hLg j (by omega)
    have hq : q = on3 j k := by unfold on3; omega
    rw [hr3, hr2, hr1, h3, List.set_set, List.set_set, show k'.toNat = j + 1 by omega, ← hj, show q2 = on3 j k + 2 by omega, show q1 = on3 j k + 1 by omega, hq]
    exact over_step (by omega) hLj
  · cbv
    refine Ar.same_ hA (by omega) ?_
    cbv
    refine hK _ _ ?_ ?_
    · have : q = on3 l.length k := by unfold on3; omega
      rw [this]
    · rw [h3, List.take_of_length_le (by omega), List.drop_eq_nil_of_le (by omega)]; simp

theorem c_laws_heldTriS : Callable Try.prog 20 := ⟨_, Try.func20, rfl, by kernel_rfl⟩
theorem d_laws_heldTriS {es : List PV} {n : Nat} {k : Int} (hes : es = (up3 n k).map T3.pv) (hb : n ≤ 1048576) (hk : 0 ≤ k ∧ k ≤ 1099511627776) : Does Try.prog 20 [.sl es, i64 k] (.pv (i64 (on3 n k))) [] := by
  refine does_of hT hM Try.func20 rfl (D := []) (by kernel_rfl) rfl rfl rfl (fun A K hA hK => ?_)
  have hlen : es.length = n := by simp [hes, up3_len]
  have hg : ∀ j, j < n → es[j]? = some (tri (on3 j k) (on3 j k + 1) (on3 j k + 2)) := by
    intro j hj
    rw [hes, List.getElem?_map, up3_get hj]; rfl
  cbv
  refine Ar.loop_ hA (α := Int × Int) (fun x => n - x.1.toNat) (fun (i, q) => 0 ≤ i ∧ i.toNat ≤ n ∧ q = k + 3 * i) 40 (fun (i, q) => [(0, .pv (.sl es) []), (1, .pv (i64 q) []), (5, .pv (i64 i) [])]) (fun _ => []) (0, k) ⟨rfl, ⟨rfl, rfl, rfl, trivial⟩, trivial⟩ ⟨by omega, by omega, by omega⟩ ?_
  intro ⟨i, q⟩ s f ⟨h1, h2, h4⟩
  cbv
  refine Ar.len_ hA (fun n2 hn2 hn2' => ?_)
  cbv
  refine Ar.lss_ hA (fun h => ?_) (fun h => ?_)
  · obtain ⟨p, hp⟩ : ∃ p, p = on3 i.toNat k := ⟨_, rfl⟩
    obtain ⟨p', hp'⟩ : ∃ p', p' = on3 i.toNat k + 1 := ⟨_, rfl⟩
    obtain ⟨p2, hp2⟩ : ∃ p', p' = on3 i.toNat k + 2 := ⟨_, rfl⟩
    have hq : q = p := by rw [hp]; unfold on3; omega
    have hgi : es[i.toNat]? = some (tri p p' p2) := by rw [hp2, hp', hp]; exact hg _ (by omega)
    rw [← hp] at hp' hp2
    clear hp
    cbv
    repeat' (first
      | (refine Ar.nn_ hA h1 ?_; cbv)
      | (refine Ar.toN_ hA (fun j hj => ?_); cbv)
      | (refine Ar.idx_ hA (x := tri p p' p2) (by rw [show j = i.toNat by omega]; exact hgi) ?_; cbv)
      | (refine Ar.neq_ hA (fun hne => absurd (by omega) hne) (fun he => ?_); cbv)
      | (refine Ar.add_ hA (by omega) (fun k' hk' => ?_); cbv))
    exact ⟨(_, _), (by show n - Int.toNat _ < n - i.toNat; omega), ⟨by omega, by omega, by omega⟩, rfl, ⟨rfl, rfl, rfl, trivial⟩, trivial⟩
  · cbv
    refine hK _ _ ?_ rfl
    have : q = on3 n k := by unfold on3; omega
    rw [this]

def cutT (l : List P2) : List T3 := if galF l then cutR l else []
theorem cutT_len {l : List P2} : (cutT l).length ≤ 1048576 := by
  unfold cutT
  split
  · rename_i h
    have hway : isWayF l = true := by unfold galF at h; rw [Bool.and_eq_true] at h; exact h.1
    have := (isWayF_iff.1 hway).2.1
    unfold cutR
    rw [cutL_len]; omega
  · simp

theorem c_spec_Triangulate : Callable Try.prog 16 := ⟨_, Try.func16, rfl, by kernel_rfl⟩
theorem d_spec_Triangulate {es : List PV} {l : List P2} (hes : es = l.map P2.pv) (hb : l.length ≤ 1048576) : Does Try.prog 16 [.sl es] (.tup [.row ((cutT l).map T3.pv) 3 .free, .pv (bl (galF l))]) [] := by
  refine does_of hT hM Try.func16 rfl (D := []) (by kernel_rfl) rfl rfl rfl (fun A K hA hK => ?_)
  cbv
  refine Ar.callT hA c_spec_l11Simple (d_spec_l11Simple hes hb) rfl (fun hc => ?_) (fun hc => ?_)
  · have dc := d_spec_l11Cut hes hc
    have hK2 : ∀ r, r = (cutR l).map T3.pv → K (.tup [.row r 3 .free, .pv (bl true)]) [] := fun r h => hK _ _ (by rw [hc, cutT, hc, h]; rfl) rfl
    obtain ⟨R, hR⟩ : ∃ R, R = (cutR l).map T3.pv := ⟨_, rfl⟩
    rw [← hR] at dc hK2
    clear hK
    cbv
    refine Ar.notT_ hA ?_
    cbv
    refine Ar.call_ hA c_spec_l11Cut dc rfl ?_
    cbv
    exact hK2 _ rfl
  · cbv
    refine Ar.notF_ hA ?_
    cbv
    exact hK _ _ (by simp [cutT, hc]) rfl

theorem c_impl_Triangulate : Callable Try.prog 17 := ⟨_, Try.func17, rfl, by kernel_rfl⟩
theorem d_impl_Triangulate {es : List PV} {l : List P2} (hes : es = l.map P2.pv) (hb : l.length ≤ 1048576) : Does Try.prog 17 [.sl es] (.tup [.row ((cutT l).map T3.pv) 3 .free, .pv (bl (galF l))]) [] := by
  refine does_of hT hM Try.func17 rfl (D := []) (by kernel_rfl) rfl rfl rfl (fun A K hA hK => ?_)
  cbv
  refine Ar.callT hA c_impl_isGallery (d_impl_isGallery hes hb) rfl (fun hc => ?_) (fun hc => ?_)
  · have dc := d_impl_triangles hes hc
    have hK2 : ∀ r, r = (cutR l).map T3.pv → K (.tup [.row r 3 .free, .pv (bl true)]) [] := fun r h => hK _ _ (by rw [hc, cutT, hc, h]; rfl) rfl
    obtain ⟨R, hR⟩ : ∃ R, R = (cutR l).map T3.pv := ⟨_, rfl⟩
    rw [← hR] at dc hK2
    clear hK
    cbv
    refine Ar.notT_ hA ?_
    cbv
    refine Ar.call_ hA c_impl_triangles dc rfl ?_
    cbv
    exact hK2 _ rfl
  · cbv
    refine Ar.notF_ hA ?_
    cbv
    exact hK _ _ (by simp [cutT, hc]) rfl

theorem c_laws_FnExactTriangulate : Callable Try.prog 4 := ⟨_, Try.func4, rfl, by kernel_rfl⟩
theorem d_laws_FnExactTriangulate {es : List PV} {l : List P2} (hes : es = l.map P2.pv ∧ l.length ≤ 9223372036854775807) : Does Try.prog 4 [.sl es] (.pv (bl true)) [] := by
  refine does_of hT hM Try.func4 rfl (D := []) (by kernel_rfl) rfl rfl rfl (fun A K hA hK => ?_)
  obtain ⟨hes, hmax⟩ := hes
  have hlen : es.length = l.length := by simp [hes]
  cbv
  refine Ar.callI hA c_laws_szPtS (d_laws_szPtS (by omega) (by omega)) rfl (fun r hr => ?_)
  cbv
  refine Ar.lss_ hA (fun h => ?_) (fun h => ?_)
  · cbv
    exact hK _ _ rfl rfl
  have hb : l.length ≤ 1048576 := by have := szF_le hr h; omega
  have dS := d_spec_Triangulate hes hb
  have dI := d_impl_Triangulate hes hb
  have hcl := cutT_len (l := l)
  generalize cutT l = C at dS dI hcl
  generalize galF l = G at dS dI
  obtain ⟨E, hE⟩ : ∃ E, E = C.map T3.pv := ⟨_, rfl⟩
  rw [← hE] at dS dI
  obtain ⟨M, hM⟩ : ∃ M, M = (up2 l.length 1).map P2.pv := ⟨_, rfl⟩
  obtain ⟨N, hN⟩ : ∃ N, N = (up3 C.length 1).map T3.pv := ⟨_, rfl⟩
  have m1 := d_laws_markPtS (k := 1) hes hb (by omega)
  have m2 := d_laws_markTriS (k := 1) hE (by omega) (by omega)
  have m3 := d_laws_heldTriS (k := 1) hN (by omega) (by omega)
  have e1 := d_laws_eqTriS hE hE (by omega)
  have e2 := d_laws_eqPtS hes hes hb
  rw [decide_eq_true rfl] at e1 e2
  rw [← hM] at m1
  rw [← hN] at m2
  obtain ⟨u, hu⟩ : ∃ u, u = on2 l.length 1 := ⟨_, rfl⟩
  obtain ⟨v, hv⟩ : ∃ v, v = on3 C.length 1 := ⟨_, rfl⟩
  have hu0 := on2_pos hu (by omega)
  have hv0 := on3_pos hv (by omega)
  rw [← hu] at m1
  rw [← hv] at m2 m3
  clear hu hv hM hN hE
  cbv
  repeat' (first
    | (refine Ar.call_ hA c_laws_toPtS (d_laws_toPtS hes hb) rfl ?_; cbv)
    | (refine Ar.call_ hA c_spec_Triangulate dS rfl ?_; cbv)
    | (refine Ar.call_ hA c_impl_Triangulate dI rfl ?_; cbv)
    | (refine Ar.call_ hA c_laws_eqTriS e1 rfl ?_; cbv)
    | (refine Ar.call_ hA c_laws_eqPtS e2 rfl ?_; cbv)
    | (refine Ar.call_ hA c_laws_markPtS m1 rfl ?_; cbv)
    | (refine Ar.call_ hA c_laws_markTriS m2 rfl ?_; cbv)
    | (refine Ar.call_ hA c_laws_heldTriS m3 rfl ?_; cbv)
    | (refine Ar.notT_ hA ?_; cbv)
    | (refine Ar.bneq_ hA (fun h => absurd rfl h) (fun _ => ?_); cbv)
    | (refine Ar.neq_ hA (fun h => absurd rfl h) (fun _ => ?_); cbv)
    | (refine Ar.lss_ hA (fun h => absurd h (by omega)) (fun _ => ?_); cbv))
  exact hK _ _ rfl rfl

end Go.VAI
