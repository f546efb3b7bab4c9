/- The hull. -/
import Derived.Test.YtidbgfknaopkkaaZ3
namespace Go.VAI
open Go.Proofs
set_option maxRecDepth 100000
set_option maxHeartbeats 8000000

def hullS (s : List P2) : List P2 := if s.length < 3 then s else sideF s ++ sideF s.reverse
def hullF (l : List P2) : List P2 := hullS (sortF l)
theorem sideF_len (s : List P2) : (sideF s).length = (chainF s).length - 1 := by unfold sideF; simp
theorem hullS_two {s : List P2} (h : s.length = 2) : sideF s ++ sideF s.reverse = s := by
  match s, h with
  | [a, b], _ => rfl
theorem hullS_len (s : List P2) (h : s.length ≤ 16) : (hullS s).length ≤ 32 := by
  unfold hullS
  have h1 := chainF_len s
  have h2 := chainF_len s.reverse
  have h3 := sideF_len s
  have h4 := sideF_len s.reverse
  split
  · omega
  · rw [List.length_append]
    simp only [List.length_reverse] at h2
    omega
theorem hullF_len {l : List P2} (h : l.length ≤ 16) : (hullF l).length ≤ 32 := hullS_len _ (Nat.le_trans (sortF_len l) h)
theorem sortF_pos {l : List P2} (h : 0 < l.length) : 0 < (sortF l).length := by
  match l, h with
  | a :: l, _ => exact List.length_pos_of_mem (sortF_mem.2 (List.mem_cons_self (a := a) (l := l)))

theorem rev_next {s : List P2} {k : Nat} {p : P2} (h : s[k]? = some p) : (s.drop k).reverse = (s.drop (k + 1)).reverse ++ [p] := by
  have hk := (List.getElem?_eq_some_iff.1 h).1
  have e := (List.getElem?_eq_some_iff.1 h).2
  rw [List.drop_eq_getElem_cons hk, e]; simp

theorem c_spec_l10Hull : Callable Try.prog 73 := ⟨_, Try.func73, rfl, by kernel_rfl⟩
theorem d_spec_l10Hull {es : List PV} {l : List P2} (hes : es = l.map P2.pv) (hb : l.length ≤ 16) (hok : ∀ p ∈ l, p.ok = true) : Does Try.prog 73 [.sl es] (.row ((hullF l).map P2.pv) 2 .free) [] := by
  refine does_of hT hM Try.func73 rfl (D := [(11, [0, 1, 2, 3, 4, 5])]) (by kernel_rfl) rfl rfl rfl (fun A K hA hK => ?_)
  have dS := d_spec_l10Sort hes hb
  obtain ⟨s, hs⟩ : ∃ s, s = sortF l := ⟨_, rfl⟩
  have hsl : s.length ≤ 16 := by rw [hs]; exact Nat.le_trans (sortF_len l) hb
  have hsok : ∀ p ∈ s, p.ok = true := fun p hp => hok p (sortF_mem.1 (by rw [← hs]; exact hp))
  unfold hullF at hK
  rw [← hs] at dS hK
  clear hs
  obtain ⟨r0, hr0⟩ : ∃ r, r = s.map P2.pv := ⟨_, rfl⟩
  rw [← hr0] at dS
  have hr0l : r0.length = s.length := by rw [hr0]; simp
  have dC := d_spec_l10Chain hr0 hsl hsok
  obtain ⟨rt, hrt⟩ : ∃ r, r = s.reverse.map P2.pv := ⟨_, rfl⟩
  have dD := d_spec_l10Chain hrt (by simpa using hsl) (fun p hp => hsok p (by simpa using hp))
  have hc1 := chainF_len s
  have hc2 := chainF_len s.reverse
  rw [List.length_reverse] at hc2
  obtain ⟨c1, hc1'⟩ : ∃ r, r = (chainF s).map P2.pv := ⟨_, rfl⟩
  obtain ⟨c2, hc2'⟩ : ∃ r, r = (chainF s.reverse).map P2.pv := ⟨_, rfl⟩
  have hl1 : c1.length = (chainF s).length := by rw [hc1']; simp
  have hl2 : c2.length = (chainF s.reverse).length := by rw [hc2']; simp
  have hres : ¬ s.length < 3 → ∀ r, r = c1.take (c1.length - 1) ++ c2.take (c2.length - 1) → K (.row r 2 .free) [] := fun h r hr => hK _ _ (by
    unfold hullS
    rw [if_neg h, hr, hl1, hl2, hc1', hc2', List.map_append]
    unfold sideF
    rw [List.dropLast_eq_take, List.dropLast_eq_take, List.map_take, List.map_take]) rfl
  have hsmall : s.length < 3 → K (.row r0 2 .free) [] := fun h => hK _ _ (by unfold hullS; rw [if_pos h, hr0]) rfl
  clear hK
  have hp1 := chainF_pos (l := s)
  have hp2 := chainF_pos (l := s.reverse)
  rw [List.length_reverse] at hp2
  rw [← hc1'] at dC
  rw [← hc2'] at dD
  clear hc1' hc2'
  generalize (chainF s).length = q1 at hl1 hc1 hp1
  generalize (chainF s.reverse).length = q2 at hl2 hc2 hp2
  cbv
  refine Ar.call_ hA c_spec_l10Sort dS rfl ?_
  cbv
  refine Ar.len_ hA (fun n hn hn' => ?_)
  cbv
  refine Ar.lss_ hA (fun g => ?_) (fun g => ?_)
  · cbv
    exact hsmall (by omega)
  cbv
  refine Ar.call_ hA c_spec_l10Chain dC rfl ?_
  cbv
  refine Ar.len_ hA (fun n2 hn2 hn2' => ?_)
  cbv
  refine Ar.sub_ hA (by omega) (fun i0 hi0 => ?_)
  cbv
  refine Ar.loop_ hA (α := Int × List PV) (fun x => (x.1 + 1).toNat) (fun (i, r) => -1 ≤ i ∧ i < n ∧ r = ((s.drop (i + 1).toNat).reverse).map P2.pv) 45 (fun (i, r) => [(3, .own 9 none), (4, .own 15 none), (5, .own 5 none), (6, .pv (i64 i) [])]) (fun (i, r) => [(9, some (.row r0 2 .free false)), (15, some (.row c1 2 .free false)), (5, some (.row r 2 .free false))]) (i0, []) (by refine ⟨?_, ⟨?_, ?_, ?_, ?_, trivial⟩, ?_, ?_, ?_, trivial⟩ <;> cbv) ⟨by omega, by omega, by rw [List.drop_eq_nil_of_le (by omega)]; rfl⟩ ?_
  intro ⟨i, r⟩ s' f ⟨h1, h2, h3⟩
  cbv
  refine Ar.geq_ hA (fun h => ?_) (fun h => ?_)
  · obtain ⟨⟨px, py⟩, hp⟩ : ∃ p, s[i.toNat]? = some p := ⟨s[i.toNat]'(by omega), List.getElem?_eq_getElem _⟩
    have hrp : r0[i.toNat]? = some (pt px py) := by rw [hr0, List.getElem?_map, hp]; rfl
    have hrl : r.length ≤ 16 := by rw [h3]; simp; omega
    have key := rev_next hp
    cbv
    refine Ar.nn_ hA (by omega) ?_
    cbv
    refine Ar.toN_ hA (fun j hj => ?_)
    cbv
    refine Ar.idx_ hA (x := pt px py) (by rw [hj]; exact hrp) ?_
    cbv
    refine Ar.idx_ hA (x := pt px py) (by rw [hj]; exact hrp) ?_
    cbv
    refine Ar.app_ hA (fun r' hr' => ?_)
    cbv
    refine Ar.fitsL_ hA (by rw [hr', List.length_append]; simp only [List.length_singleton]; omega) ?_
    cbv
    refine Ar.sub_ hA (by omega) (fun i' hi' => ?_)
    cbv
    refine ⟨(i', r'), (by show (i' + 1).toNat < (i + 1).toNat; omega), ⟨by omega, by omega, ?_⟩, (by refine ⟨?_, ⟨?_, ?_, ?_, ?_, trivial⟩, ?_, ?_, ?_, trivial⟩ <;> cbv)⟩
    rw [show (i' + 1).toNat = i.toNat by omega, key, List.map_append, show i.toNat + 1 = (i + 1).toNat by omega, ← h3, hr']; rfl
  · rw [show (i + 1).toNat = 0 by omega, List.drop_zero, ← hrt] at h3
    subst h3
    cbv
    refine Ar.call_ hA c_spec_l10Chain dD rfl ?_
    cbv
    repeat' (first
      | apply And.intro
      | (refine Ar.len_ hA (fun z1 hz1 hz1' => ?_); cbv)
      | (refine Ar.sub_ hA (by omega) (fun z2 hz2 => ?_); cbv)
      | (refine Ar.lenN_ hA (fun n5 hn5 => ?_); cbv)
      | (refine Ar.nn_ hA (by omega) ?_; cbv)
      | (refine Ar.toN_ hA (fun j5 hj5 => ?_); cbv)
      | (refine Ar.rng_ hA (by omega) ?_; cbv)
      | (refine Ar.subN_ hA (fun m' hm' => ?_); cbv)
      | (refine Ar.sl_ hA (fun r1 hr1 => ?_); have hr1l : r1.length ≤ 16 := (by rw [hr1]; simp only [List.length_take, List.length_drop]; omega); cbv)
      | (refine Ar.app_ hA (fun r2 hr2 => ?_); have hr2l : r2.length ≤ 16 := (by rw [hr2, List.length_append]; first | omega | (simp only [List.length_nil]; omega)); cbv)
      | (refine Ar.app_ hA (fun r2 hr2 => ?_); have hr2l : r2.length ≤ 32 := (by rw [hr2, List.length_append]; first | omega | (simp only [List.length_nil]; omega)); cbv)
      | (refine Ar.fitsL_ hA (by omega) ?_; cbv))
    all_goals
      refine hres (by omega) _ ?_
      clear hres hsmall dS dC dD
      subst_vars
      simp only [List.nil_append, List.drop_zero, Nat.sub_zero]
      congr 2 <;> omega

end Go.VAI
