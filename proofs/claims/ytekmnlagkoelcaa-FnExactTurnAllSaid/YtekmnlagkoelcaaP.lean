/- TurnAll. -/
import Derived.Test.YtekmnlagkoelcaaN
namespace Go.VAI
open Go.Proofs
set_option maxRecDepth 100000
set_option maxHeartbeats 8000000

def turnF (l : List P2) : List P2 := l.take 1 ++ (l.drop 1).reverse
def turnR (l : List P2) : List P2 := if isWayF l then turnF l else []
theorem turnR_le {l : List P2} : (turnR l).length ≤ 12 := by
  unfold turnR
  split
  · rename_i h
    have := isWayF_iff.1 h
    simp [turnF]; omega
  · simp

theorem turn_next {l : List P2} {j : Nat} {p : P2} (h : l[j]? = some p) : (l.drop j).reverse = (l.drop (j + 1)).reverse ++ [p] := by
  obtain ⟨hj, hp⟩ := List.getElem?_eq_some_iff.1 h
  rw [List.drop_eq_getElem_cons hj, List.reverse_cons, hp]

theorem c_spec_TurnAll : Callable Try.prog 30 := ⟨_, Try.func30, rfl, by kernel_rfl⟩
theorem d_spec_TurnAll {es : List PV} {l : List P2} (hes : es = l.map P2.pv) (hb : l.length ≤ 1048576) : Does Try.prog 30 [.sl es] (.tup [.row ((turnR l).map P2.pv) 2 .free, .pv (bl (isWayF l))]) [] := by
  refine does_of hT hM Try.func30 rfl (D := []) (by kernel_rfl) rfl rfl rfl (fun A K hA hK => ?_)
  have hlen : es.length = l.length := by simp [hes]
  cbv
  refine Ar.callT hA c_spec_l8Way (d_spec_l8Way hes hb) rfl (fun hc => ?_) (fun hc => ?_)
  rotate_left
  · cbv
    repeat' (first
      | (refine Ar.nn_ hA (by omega) ?_; cbv)
      | (refine Ar.toN_ hA (fun _ _ => ?_); cbv)
      | (refine Ar.notT_ hA ?_; cbv)
      | (refine Ar.notF_ hA ?_; cbv)
      | (refine Ar.lss_ hA (fun _ => ?_) (fun _ => ?_) <;> cbv)
      | (refine Ar.leq_ hA (fun _ => ?_) (fun _ => ?_) <;> cbv)
      | (refine Ar.gtr_ hA (fun _ => ?_) (fun _ => ?_) <;> cbv)
      | (refine Ar.geq_ hA (fun _ => ?_) (fun _ => ?_) <;> cbv)
      | (refine Ar.eql_ hA (fun _ => ?_) (fun _ => ?_) <;> cbv)
      | (refine Ar.neq_ hA (fun _ => ?_) (fun _ => ?_) <;> cbv)
      | (refine Ar.add_ hA (by omega) (fun _ _ => ?_); cbv)
      | (refine Ar.sub_ hA (by omega) (fun _ _ => ?_); cbv)
      | (refine Ar.neg_ hA (by omega) (fun _ _ => ?_); cbv)
      | (refine Ar.mulB hA 2000 2000 (by omega) (by omega) (by omega) (fun _ _ _ _ => ?_); cbv)
      | (refine Ar.mulB hA 3000000000 3000000000 (by omega) (by omega) (by omega) (fun _ _ _ _ => ?_); cbv)
      | (refine Ar.nz_ hA (by omega) ?_; cbv)
      | (refine Ar.rem_ hA (by omega) (fun _ _ => ?_); cbv)
      | (refine Ar.quo_ hA (by omega) (fun _ _ => ?_); cbv)
      | (refine Ar.mx_ hA (fun _ _ => ?_); cbv)
      | (refine Ar.mn_ hA (fun _ _ => ?_); cbv)
      | (refine Ar.len_ hA (fun _ _ _ => ?_); cbv)
      | (refine Ar.lenN_ hA (fun _ _ => ?_); cbv)
      | (refine Ar.bneq_ hA (fun _ => ?_) (fun _ => ?_) <;> cbv)
      | (refine Ar.beq_ hA (fun _ => ?_) (fun _ => ?_) <;> cbv)
      | (refine Ar.ofN_ hA (fun _ _ _ => ?_); cbv)
)
    exact hK _ _ (by simp [turnR, hc]) rfl
  obtain ⟨c1, c2, hok⟩ := isWayF_iff.1 hc
  cbv
  refine Ar.notT_ hA ?_
  cbv
  refine Ar.nn_ hA (by omega) ?_
  cbv
  refine Ar.toN_ hA (fun j0 hj0 => ?_)
  cbv
  obtain ⟨⟨gx, gy⟩, hg⟩ : ∃ p, l[0]? = some p := ⟨l[0]'(by omega), List.getElem?_eq_getElem _⟩
  have ht1 : l.take 1 = [⟨gx, gy⟩] := by rw [show (1 : Nat) = 0 + 1 from rfl, List.take_add_one, hg]; rfl
  refine Ar.idx_ hA (x := pt gx gy) (by rw [hj0, hes]; simp [hg, P2.pv]) ?_
  cbv
  refine Ar.len_ hA (fun n hn hn' => ?_)
  cbv
  refine Ar.sub_ hA (by omega) (fun i0 hi0 => ?_)
  cbv
  refine Ar.loop_ hA (α := Int × List PV) (fun x => x.1.toNat) (fun (i, r) => 0 ≤ i ∧ i < n ∧ r = (l.take 1 ++ (l.drop (i.toNat + 1)).reverse).map P2.pv) 28 (fun (i, r) => [(0, .pv (.sl es) []), (4, .own 12 none), (5, .pv (i64 i) [])]) (fun (i, r) => [(12, some (.row r 2 .free false))]) (i0, [pt gx gy]) ⟨rfl, ⟨rfl, rfl, rfl, trivial⟩, rfl, trivial⟩ ⟨by omega, by omega, by rw [List.drop_eq_nil_of_le (by omega), ht1]; rfl⟩ ?_
  intro ⟨i, r⟩ s f ⟨h1, h2, h3⟩
  cbv
  refine Ar.gtr_ hA (fun h => ?_) (fun h => ?_)
  · cbv
    refine Ar.nn_ hA (by omega) ?_
    cbv
    refine Ar.toN_ hA (fun j hj => ?_)
    cbv
    obtain ⟨⟨px, py⟩, hp⟩ : ∃ p, l[j]? = some p := ⟨l[j]'(by omega), List.getElem?_eq_getElem _⟩
    refine Ar.idx_ hA (x := pt px py) (by simp [hes, hp, P2.pv]) ?_
    cbv
    have hrl : r.length ≤ 13 := by rw [h3]; simp; omega
    have key := turn_next hp
    refine Ar.app_ hA (fun r' hr' => ?_)
    cbv
    refine Ar.fitsL_ hA (by rw [hr', List.length_append]; simp only [List.length_singleton]; omega) ?_
    cbv
    refine Ar.sub_ hA (by omega) (fun i' hi' => ?_)
    cbv
    refine ⟨(i', r'), (by show i'.toNat < i.toNat; omega), ⟨by omega, by omega, ?_⟩, rfl, ⟨rfl, rfl, rfl, trivial⟩, rfl, trivial⟩
    rw [show i'.toNat + 1 = j by omega, key, hr', h3, hj, List.map_append, List.map_append, List.map_append, List.append_assoc]; rfl
  · cbv
    have : r = (turnF l).map P2.pv := by rw [h3, show i.toNat + 1 = 1 by omega]; rfl
    exact hK _ _ (by rw [turnR, hc, this]; rfl) rfl

theorem c_slices_Clone_impl_Pt_impl_Pt : Callable Try.prog 58 := ⟨_, Try.func58, rfl, by kernel_rfl⟩
theorem d_slices_Clone_impl_Pt_impl_Pt {es : List PV} {l : List P2} (hes : es = l.map P2.pv) (hb : l.length ≤ 1048576) : Does Try.prog 58 [.sl es] (.row es 2 .free) [] := by
  refine does_of hT hM Try.func58 rfl (D := []) (by kernel_rfl) rfl rfl rfl (fun A K hA hK => ?_)
  have hlen : es.length = l.length := by simp [hes]
  cbv
  have hw : ∀ x ∈ es, (leaves x).length = 2 ∧ (true = true → isFree x = true) := by
    rw [hes]; intro x hx; obtain ⟨y, _, rfl⟩ := List.mem_map.1 hx; exact ⟨rfl, fun _ => rfl⟩
  refine Ar.isNil_ hA (fun h => ?_) (fun h => ?_) (fun h => ?_)
  rotate_left
  · cbv
    exact hK _ _ (by rw [h]) rfl
  all_goals
    cbv
    refine Ar.wid_ hA hw ?_
    cbv
    refine Ar.app_ hA (fun r' hr' => ?_)
    cbv
    refine Ar.fitsL_ hA (by rw [hr', List.length_append]; simp only [List.length_nil]; omega) ?_
    cbv
    exact hK _ _ (by rw [hr']; rfl) rfl

theorem rev_step {l m : List P2} {i q n : Nat} (hm : m.length = n) (hiq : i < q) (hq : i + q + 1 = n) (h : ∀ k, k < n → m[k]? = if k < i ∨ n < k + 1 + i then l[n - 1 - k]? else l[k]?) {A B : P2} (ha : m[i]? = some A) (hb : m[q]? = some B) :
    ∀ k, k < n → ((m.set i B).set q A)[k]? = if k < i + 1 ∨ n < k + 1 + (i + 1) then l[n - 1 - k]? else l[k]? := by
  intro k hk
  have e1 := h i (by omega)
  have e2 := h q (by omega)
  rw [if_neg (by omega), ha] at e1
  rw [if_neg (by omega), hb] at e2
  by_cases k1 : k = q
  · subst k1
    rw [List.getElem?_set_self (by simp; omega), if_pos (by omega), e1]
    congr 1; omega
  · rw [List.getElem?_set_ne (by omega)]
    by_cases k2 : k = i
    · subst k2
      rw [List.getElem?_set_self (by omega), if_pos (by omega), e2]
      congr 1; omega
    · rw [List.getElem?_set_ne (by omega), h k hk]
      by_cases k3 : k < i ∨ n < k + 1 + i
      · rw [if_pos k3, if_pos (by omega)]
      · rw [if_neg k3, if_neg (by omega)]

theorem c_slices_Reverse_impl_Pt_impl_Pt : Callable Try.prog 59 := ⟨_, Try.func59, rfl, by kernel_rfl⟩
theorem d_slices_Reverse_impl_Pt_impl_Pt {es : List PV} {l : List P2} (hes : es = l.map P2.pv) (hb : l.length ≤ 1048576) : Does Try.prog 59 [.sl es] (.tup []) [.sl es.reverse] := by
  refine does_of hT hM Try.func59 rfl (D := [(3, [0, 1, 4, 5, 6, 7, 8, 9, 10, 11, 12])]) (by kernel_rfl) rfl rfl rfl (fun A K hA hK => ?_)
  have hlen : es.length = l.length := by simp [hes]
  cbv
  refine Ar.len_ hA (fun n hn hn' => ?_)
  cbv
  refine Ar.sub_ hA (by omega) (fun q0 hq0 => ?_)
  cbv
  refine Ar.loop_ hA (α := Int × Int × List PV × List P2) (fun x => (x.2.1 + 1 - x.1).toNat) (fun (i, q, r, m) => 0 ≤ i ∧ i ≤ n ∧ q = n - 1 - i ∧ r = m.map P2.pv ∧ m.length = l.length ∧ ∀ k, k < l.length → m[k]? = if k < i.toNat ∨ l.length < k + 1 + i.toNat then l[l.length - 1 - k]? else l[k]?) 28 (fun (i, q, r, m) => [(0, .own 0 none), (2, .pv (i64 i) []), (3, .pv (i64 q) [])]) (fun (i, q, r, m) => [(0, some (.row r 2 .free true))]) (0, q0, es, l) ⟨rfl, ⟨rfl, rfl, rfl, trivial⟩, rfl, trivial⟩ ⟨by omega, by omega, by omega, hes, rfl, fun k hk => by rw [if_neg (by omega)]⟩ ?_
  intro ⟨i, q, r, m⟩ s f ⟨h1, h2, h3, h4, h5, h6⟩
  have hrl : r.length = l.length := by rw [h4]; simp [h5]
  cbv
  refine Ar.lss_ hA (fun h => ?_) (fun h => ?_)
  · cbv
    obtain ⟨⟨ax, ay⟩, ha⟩ : ∃ p, m[i.toNat]? = some p := ⟨m[i.toNat]'(by omega), List.getElem?_eq_getElem _⟩
    obtain ⟨⟨bx, b_y⟩, hb'⟩ : ∃ p, m[q.toNat]? = some p := ⟨m[q.toNat]'(by omega), List.getElem?_eq_getElem _⟩
    have ra : r[i.toNat]? = some (pt ax ay) := by rw [h4]; simp [ha, P2.pv]
    have rb : r[q.toNat]? = some (pt bx b_y) := by rw [h4]; simp [hb', P2.pv]
    have key := rev_step (l := l) h5 (i := i.toNat) (q := q.toNat) (by omega) (by omega) h6 ha hb'
    refine Ar.nn_ hA (by omega) ?_
    cbv
    refine Ar.toN_ hA (fun jq hjq => ?_)
    cbv
    refine Ar.idx_ hA (x := pt bx b_y) (by rw [hjq]; exact rb) ?_
    cbv
    refine Ar.idx_ hA (x := pt bx b_y) (by rw [hjq]; exact rb) ?_
    cbv
    refine Ar.nn_ hA (by omega) ?_
    cbv
    refine Ar.toN_ hA (fun ji hji => ?_)
    cbv
    refine Ar.idx_ hA (x := pt ax ay) (by rw [hji]; exact ra) ?_
    cbv
    refine Ar.idx_ hA (x := pt ax ay) (by rw [hji]; exact ra) ?_
    cbv
    refine Ar.nn_ hA (by omega) ?_
    cbv
    refine Ar.toN_ hA (fun jt hjt => ?_)
    cbv
    refine Ar.idx_ hA (x := pt ax ay) (by rw [hjt]; exact ra) ?_
    cbv
    repeat' (first
      | apply And.intro
      | (refine Ar.nn_ hA (by omega) ?_; cbv)
      | (refine Ar.toN_ hA (fun ju hju => ?_); cbv)
      | (refine Ar.idx_ hA (x := pt ax ay) (by rw [hjt]; exact ra) ?_; cbv)
      | (refine Ar.idx_ hA (x := pt bx b_y) (by rw [hju]; exact rb) ?_; cbv)
      | (refine Ar.idx_ hA (x := pt bx b_y) (by rw [hr1, hju, List.getElem?_set_ne (by omega)]; exact rb) ?_; cbv)
      | (refine Ar.set_ hA (fun r1 hr1 => ?_); cbv)
      | (refine Ar.add_ hA (by omega) (fun i' hi' => ?_); cbv)
      | (refine Ar.sub_ hA (by omega) (fun q' hq' => ?_); cbv))
    all_goals
      refine ⟨(i', q', r1, (m.set i.toNat ⟨bx, b_y⟩).set q.toNat ⟨ax, ay⟩), (by show (q' + 1 - i').toNat < (q + 1 - i).toNat; omega), ⟨by omega, by omega, by omega, ?_, (by simp [h5]), ?_⟩, rfl, ⟨rfl, rfl, rfl, trivial⟩, rfl, trivial⟩
      · subst_vars
        rw [List.map_set, List.map_set]; rfl
      · rw [show i'.toNat = i.toNat + 1 by omega]
        exact key
  · cbv
    refine Ar.same_ hA (by omega) ?_
    cbv
    refine hK _ _ rfl ?_
    have : m = l.reverse := by
      apply List.ext_getElem?
      intro k
      by_cases hk : k < l.length
      · rw [h6 k hk, List.getElem?_reverse hk]
        split
        · rfl
        · congr 1; omega
      · rw [List.getElem?_eq_none (by omega), List.getElem?_eq_none (by simp; omega)]
    rw [h4, this, hes, List.map_reverse]

theorem c_impl_TurnAll : Callable Try.prog 31 := ⟨_, Try.func31, rfl, by kernel_rfl⟩
theorem d_impl_TurnAll {es : List PV} {l : List P2} (hes : es = l.map P2.pv) (hb : l.length ≤ 1048576) : Does Try.prog 31 [.sl es] (.tup [.row ((turnR l).map P2.pv) 2 .free, .pv (bl (isWayF l))]) [] := by
  refine does_of hT hM Try.func31 rfl (D := []) (by kernel_rfl) rfl rfl rfl (fun A K hA hK => ?_)
  have hlen : es.length = l.length := by simp [hes]
  cbv
  refine Ar.callT hA c_impl_isWay (d_impl_isWay hes hb) rfl (fun hc => ?_) (fun hc => ?_)
  rotate_left
  · cbv
    repeat' (first
      | (refine Ar.nn_ hA (by omega) ?_; cbv)
      | (refine Ar.toN_ hA (fun _ _ => ?_); cbv)
      | (refine Ar.notT_ hA ?_; cbv)
      | (refine Ar.notF_ hA ?_; cbv)
      | (refine Ar.lss_ hA (fun _ => ?_) (fun _ => ?_) <;> cbv)
      | (refine Ar.leq_ hA (fun _ => ?_) (fun _ => ?_) <;> cbv)
      | (refine Ar.gtr_ hA (fun _ => ?_) (fun _ => ?_) <;> cbv)
      | (refine Ar.geq_ hA (fun _ => ?_) (fun _ => ?_) <;> cbv)
      | (refine Ar.eql_ hA (fun _ => ?_) (fun _ => ?_) <;> cbv)
      | (refine Ar.neq_ hA (fun _ => ?_) (fun _ => ?_) <;> cbv)
      | (refine Ar.add_ hA (by omega) (fun _ _ => ?_); cbv)
      | (refine Ar.sub_ hA (by omega) (fun _ _ => ?_); cbv)
      | (refine Ar.neg_ hA (by omega) (fun _ _ => ?_); cbv)
      | (refine Ar.mulB hA 2000 2000 (by omega) (by omega) (by omega) (fun _ _ _ _ => ?_); cbv)
      | (refine Ar.mulB hA 3000000000 3000000000 (by omega) (by omega) (by omega) (fun _ _ _ _ => ?_); cbv)
      | (refine Ar.nz_ hA (by omega) ?_; cbv)
      | (refine Ar.rem_ hA (by omega) (fun _ _ => ?_); cbv)
      | (refine Ar.quo_ hA (by omega) (fun _ _ => ?_); cbv)
      | (refine Ar.mx_ hA (fun _ _ => ?_); cbv)
      | (refine Ar.mn_ hA (fun _ _ => ?_); cbv)
      | (refine Ar.len_ hA (fun _ _ _ => ?_); cbv)
      | (refine Ar.lenN_ hA (fun _ _ => ?_); cbv)
      | (refine Ar.bneq_ hA (fun _ => ?_) (fun _ => ?_) <;> cbv)
      | (refine Ar.beq_ hA (fun _ => ?_) (fun _ => ?_) <;> cbv)
      | (refine Ar.ofN_ hA (fun _ _ _ => ?_); cbv)
)
    exact hK _ _ (by simp [turnR, hc]) rfl
  obtain ⟨c1, c2, hok⟩ := isWayF_iff.1 hc
  cbv
  refine Ar.notT_ hA ?_
  cbv
  refine Ar.call_ hA c_slices_Clone_impl_Pt_impl_Pt (d_slices_Clone_impl_Pt_impl_Pt hes hb) rfl ?_
  cbv
  repeat' (first
      | (refine Ar.lenN_ hA (fun n hn => ?_); cbv)
      | (refine Ar.nn_ hA (by omega) ?_; cbv)
      | (refine Ar.toN_ hA (fun ju hju => ?_); cbv)
      | (refine Ar.rng_ hA (by omega) ?_; cbv)
      | (refine Ar.subN_ hA (fun jv hjv => ?_); cbv))
  have hju1 : ju = 1 := by rw [hju]; rfl
  clear hju
  subst hju1
  obtain ⟨E1, hE1⟩ : ∃ E, E = (l.drop 1).map P2.pv := ⟨_, rfl⟩
  have hd1 : (es.drop 1).take jv = E1 := by rw [hE1, hes, ← List.map_drop, List.take_of_length_le (by simp; omega)]
  have dr := d_slices_Reverse_impl_Pt_impl_Pt hE1 (by simp; omega)
  obtain ⟨E2, hE2⟩ : ∃ E, E = E1.reverse := ⟨_, rfl⟩
  rw [← hE2] at dr
  refine Ar.call_ hA c_slices_Reverse_impl_Pt_impl_Pt dr (by subst hA; show [PV.sl ((es.drop 1).take jv)] = _; rw [hd1]) ?_
  cbv
  refine Ar.spl_ hA (fun r hr => ?_)
  have hr2 : r = (turnF l).map P2.pv := by
    have e2 : E2 = ((l.drop 1).reverse).map P2.pv := by rw [hE2, hE1, List.map_reverse]
    have hlen2 : E2.length = es.length - 1 := by rw [e2]; simp; omega
    rw [hr, hlen2, List.drop_eq_nil_of_le (by omega), List.append_nil, e2, hes, ← List.map_take, ← List.map_append]; rfl
  cbv
  exact hK _ _ (by rw [turnR, hc, hr2]; rfl) rfl

theorem c_laws_FnExactTurnAll : Callable Try.prog 7 := ⟨_, Try.func7, rfl, by kernel_rfl⟩
theorem d_laws_FnExactTurnAll {es : List PV} {l : List P2} (hes : es = l.map P2.pv ∧ l.length ≤ 9223372036854775807) : Does Try.prog 7 [.sl es] (.pv (bl true)) [] := by
  refine does_of hT hM Try.func7 rfl (D := []) (by kernel_rfl) rfl rfl rfl (fun A K hA hK => ?_)
  obtain ⟨hes, hmax⟩ := hes
  have hlen : es.length = l.length := by simp [hes]
  have hcl := turnR_le (l := l)
  obtain ⟨C, hC⟩ : ∃ C, C = turnR l := ⟨_, rfl⟩
  have dS := fun (hb : l.length ≤ 1048576) => d_spec_TurnAll hes hb
  have dI := fun (hb : l.length ≤ 1048576) => d_impl_TurnAll hes hb
  rw [← hC] at dS dI hcl
  clear hC
  generalize hG : isWayF l = G at dS dI
  clear hG
  obtain ⟨E, hE⟩ : ∃ E, E = C.map P2.pv := ⟨_, rfl⟩
  rw [← hE] at dS dI
  obtain ⟨M, hM⟩ : ∃ M, M = (up2 l.length 1).map P2.pv := ⟨_, rfl⟩
  obtain ⟨N, hN⟩ : ∃ N, N = (up2 C.length 1).map P2.pv := ⟨_, rfl⟩
  have m1 := fun (hb : l.length ≤ 1048576) => d_laws_markPtS (k := 1) hes hb (by omega)
  have m2 := d_laws_markPtS (k := 1) hE (by omega) (by omega)
  have m3 := d_laws_heldPtS (k := 1) hN (by omega) (by omega)
  have e1 := d_laws_eqPtS hE hE (by omega)
  have e2 := fun (hb : l.length ≤ 1048576) => d_laws_eqPtS hes hes hb
  rw [decide_eq_true rfl] at e1
  simp only [decide_eq_true rfl] at e2
  rw [← hM] at m1
  rw [← hN] at m2
  obtain ⟨u, hu⟩ : ∃ u, u = on2 l.length 1 := ⟨_, rfl⟩
  obtain ⟨v, hv⟩ : ∃ v, v = on2 C.length 1 := ⟨_, rfl⟩
  have hu0 := on2_pos hu (by omega)
  have hv0 := on2_pos hv (by omega)
  rw [← hu] at m1
  rw [← hv] at m2 m3
  clear hu hv hM hN hE
  cbv
  refine Ar.callI hA c_laws_szPtS (d_laws_szPtS (by omega) (by omega)) rfl (fun r hr => ?_)
  cbv
  refine Ar.lss_ hA (fun h => ?_) (fun h => ?_)
  · cbv
    exact hK _ _ rfl rfl
  have hb : l.length ≤ 1048576 := by have := szF_le hr h; omega
  have dS := dS hb
  have dI := dI hb
  have m1 := m1 hb
  have e2 := e2 hb
  cbv
  repeat' (first
    | (refine Ar.call_ hA c_laws_toPtS (d_laws_toPtS hes hb) rfl ?_; cbv)
    | (refine Ar.call_ hA c_spec_TurnAll dS rfl ?_; cbv)
    | (refine Ar.call_ hA c_impl_TurnAll dI rfl ?_; cbv)
    | (refine Ar.call_ hA c_laws_eqPtS e1 rfl ?_; cbv)
    | (refine Ar.call_ hA c_laws_eqPtS e2 rfl ?_; cbv)
    | (refine Ar.call_ hA c_laws_markPtS m1 rfl ?_; cbv)
    | (refine Ar.call_ hA c_laws_markPtS m2 rfl ?_; cbv)
    | (refine Ar.call_ hA c_laws_heldPtS m3 rfl ?_; cbv)
    | (refine Ar.notT_ hA ?_; cbv)
    | (refine Ar.bneq_ hA (fun h => absurd rfl h) (fun _ => ?_); cbv)
    | (refine Ar.neq_ hA (fun h => absurd rfl h) (fun _ => ?_); cbv)
    | (refine Ar.lss_ hA (fun h => absurd h (by omega)) (fun _ => ?_); cbv))
  exact hK _ _ rfl rfl

end Go.VAI
