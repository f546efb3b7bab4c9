/- TurnAll. -/
import Derived.Test.YtidbgfknaopkkaaN
namespace Go.VAI
open Go.Proofs
set_option maxRecDepth 100000
set_option maxHeartbeats 8000000

def turnF (l : List P2) : List P2 := l.take 1 ++ (l.drop 1).reverse
def turnR (l : List P2) : List P2 := if isWayF l then turnF l else []
theorem turnR_le {l : List P2} : (turnR l).length ≤ 12 := by
  unfold turnR
  split
  · rename_i h
    have := isWayF_iff.1 h
    simp [turnF]; omega
  · simp

theorem turn_next {l : List P2} {j : Nat} {p : P2} (h : l[j]? = some p) : (l.drop j).reverse = (l.drop (j + 1)).reverse ++ [p] := by
  obtain ⟨hj, hp⟩ := List.getElem?_eq_some_iff.1 h
  rw [List.drop_eq_getElem_cons hj, List.reverse_cons, hp]

theorem c_slices_Clone_impl_Pt_impl_Pt : Callable Try.prog 101 := ⟨_, Try.func101, rfl, by kernel_rfl⟩
theorem d_slices_Clone_impl_Pt_impl_Pt {es : List PV} {l : List P2} (hes : es = l.map P2.pv) (hb : l.length ≤ 1048576) : Does Try.prog 101 [.sl es] (.row es 2 .free) [] := by
  refine does_of hT hM Try.func101 rfl (D := []) (by kernel_rfl) rfl rfl rfl (fun A K hA hK => ?_)
  have hlen : es.length = l.length := by simp [hes]
  cbv
  have hw : ∀ x ∈ es, (leaves x).length = 2 ∧ (true = true → isFree x = true) := by
    rw [hes]; intro x hx; obtain ⟨y, _, rfl⟩ := List.mem_map.1 hx; exact ⟨rfl, fun _ => rfl⟩
  refine Ar.isNil_ hA (fun h => ?_) (fun h => ?_) (fun h => ?_)
  rotate_left
  · cbv
    exact hK _ _ (by rw [h]) rfl
  all_goals
    cbv
    refine Ar.wid_ hA hw ?_
    cbv
    refine Ar.app_ hA (fun r' hr' => ?_)
    cbv
    refine Ar.fitsL_ hA (by rw [hr', List.length_append]; simp only [List.length_nil]; omega) ?_
    cbv
    exact hK _ _ (by rw [hr']; rfl) rfl

theorem rev_step {l m : List P2} {i q n : Nat} (hm : m.length = n) (hiq : i < q) (hq : i + q + 1 = n) (h : ∀ k, k < n → m[k]? = if k < i ∨ n < k + 1 + i then l[n - 1 - k]? else l[k]?) {A B : P2} (ha : m[i]? = some A) (hb : m[q]? = some B) :
    ∀ k, k < n → ((m.set i B).set q A)[k]? = if k < i + 1 ∨ n < k + 1 + (i + 1) then l[n - 1 - k]? else l[k]? := by
  intro k hk
  have e1 := h i (by omega)
  have e2 := h q (by omega)
  rw [if_neg (by omega), ha] at e1
  rw [if_neg (by omega), hb] at e2
  by_cases k1 : k = q
  · subst k1
    rw [List.getElem?_set_self (by simp; omega), if_pos (by omega), e1]
    congr 1; omega
  · rw [List.getElem?_set_ne (by omega)]
    by_cases k2 : k = i
    · subst k2
      rw [List.getElem?_set_self (by omega), if_pos (by omega), e2]
      congr 1; omega
    · rw [List.getElem?_set_ne (by omega), h k hk]
      by_cases k3 : k < i ∨ n < k + 1 + i
      · rw [if_pos k3, if_pos (by omega)]
      · rw [if_neg k3, if_neg (by omega)]

theorem c_slices_Reverse_impl_Pt_impl_Pt : Callable Try.prog 108 := ⟨_, Try.func108, rfl, by kernel_rfl⟩
theorem d_slices_Reverse_impl_Pt_impl_Pt {es : List PV} {l : List P2} (hes : es = l.map P2.pv) (hb : l.length ≤ 1048576) : Does Try.prog 108 [.sl es] (.tup []) [.sl es.reverse] := by
  refine does_of hT hM Try.func108 rfl (D := [(3, [0, 1, 4, 5, 6, 7, 8, 9, 10, 11, 12])]) (by kernel_rfl) rfl rfl rfl (fun A K hA hK => ?_)
  have hlen : es.length = l.length := by simp [hes]
  cbv
  refine Ar.len_ hA (fun n hn hn' => ?_)
  cbv
  refine Ar.sub_ hA (by omega) (fun q0 hq0 => ?_)
  cbv
  refine Ar.loop_ hA (α := Int × Int × List PV × List P2) (fun x => (x.2.1 + 1 - x.1).toNat) (fun (i, q, r, m) => 0 ≤ i ∧ i ≤ n ∧ q = n - 1 - i ∧ r = m.map P2.pv ∧ m.length = l.length ∧ ∀ k, k < l.length → m[k]? = if k < i.toNat ∨ l.length < k + 1 + i.toNat then l[l.length - 1 - k]? else l[k]?) 28 (fun (i, q, r, m) => [(0, .own 0 none), (2, .pv (i64 i) []), (3, .pv (i64 q) [])]) (fun (i, q, r, m) => [(0, some (.row r 2 .free true))]) (0, q0, es, l) ⟨rfl, ⟨rfl, rfl, rfl, trivial⟩, rfl, trivial⟩ ⟨by omega, by omega, by omega, hes, rfl, fun k hk => by rw [if_neg (by omega)]⟩ ?_
  intro ⟨i, q, r, m⟩ s f ⟨h1, h2, h3, h4, h5, h6⟩
  have hrl : r.length = l.length := by rw [h4]; simp [h5]
  cbv
  refine Ar.lss_ hA (fun h => ?_) (fun h => ?_)
  · cbv
    obtain ⟨⟨ax, ay⟩, ha⟩ : ∃ p, m[i.toNat]? = some p := ⟨m[i.toNat]'(by omega), List.getElem?_eq_getElem _⟩
    obtain ⟨⟨bx, b_y⟩, hb'⟩ : ∃ p, m[q.toNat]? = some p := ⟨m[q.toNat]'(by omega), List.getElem?_eq_getElem _⟩
    have ra : r[i.toNat]? = some (pt ax ay) := by rw [h4]; simp [ha, P2.pv]
    have rb : r[q.toNat]? = some (pt bx b_y) := by rw [h4]; simp [hb', P2.pv]
    have key := rev_step (l := l) h5 (i := i.toNat) (q := q.toNat) (by omega) (by omega) h6 ha hb'
    refine Ar.nn_ hA (by omega) ?_
    cbv
    refine Ar.toN_ hA (fun jq hjq => ?_)
    cbv
    refine Ar.idx_ hA (x := pt bx b_y) (by rw [hjq]; exact rb) ?_
    cbv
    refine Ar.idx_ hA (x := pt bx b_y) (by rw [hjq]; exact rb) ?_
    cbv
    refine Ar.nn_ hA (by omega) ?_
    cbv
    refine Ar.toN_ hA (fun ji hji => ?_)
    cbv
    refine Ar.idx_ hA (x := pt ax ay) (by rw [hji]; exact ra) ?_
    cbv
    refine Ar.idx_ hA (x := pt ax ay) (by rw [hji]; exact ra) ?_
    cbv
    refine Ar.nn_ hA (by omega) ?_
    cbv
    refine Ar.toN_ hA (fun jt hjt => ?_)
    cbv
    refine Ar.idx_ hA (x := pt ax ay) (by rw [hjt]; exact ra) ?_
    cbv
    repeat' (first
      | apply And.intro
      | (refine Ar.nn_ hA (by omega) ?_; cbv)
      | (refine Ar.toN_ hA (fun ju hju => ?_); cbv)
      | (refine Ar.idx_ hA (x := pt ax ay) (by rw [hjt]; exact ra) ?_; cbv)
      | (refine Ar.idx_ hA (x := pt bx b_y) (by rw [hju]; exact rb) ?_; cbv)
      | (refine Ar.idx_ hA (x := pt bx b_y) (by rw [hr1, hju, List.getElem?_set_ne (by omega)]; exact rb) ?_; cbv)
      | (refine Ar.set_ hA (fun r1 hr1 => ?_); cbv)
      | (refine Ar.add_ hA (by omega) (fun i' hi' => ?_); cbv)
      | (refine Ar.sub_ hA (by omega) (fun q' hq' => ?_); cbv))
    all_goals
      refine ⟨(i', q', r1, (m.set i.toNat ⟨bx, b_y⟩).set q.toNat ⟨ax, ay⟩), (by show (q' + 1 - i').toNat < (q + 1 - i).toNat; omega), ⟨by omega, by omega, by omega, ?_, (by simp [h5]), ?_⟩, rfl, ⟨rfl, rfl, rfl, trivial⟩, rfl, trivial⟩
      · subst_vars
        rw [List.map_set, List.map_set]; rfl
      · rw [show i'.toNat = i.toNat + 1 by omega]
        exact key
  · cbv
    refine Ar.same_ hA (by omega) ?_
    cbv
    refine hK _ _ rfl ?_
    have : m = l.reverse := by
      apply List.ext_getElem?
      intro k
      by_cases hk : k < l.length
      · rw [h6 k hk, List.getElem?_reverse hk]
        split
        · rfl
        · congr 1; omega
      · rw [List.getElem?_eq_none (by omega), List.getElem?_eq_none (by simp; omega)]
    rw [h4, this, hes, List.map_reverse]

end Go.VAI
