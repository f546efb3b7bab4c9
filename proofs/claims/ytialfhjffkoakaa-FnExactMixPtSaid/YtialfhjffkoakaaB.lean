/- The functions on points and rows of points: what each does. -/
import Derived.Test.YtialfhjffkoakaaA
namespace Go.VAI
open Go.Proofs
set_option maxRecDepth 100000
set_option maxHeartbeats 8000000

def P2.pv (p : P2) : PV := pt p.x p.y
theorem P2.ok_iff {p : P2} : p.ok = true ↔ -1000 ≤ p.x ∧ p.x ≤ 1000 ∧ -1000 ≤ p.y ∧ p.y ≤ 1000 := by
  simp [P2.ok, and_assoc]

theorem c_spec_l8Pts : Callable Try.prog 67 := ⟨_, Try.func67, rfl, by kernel_rfl⟩
theorem d_spec_l8Pts {es : List PV} {l : List P2} (hes : es = l.map P2.pv) (hb : l.length ≤ 1048576) : Does Try.prog 67 [.sl es] (.pv (bl (l.all P2.ok))) [] := by
  refine does_of hT hM Try.func67 rfl (D := []) (by kernel_rfl) rfl rfl rfl (fun A K hA hK => ?_)
  have hlen : es.length = l.length := by simp [hes]
  cbv
  refine Ar.len_ hA (fun n hn hn' => ?_)
  cbv
  refine Ar.loop_ hA (α := Int) (fun i => (n - i).toNat) (fun i => 0 ≤ i ∧ i ≤ n ∧ ∀ p ∈ l.take i.toNat, p.ok = true) 15 (fun i => [(5, .pv (.sl es) []), (6, .pv (i64 n) []), (7, .pv (i64 i) [])]) (fun _ => []) 0 ⟨rfl, ⟨rfl, rfl, rfl, trivial⟩, trivial⟩ ⟨by omega, by omega, by simp⟩ ?_
  intro i s f ⟨h1, h2, h3⟩
  cbv
  refine Ar.lss_ hA (fun h => ?_) (fun h => ?_)
  · cbv
    refine Ar.nn_ hA h1 ?_
    cbv
    refine Ar.toN_ hA (fun j hj => ?_)
    cbv
    obtain ⟨p, hp⟩ : ∃ p, l[j]? = some p := ⟨l[j]'(by omega), List.getElem?_eq_getElem _⟩
    refine Ar.idx_ hA (x := pt p.x p.y) (by simp [hes, hp, P2.pv]) ?_
    cbv
    refine Ar.callT hA c_spec_GoodPt d_spec_GoodPt rfl (fun hb => ?_) (fun hb => ?_)
    · cbv
      refine Ar.notT_ hA ?_
      cbv
      refine Ar.add_ hA (by omega) (fun k hk => ?_)
      cbv
      refine ⟨k, by omega, ⟨by omega, by omega, ?_⟩, rfl, ⟨rfl, rfl, rfl, trivial⟩, trivial⟩
      rw [show k.toNat = j + 1 by omega, List.take_add_one, hp]
      intro q hq
      simp only [Option.toList_some, List.mem_append, List.mem_singleton] at hq
      rcases hq with hq | rfl
      · exact h3 q (by rw [← hj]; exact hq)
      · exact hb
    · cbv
      refine Ar.notF_ hA ?_
      cbv
      refine hK _ _ ?_ rfl
      have : l.all P2.ok = false := by
        rw [List.all_eq_false]
        exact ⟨p, List.mem_of_getElem? hp, by rw [show p = ⟨p.x, p.y⟩ from rfl, hb]; simp⟩
      rw [this]
  · cbv
    refine hK _ _ ?_ rfl
    rw [List.take_of_length_le (by omega)] at h3
    have : l.all P2.ok = true := by rw [List.all_eq_true]; exact h3
    rw [this]

/-- The first place at which something holds, or -1. -/
def firstAt {α : Type} (q : α → Bool) (l : List α) : Int := match l.findIdx? q with
  | some i => i
  | none => -1

theorem firstAt_none {α : Type} {q : α → Bool} {l : List α} (h : ∀ p ∈ l, q p = false) : firstAt q l = -1 := by
  unfold firstAt
  have : l.findIdx? q = none := List.findIdx?_eq_none_iff.2 h
  rw [this]
theorem firstAt_some {α : Type} {q : α → Bool} {l : List α} {j : Nat} {p : α} (hp : l[j]? = some p) (hq : q p = true) (h : ∀ p ∈ l.take j, q p = false) : firstAt q l = j := by
  unfold firstAt
  have : l.findIdx? q = some j := by
    rw [List.findIdx?_eq_some_iff_getElem]
    obtain ⟨hlt, he⟩ := List.getElem?_eq_some_iff.1 hp
    refine ⟨hlt, by rw [he]; exact hq, fun k hk => ?_⟩
    rw [h (l[k]'(by omega)) (by rw [List.mem_take_iff_getElem]; exact ⟨k, by omega, rfl⟩)]; simp
  rw [this]
theorem firstAt_any {α : Type} {q : α → Bool} {l : List α} : decide (0 ≤ firstAt q l) = l.any q := by
  unfold firstAt
  cases h : l.findIdx? q with
  | none =>
    rw [List.findIdx?_eq_none_iff] at h
    have : l.any q = false := by rw [List.any_eq_false]; intro x hx; rw [h x hx]; simp
    rw [this]; rfl
  | some i =>
    rw [List.findIdx?_eq_some_iff_getElem] at h
    obtain ⟨h1, h2, _⟩ := h
    have : l.any q = true := List.any_eq_true.2 ⟨l[i], List.getElem_mem _, h2⟩
    rw [this]
    simp

theorem c_impl_arePts_1 : Callable Try.prog 107 := ⟨_, Try.func107, rfl, by kernel_rfl⟩
theorem d_impl_arePts_1 {x y : Int} : Does Try.prog 107 [pt x y] (.pv (bl (!(P2.ok ⟨x, y⟩)))) [] := by
  refine does_of hT hM Try.func107 rfl (D := []) (by kernel_rfl) rfl rfl rfl (fun A K hA hK => ?_)
  cbv
  repeat' (first
    | (refine Ar.nn_ hA (by omega) ?_; cbv)
    | (refine Ar.toN_ hA (fun _ _ => ?_); cbv)
    | (refine Ar.notT_ hA ?_; cbv)
    | (refine Ar.notF_ hA ?_; cbv)
    | (refine Ar.lss_ hA (fun _ => ?_) (fun _ => ?_) <;> cbv)
    | (refine Ar.leq_ hA (fun _ => ?_) (fun _ => ?_) <;> cbv)
    | (refine Ar.gtr_ hA (fun _ => ?_) (fun _ => ?_) <;> cbv)
    | (refine Ar.geq_ hA (fun _ => ?_) (fun _ => ?_) <;> cbv)
    | (refine Ar.eql_ hA (fun _ => ?_) (fun _ => ?_) <;> cbv)
    | (refine Ar.neq_ hA (fun _ => ?_) (fun _ => ?_) <;> cbv)
    | (refine Ar.add_ hA (by omega) (fun _ _ => ?_); cbv)
    | (refine Ar.sub_ hA (by omega) (fun _ _ => ?_); cbv)
    | (refine Ar.neg_ hA (by omega) (fun _ _ => ?_); cbv)
    | (refine Ar.mulB hA 2000 2000 (by omega) (by omega) (by omega) (fun _ _ _ _ => ?_); cbv)
    | (refine Ar.mulB hA 3000000000 3000000000 (by omega) (by omega) (by omega) (fun _ _ _ _ => ?_); cbv)
    | (refine Ar.nz_ hA (by omega) ?_; cbv)
    | (refine Ar.rem_ hA (by omega) (fun _ _ => ?_); cbv)
    | (refine Ar.quo_ hA (by omega) (fun _ _ => ?_); cbv)
    | (refine Ar.mx_ hA (fun _ _ => ?_); cbv)
    | (refine Ar.mn_ hA (fun _ _ => ?_); cbv)
    | (refine Ar.len_ hA (fun _ _ _ => ?_); cbv)
    | (refine Ar.lenN_ hA (fun _ _ => ?_); cbv)
    | (refine Ar.bneq_ hA (fun _ => ?_) (fun _ => ?_) <;> cbv)
    | (refine Ar.beq_ hA (fun _ => ?_) (fun _ => ?_) <;> cbv)
    | (refine Ar.ofN_ hA (fun _ _ _ => ?_); cbv)
    | (refine Ar.callT hA c_impl_GoodPt (d_impl_GoodPt) rfl (fun _ => ?_) (fun _ => ?_) <;> cbv))
  all_goals exact hK _ _ (by simp_all) rfl

theorem c_slices_IndexFunc_impl_Pt_impl_Pt : Callable Try.prog 134 := ⟨_, Try.func134, rfl, by kernel_rfl⟩
theorem d_slices_IndexFunc_impl_Pt_impl_Pt {es : List PV} {l : List P2} {q : P2 → Bool} (hes : es = l.map P2.pv) (hb : l.length ≤ 1048576) (hq : ∀ p ∈ l, Does Try.prog 107 [pt p.x p.y] (.pv (bl (q p))) []) : Does Try.prog 134 [.sl es, .fn 107 []] (.pv (i64 (firstAt q l))) [] := by
  refine does_of hT hM Try.func134 rfl (D := []) (by kernel_rfl) rfl rfl rfl (fun A K hA hK => ?_)
  have hlen : es.length = l.length := by simp [hes]
  cbv
  refine Ar.len_ hA (fun n hn hn' => ?_)
  cbv
  refine Ar.loop_ hA (α := Int) (fun i => (n - i).toNat) (fun i => 0 ≤ i ∧ i ≤ n ∧ ∀ p ∈ l.take i.toNat, q p = false) 19 (fun i => [(0, .pv (.sl es) []), (1, .pv (.fn 107 []) []), (7, .pv (i64 n) []), (8, .pv (i64 i) [])]) (fun _ => []) 0 ⟨rfl, ⟨rfl, rfl, rfl, rfl, trivial⟩, trivial⟩ ⟨by omega, by omega, by simp⟩ ?_
  intro i s f ⟨h1, h2, h3⟩
  cbv
  refine Ar.lss_ hA (fun h => ?_) (fun h => ?_)
  · cbv
    refine Ar.nn_ hA h1 ?_
    cbv
    refine Ar.toN_ hA (fun j hj => ?_)
    cbv
    obtain ⟨p, hp⟩ : ∃ p, l[j]? = some p := ⟨l[j]'(by omega), List.getElem?_eq_getElem _⟩
    refine Ar.idx_ hA (x := pt p.x p.y) (by simp [hes, hp, P2.pv]) ?_
    cbv
    refine Ar.callT hA c_impl_arePts_1 (hq p (List.mem_of_getElem? hp)) rfl (fun hb => ?_) (fun hb => ?_)
    · cbv
      refine hK _ _ ?_ rfl
      rw [firstAt_some hp hb (by rw [hj]; exact h3)]
      congr 3; omega
    · cbv
      refine Ar.add_ hA (by omega) (fun k hk => ?_)
      cbv
      refine ⟨k, by omega, ⟨by omega, by omega, ?_⟩, rfl, ⟨rfl, rfl, rfl, rfl, trivial⟩, trivial⟩
      rw [show k.toNat = j + 1 by omega, List.take_add_one, hp]
      intro q' hq'
      simp only [Option.toList_some, List.mem_append, List.mem_singleton] at hq'
      rcases hq' with hq' | rfl
      · exact h3 q' (by rw [← hj]; exact hq')
      · exact hb
  · cbv
    refine hK _ _ ?_ rfl
    rw [List.take_of_length_le (by omega)] at h3
    rw [firstAt_none h3]

theorem c_slices_ContainsFunc_impl_Pt_impl_Pt : Callable Try.prog 106 := ⟨_, Try.func106, rfl, by kernel_rfl⟩
theorem d_slices_ContainsFunc_impl_Pt_impl_Pt {es : List PV} {l : List P2} {q : P2 → Bool} (hes : es = l.map P2.pv) (hb : l.length ≤ 1048576) (hq : ∀ p ∈ l, Does Try.prog 107 [pt p.x p.y] (.pv (bl (q p))) []) : Does Try.prog 106 [.sl es, .fn 107 []] (.pv (bl (l.any q))) [] := by
  refine does_of hT hM Try.func106 rfl (D := []) (by kernel_rfl) rfl rfl rfl (fun A K hA hK => ?_)
  cbv
  refine Ar.callI hA c_slices_IndexFunc_impl_Pt_impl_Pt (d_slices_IndexFunc_impl_Pt_impl_Pt hes hb hq) rfl (fun r hr => ?_)
  cbv
  have := firstAt_any (q := q) (l := l)
  refine Ar.geq_ hA (fun h => ?_) (fun h => ?_)
  · cbv
    exact hK _ _ (by rw [← this]; simp; omega) rfl
  · cbv
    exact hK _ _ (by rw [← this]; simp; omega) rfl

theorem c_impl_arePts : Callable Try.prog 71 := ⟨_, Try.func71, rfl, by kernel_rfl⟩
theorem d_impl_arePts {es : List PV} {l : List P2} (hes : es = l.map P2.pv) (hb : l.length ≤ 1048576) : Does Try.prog 71 [.sl es] (.pv (bl (l.all P2.ok))) [] := by
  refine does_of hT hM Try.func71 rfl (D := []) (by kernel_rfl) rfl rfl rfl (fun A K hA hK => ?_)
  cbv
  refine Ar.callT hA c_slices_ContainsFunc_impl_Pt_impl_Pt (d_slices_ContainsFunc_impl_Pt_impl_Pt (q := fun p => !p.ok) hes hb (fun p _ => d_impl_arePts_1)) rfl (fun h => ?_) (fun h => ?_)
  · cbv
    repeat' (first
      | (refine Ar.nn_ hA (by omega) ?_; cbv)
      | (refine Ar.toN_ hA (fun _ _ => ?_); cbv)
      | (refine Ar.notT_ hA ?_; cbv)
      | (refine Ar.notF_ hA ?_; cbv)
      | (refine Ar.lss_ hA (fun _ => ?_) (fun _ => ?_) <;> cbv)
      | (refine Ar.leq_ hA (fun _ => ?_) (fun _ => ?_) <;> cbv)
      | (refine Ar.gtr_ hA (fun _ => ?_) (fun _ => ?_) <;> cbv)
      | (refine Ar.geq_ hA (fun _ => ?_) (fun _ => ?_) <;> cbv)
      | (refine Ar.eql_ hA (fun _ => ?_) (fun _ => ?_) <;> cbv)
      | (refine Ar.neq_ hA (fun _ => ?_) (fun _ => ?_) <;> cbv)
      | (refine Ar.add_ hA (by omega) (fun _ _ => ?_); cbv)
      | (refine Ar.sub_ hA (by omega) (fun _ _ => ?_); cbv)
      | (refine Ar.neg_ hA (by omega) (fun _ _ => ?_); cbv)
      | (refine Ar.mulB hA 2000 2000 (by omega) (by omega) (by omega) (fun _ _ _ _ => ?_); cbv)
      | (refine Ar.mulB hA 3000000000 3000000000 (by omega) (by omega) (by omega) (fun _ _ _ _ => ?_); cbv)
      | (refine Ar.nz_ hA (by omega) ?_; cbv)
      | (refine Ar.rem_ hA (by omega) (fun _ _ => ?_); cbv)
      | (refine Ar.quo_ hA (by omega) (fun _ _ => ?_); cbv)
      | (refine Ar.mx_ hA (fun _ _ => ?_); cbv)
      | (refine Ar.mn_ hA (fun _ _ => ?_); cbv)
      | (refine Ar.len_ hA (fun _ _ _ => ?_); cbv)
      | (refine Ar.lenN_ hA (fun _ _ => ?_); cbv)
      | (refine Ar.bneq_ hA (fun _ => ?_) (fun _ => ?_) <;> cbv)
      | (refine Ar.beq_ hA (fun _ => ?_) (fun _ => ?_) <;> cbv)
      | (refine Ar.ofN_ hA (fun _ _ _ => ?_); cbv)
)
    exact hK _ _ (by have : l.all P2.ok = false := by (rw [List.all_eq_not_any_not, h]; rfl)
                     rw [this]) rfl
  · cbv
    repeat' (first
      | (refine Ar.nn_ hA (by omega) ?_; cbv)
      | (refine Ar.toN_ hA (fun _ _ => ?_); cbv)
      | (refine Ar.notT_ hA ?_; cbv)
      | (refine Ar.notF_ hA ?_; cbv)
      | (refine Ar.lss_ hA (fun _ => ?_) (fun _ => ?_) <;> cbv)
      | (refine Ar.leq_ hA (fun _ => ?_) (fun _ => ?_) <;> cbv)
      | (refine Ar.gtr_ hA (fun _ => ?_) (fun _ => ?_) <;> cbv)
      | (refine Ar.geq_ hA (fun _ => ?_) (fun _ => ?_) <;> cbv)
      | (refine Ar.eql_ hA (fun _ => ?_) (fun _ => ?_) <;> cbv)
      | (refine Ar.neq_ hA (fun _ => ?_) (fun _ => ?_) <;> cbv)
      | (refine Ar.add_ hA (by omega) (fun _ _ => ?_); cbv)
      | (refine Ar.sub_ hA (by omega) (fun _ _ => ?_); cbv)
      | (refine Ar.neg_ hA (by omega) (fun _ _ => ?_); cbv)
      | (refine Ar.mulB hA 2000 2000 (by omega) (by omega) (by omega) (fun _ _ _ _ => ?_); cbv)
      | (refine Ar.mulB hA 3000000000 3000000000 (by omega) (by omega) (by omega) (fun _ _ _ _ => ?_); cbv)
      | (refine Ar.nz_ hA (by omega) ?_; cbv)
      | (refine Ar.rem_ hA (by omega) (fun _ _ => ?_); cbv)
      | (refine Ar.quo_ hA (by omega) (fun _ _ => ?_); cbv)
      | (refine Ar.mx_ hA (fun _ _ => ?_); cbv)
      | (refine Ar.mn_ hA (fun _ _ => ?_); cbv)
      | (refine Ar.len_ hA (fun _ _ _ => ?_); cbv)
      | (refine Ar.lenN_ hA (fun _ _ => ?_); cbv)
      | (refine Ar.bneq_ hA (fun _ => ?_) (fun _ => ?_) <;> cbv)
      | (refine Ar.beq_ hA (fun _ => ?_) (fun _ => ?_) <;> cbv)
      | (refine Ar.ofN_ hA (fun _ _ _ => ?_); cbv)
)
    exact hK _ _ (by have : l.all P2.ok = true := by (rw [List.all_eq_not_any_not, h]; rfl)
                     rw [this]) rfl

theorem c_laws_toPt : Callable Try.prog 69 := ⟨_, Try.func69, rfl, by kernel_rfl⟩
theorem d_laws_toPt {x y : Int} : Does Try.prog 69 [pt x y] (.ag [.pv (i64 x), .pv (i64 y)]) [] := by
  refine does_of hT hM Try.func69 rfl (D := []) (by kernel_rfl) rfl rfl rfl (fun A K hA hK => ?_)
  cbv
  exact hK _ _ rfl rfl

end Go.VAI
