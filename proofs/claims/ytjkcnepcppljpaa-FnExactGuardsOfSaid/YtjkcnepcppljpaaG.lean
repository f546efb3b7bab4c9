/- AreaTwice, Sees, and the laws. -/
import Derived.Test.YtjkcnepcppljpaaF
namespace Go.VAI
open Go.Proofs
set_option maxRecDepth 100000
set_option maxHeartbeats 8000000

/-! AreaTwice -/

def nx (l : List P2) (i : Nat) : P2 := (l[(i + 1) % l.length]?).getD ⟨0, 0⟩
theorem nx_some {l : List P2} (h : 0 < l.length) (i : Nat) : l[(i + 1) % l.length]? = some (nx l i) := by
  unfold nx
  rw [List.getElem?_eq_getElem (Nat.mod_lt _ h)]; rfl
theorem nx_bounds {l : List P2} (hok : ∀ p ∈ l, p.ok = true) (h : 0 < l.length) (i : Nat) : -1000 ≤ (nx l i).x ∧ (nx l i).x ≤ 1000 ∧ -1000 ≤ (nx l i).y ∧ (nx l i).y ≤ 1000 :=
  P2.ok_iff.1 (hok _ (List.mem_of_getElem? (nx_some h i)))
def areaU (l : List P2) : Nat → Int
  | 0 => 0
  | k + 1 => areaU l k + (match l[k]? with
    | some p => p.x * (nx l k).y - (nx l k).x * p.y
    | none => 0)
def area2 (l : List P2) : Int := areaU l l.length
theorem areaU_succ {l : List P2} {k : Nat} {x y : Int} (h : l[k]? = some ⟨x, y⟩) : areaU l (k + 1) = areaU l k + (x * (nx l k).y - (nx l k).x * y) := by
  simp only [areaU, h]

theorem c_spec_l8Next : Callable Try.prog 46 := ⟨_, Try.func46, rfl, by kernel_rfl⟩
theorem d_spec_l8Next {es : List PV} {l : List P2} {i : Int} (hes : es = l.map P2.pv) (hb : l.length ≤ 1048576) (h0 : 0 < l.length) (hi : 0 ≤ i ∧ i ≤ 1099511627776) : Does Try.prog 46 [.sl es, i64 i] (.ag [.pv (i64 (nx l i.toNat).x), .pv (i64 (nx l i.toNat).y)]) [] := by
  refine does_of hT hM Try.func46 rfl (D := []) (by kernel_rfl) rfl rfl rfl (fun A K hA hK => ?_)
  have hlen : es.length = l.length := by simp [hes]
  have hn := nx_some h0 i.toNat
  cbv
  refine Ar.add_ hA (by omega) (fun k hk => ?_)
  cbv
  refine Ar.len_ hA (fun n hn2 hn' => ?_)
  cbv
  refine Ar.nz_ hA (by omega) ?_
  cbv
  refine Ar.rem_ hA (by omega) (fun r hr => ?_)
  have hr1 : 0 ≤ r := by rw [hr]; exact Int.emod_nonneg _ (by omega)
  have hr2 : r.toNat = (i.toNat + 1) % l.length := by
    have e1 : k = ((i.toNat + 1 : Nat) : Int) := by omega
    have e2 : n = (l.length : Int) := by omega
    rw [hr, e1, e2]; rfl
  cbv
  refine Ar.nn_ hA hr1 ?_
  cbv
  refine Ar.toN_ hA (fun j hj => ?_)
  cbv
  obtain ⟨nxx, nxy, hx, hy⟩ : ∃ x y, x = (nx l i.toNat).x ∧ y = (nx l i.toNat).y := ⟨_, _, rfl, rfl⟩
  refine Ar.idx_ hA (x := pt nxx nxy) (by rw [hj, hr2, hes, hx, hy]; simp [hn, P2.pv]) ?_
  cbv
  exact hK _ _ (by rw [hx, hy]) rfl

theorem c_impl_after : Callable Try.prog 54 := ⟨_, Try.func54, rfl, by kernel_rfl⟩
theorem d_impl_after {es : List PV} {l : List P2} {i : Int} (hes : es = l.map P2.pv) (hb : l.length ≤ 1048576) (h0 : 0 < l.length) (hi : 0 ≤ i ∧ i ≤ 1099511627776) : Does Try.prog 54 [.sl es, i64 i] (.pv (i64 ((i + 1) % (Int.ofNat l.length)))) [] := by
  refine does_of hT hM Try.func54 rfl (D := []) (by kernel_rfl) rfl rfl rfl (fun A K hA hK => ?_)
  have hlen : es.length = l.length := by simp [hes]
  cbv
  refine Ar.add_ hA (by omega) (fun k hk => ?_)
  cbv
  refine Ar.len_ hA (fun n hn2 hn' => ?_)
  cbv
  refine Ar.nz_ hA (by omega) ?_
  cbv
  refine Ar.rem_ hA (by omega) (fun r hr => ?_)
  cbv
  have e2 : n = Int.ofNat l.length := by have : Int.ofNat l.length = (l.length : Int) := rfl; omega
  exact hK _ _ (by rw [hr, hk, e2]) rfl

/-- The next corner, by its index. -/
theorem after_idx {l : List P2} {i r : Int} (h0 : 0 < l.length) (hi : 0 ≤ i) (hr : r = (i + 1) % (Int.ofNat l.length)) : 0 ≤ r ∧ r.toNat < l.length ∧ l[r.toNat]? = some (nx l i.toNat) := by
  have e : r = (((i.toNat + 1) % l.length : Nat) : Int) := by
    have : i + 1 = ((i.toNat + 1 : Nat) : Int) := by omega
    rw [hr, this]; rfl
  have : r.toNat = (i.toNat + 1) % l.length := by omega
  refine ⟨by omega, by rw [this]; exact Nat.mod_lt _ h0, by rw [this]; exact nx_some h0 _⟩

theorem c_spec_l8Area : Callable Try.prog 29 := ⟨_, Try.func29, rfl, by kernel_rfl⟩
theorem d_spec_l8Area {es : List PV} {l : List P2} (hes : es = l.map P2.pv) (h0 : 0 < l.length) (hb : l.length ≤ 12) (hok : ∀ p ∈ l, p.ok = true) : Does Try.prog 29 [.sl es] (.pv (i64 (area2 l))) [] := by
  refine does_of hT hM Try.func29 rfl (D := []) (by kernel_rfl) rfl rfl rfl (fun A K hA hK => ?_)
  have hlen : es.length = l.length := by simp [hes]
  cbv
  refine Ar.len_ hA (fun n hn hn' => ?_)
  cbv
  refine Ar.loop_ hA (α := Int × Int) (fun x => (n - x.1).toNat) (fun (i, m) => 0 ≤ i ∧ i ≤ n ∧ -(8000000 * i) ≤ m ∧ m ≤ 8000000 * i ∧ m = areaU l i.toNat) 32 (fun (i, m) => [(0, .pv (.sl es) []), (3, .pv (i64 m) []), (7, .pv (.sl es) []), (8, .pv (i64 n) []), (9, .pv (i64 i) [])]) (fun _ => []) (0, 0) ⟨rfl, ⟨rfl, rfl, rfl, rfl, rfl, trivial⟩, trivial⟩ ⟨by omega, by omega, by omega, by omega, rfl⟩ ?_
  intro ⟨i, m⟩ s f ⟨h1, h2, h3, h4, h5⟩
  cbv
  refine Ar.lss_ hA (fun h => ?_) (fun h => ?_)
  · cbv
    refine Ar.nn_ hA (by omega) ?_
    cbv
    refine Ar.toN_ hA (fun j hj => ?_)
    cbv
    obtain ⟨⟨px, py⟩, hp⟩ : ∃ p, l[j]? = some p := ⟨l[j]'(by omega), List.getElem?_eq_getElem _⟩
    refine Ar.idx_ hA (x := pt px py) (by simp [hes, hp, P2.pv]) ?_
    cbv
    have bp := ok_bounds hok hp
    have bn := nx_bounds hok h0 i.toNat
    have key := areaU_succ hp
    repeat' (first
      | (refine Ar.nn_ hA (by omega) ?_; cbv)
      | (refine Ar.toN_ hA (fun _ _ => ?_); cbv)
      | (refine Ar.notT_ hA ?_; cbv)
      | (refine Ar.notF_ hA ?_; cbv)
      | (refine Ar.lss_ hA (fun _ => ?_) (fun _ => ?_) <;> cbv)
      | (refine Ar.leq_ hA (fun _ => ?_) (fun _ => ?_) <;> cbv)
      | (refine Ar.gtr_ hA (fun _ => ?_) (fun _ => ?_) <;> cbv)
      | (refine Ar.geq_ hA (fun _ => ?_) (fun _ => ?_) <;> cbv)
      | (refine Ar.eql_ hA (fun _ => ?_) (fun _ => ?_) <;> cbv)
      | (refine Ar.neq_ hA (fun _ => ?_) (fun _ => ?_) <;> cbv)
      | (refine Ar.add_ hA (by omega) (fun _ _ => ?_); cbv)
      | (refine Ar.sub_ hA (by omega) (fun _ _ => ?_); cbv)
      | (refine Ar.neg_ hA (by omega) (fun _ _ => ?_); cbv)
      | (refine Ar.mulB hA 2000 2000 (by omega) (by omega) (by omega) (fun _ _ _ _ => ?_); cbv)
      | (refine Ar.mulB hA 3000000000 3000000000 (by omega) (by omega) (by omega) (fun _ _ _ _ => ?_); cbv)
      | (refine Ar.nz_ hA (by omega) ?_; cbv)
      | (refine Ar.rem_ hA (by omega) (fun _ _ => ?_); cbv)
      | (refine Ar.quo_ hA (by omega) (fun _ _ => ?_); cbv)
      | (refine Ar.mx_ hA (fun _ _ => ?_); cbv)
      | (refine Ar.mn_ hA (fun _ _ => ?_); cbv)
      | (refine Ar.len_ hA (fun _ _ _ => ?_); cbv)
      | (refine Ar.lenN_ hA (fun _ _ => ?_); cbv)
      | (refine Ar.bneq_ hA (fun _ => ?_) (fun _ => ?_) <;> cbv)
      | (refine Ar.beq_ hA (fun _ => ?_) (fun _ => ?_) <;> cbv)
      | (refine Ar.ofN_ hA (fun _ _ _ => ?_); cbv)
      | (refine Ar.callG2 hA c_spec_l8Next (d_spec_l8Next hes (by omega) h0 (by omega)) rfl (fun _ _ _ _ => ?_); cbv))
    rename_i m' hm' i' hi'
    refine ⟨(i', m'), (by show (n - i').toNat < (n - i).toNat; omega), ⟨by omega, by omega, by omega, by omega, ?_⟩, rfl, ⟨rfl, rfl, rfl, rfl, rfl, trivial⟩, trivial⟩
    rw [show i'.toNat = j + 1 by omega, key, show j = i.toNat by omega, ← h5]
    subst_vars; rfl
  · cbv
    exact hK _ _ (by rw [h5, show i.toNat = l.length by omega]; rfl) rfl

theorem c_impl_areaTwice : Callable Try.prog 35 := ⟨_, Try.func35, rfl, by kernel_rfl⟩
theorem d_impl_areaTwice {es : List PV} {l : List P2} (hes : es = l.map P2.pv) (h0 : 0 < l.length) (hb : l.length ≤ 12) (hok : ∀ p ∈ l, p.ok = true) : Does Try.prog 35 [.sl es] (.pv (i64 (area2 l))) [] := by
  refine does_of hT hM Try.func35 rfl (D := []) (by kernel_rfl) rfl rfl rfl (fun A K hA hK => ?_)
  have hlen : es.length = l.length := by simp [hes]
  cbv
  refine Ar.len_ hA (fun n hn hn' => ?_)
  cbv
  refine Ar.loop_ hA (α := Int × Int) (fun x => (n - x.1).toNat) (fun (i, m) => 0 ≤ i ∧ i ≤ n ∧ -(8000000 * i) ≤ m ∧ m ≤ 8000000 * i ∧ m = areaU l i.toNat) 35 (fun (i, m) => [(0, .pv (.sl es) []), (3, .pv (i64 m) []), (7, .pv (.sl es) []), (8, .pv (i64 n) []), (9, .pv (i64 i) [])]) (fun _ => []) (0, 0) ⟨rfl, ⟨rfl, rfl, rfl, rfl, rfl, trivial⟩, trivial⟩ ⟨by omega, by omega, by omega, by omega, rfl⟩ ?_
  intro ⟨i, m⟩ s f ⟨h1, h2, h3, h4, h5⟩
  cbv
  refine Ar.lss_ hA (fun h => ?_) (fun h => ?_)
  · cbv
    refine Ar.nn_ hA (by omega) ?_
    cbv
    refine Ar.toN_ hA (fun j hj => ?_)
    cbv
    obtain ⟨⟨px, py⟩, hp⟩ : ∃ p, l[j]? = some p := ⟨l[j]'(by omega), List.getElem?_eq_getElem _⟩
    refine Ar.idx_ hA (x := pt px py) (by simp [hes, hp, P2.pv]) ?_
    cbv
    have bp := ok_bounds hok hp
    have bn := nx_bounds hok h0 i.toNat
    have key := areaU_succ hp
    refine Ar.callI hA c_impl_after (d_impl_after hes (by omega) h0 (by omega)) rfl (fun r hr => ?_)
    obtain ⟨hr1, hr2, hr3⟩ := after_idx h0 h1 hr
    cbv
    refine Ar.nn_ hA hr1 ?_
    cbv
    refine Ar.toN_ hA (fun j2 hj2 => ?_)
    cbv
    obtain ⟨nxx, nxy, hx, hy⟩ : ∃ x y, x = (nx l i.toNat).x ∧ y = (nx l i.toNat).y := ⟨_, _, rfl, rfl⟩
    refine Ar.idx_ hA (x := pt nxx nxy) (by rw [hj2, hes, hx, hy]; simp [hr3, P2.pv]) ?_
    cbv
    repeat' (first
      | (refine Ar.nn_ hA (by omega) ?_; cbv)
      | (refine Ar.toN_ hA (fun _ _ => ?_); cbv)
      | (refine Ar.notT_ hA ?_; cbv)
      | (refine Ar.notF_ hA ?_; cbv)
      | (refine Ar.lss_ hA (fun _ => ?_) (fun _ => ?_) <;> cbv)
      | (refine Ar.leq_ hA (fun _ => ?_) (fun _ => ?_) <;> cbv)
      | (refine Ar.gtr_ hA (fun _ => ?_) (fun _ => ?_) <;> cbv)
      | (refine Ar.geq_ hA (fun _ => ?_) (fun _ => ?_) <;> cbv)
      | (refine Ar.eql_ hA (fun _ => ?_) (fun _ => ?_) <;> cbv)
      | (refine Ar.neq_ hA (fun _ => ?_) (fun _ => ?_) <;> cbv)
      | (refine Ar.add_ hA (by omega) (fun _ _ => ?_); cbv)
      | (refine Ar.sub_ hA (by omega) (fun _ _ => ?_); cbv)
      | (refine Ar.neg_ hA (by omega) (fun _ _ => ?_); cbv)
      | (refine Ar.mulB hA 2000 2000 (by omega) (by omega) (by omega) (fun _ _ _ _ => ?_); cbv)
      | (refine Ar.mulB hA 3000000000 3000000000 (by omega) (by omega) (by omega) (fun _ _ _ _ => ?_); cbv)
      | (refine Ar.nz_ hA (by omega) ?_; cbv)
      | (refine Ar.rem_ hA (by omega) (fun _ _ => ?_); cbv)
      | (refine Ar.quo_ hA (by omega) (fun _ _ => ?_); cbv)
      | (refine Ar.mx_ hA (fun _ _ => ?_); cbv)
      | (refine Ar.mn_ hA (fun _ _ => ?_); cbv)
      | (refine Ar.len_ hA (fun _ _ _ => ?_); cbv)
      | (refine Ar.lenN_ hA (fun _ _ => ?_); cbv)
      | (refine Ar.bneq_ hA (fun _ => ?_) (fun _ => ?_) <;> cbv)
      | (refine Ar.beq_ hA (fun _ => ?_) (fun _ => ?_) <;> cbv)
      | (refine Ar.ofN_ hA (fun _ _ _ => ?_); cbv)
)
    rename_i m' hm' i' hi'
    refine ⟨(i', m'), (by show (n - i').toNat < (n - i).toNat; omega), ⟨by omega, by omega, by omega, by omega, ?_⟩, rfl, ⟨rfl, rfl, rfl, rfl, rfl, trivial⟩, trivial⟩
    rw [show i'.toNat = j + 1 by omega, key, show j = i.toNat by omega, ← h5]
    subst_vars; rfl
  · cbv
    exact hK _ _ (by rw [h5, show i.toNat = l.length by omega]; rfl) rfl

def areaR (l : List P2) : Int := if isWayF l then area2 l else 0

/-! Sees -/

def cornerF (l : List P2) (k : Int) : Bool := decide (0 ≤ k) && decide (k < Int.ofNat l.length)
def triF (l : List P2) (a b c : Int) : Bool := cornerF l a && cornerF l b && cornerF l c

theorem ofNat_eq (n : Nat) : Int.ofNat n = (n : Int) := rfl

def seesF (l : List P2) (g a b c : Int) : Bool := isWayF l && cornerF l g && triF l a b c

end Go.VAI
