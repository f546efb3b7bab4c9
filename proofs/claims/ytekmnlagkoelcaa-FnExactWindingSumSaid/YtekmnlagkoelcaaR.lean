/- CrossingsAt, WindingAt, Inside. -/
import Derived.Test.YtekmnlagkoelcaaQ
namespace Go.VAI
open Go.Proofs
set_option maxRecDepth 100000
set_option maxHeartbeats 8000000

/-- How an edge from height a to height b turns about a point of height y on the side o. -/
def turnV (a b y o : Int) : Int := if a ≤ y ∧ y < b ∧ o = 1 then 1 else if y < a ∧ b ≤ y ∧ o = -1 then -1 else 0
def turnC (t : Int) : Int := if t = 0 then 0 else 1
def turnE (l : List P2) (x y : Int) (i : Nat) : Int := turnV (at0 l i).y (nx l i).y y (sgn (cross (at0 l i) (nx l i) ⟨x, y⟩))
def windF (l : List P2) (x y : Int) : Int := sumTo (turnE l x y) l.length
def crossF (l : List P2) (x y : Int) : Int := sumTo (fun i => turnC (turnE l x y i)) l.length

theorem c_spec_l9Winding : Callable Try.prog 65 := ⟨_, Try.func65, rfl, by kernel_rfl⟩
theorem d_spec_l9Winding {es : List PV} {l : List P2} {qx qy : Int} (hes : es = l.map P2.pv) (h0 : 0 < l.length) (hb : l.length ≤ 12) (hok : ∀ p ∈ l, p.ok = true) (hq : -1000 ≤ qx ∧ qx ≤ 1000 ∧ -1000 ≤ qy ∧ qy ≤ 1000) : Does Try.prog 65 [.sl es, pt qx qy] (.pv (i64 (windF l qx qy))) [] := by
  refine does_of hT hM Try.func65 rfl (D := []) (by kernel_rfl) rfl rfl rfl (fun A K hA hK => ?_)
  have hlen : es.length = l.length := by simp [hes]
  unfold windF at hK
  obtain ⟨F, hF⟩ : ∃ F, F = turnE l qx qy := ⟨_, rfl⟩
  rw [← hF] at hK
  cbv
  refine Ar.len_ hA (fun n hn hn' => ?_)
  cbv
  refine Ar.loop_ hA (α := Int × Int) (fun x => (n - x.1).toNat) (fun (i, m) => 0 ≤ i ∧ i ≤ n ∧ -i ≤ m ∧ m ≤ i ∧ m = sumTo F i.toNat) 65 (fun (i, m) => [(0, .pv (.sl es) []), (3, .ref 3 0), (5, .pv (i64 m) []), (9, .pv (.sl es) []), (10, .pv (i64 n) []), (11, .pv (i64 i) [])]) (fun _ => [(3, some (.cell [.pv (i64 qx) [], .pv (i64 qy) []]))]) (0, 0) ⟨rfl, ⟨rfl, rfl, rfl, rfl, rfl, rfl, trivial⟩, rfl, trivial⟩ ⟨by omega, by omega, by omega, by omega, rfl⟩ ?_
  intro ⟨i, m⟩ s f ⟨h1, h2, h3, h4, h5⟩
  cbv
  refine Ar.lss_ hA (fun h => ?_) (fun h => ?_)
  · cbv
    refine Ar.nn_ hA (by omega) ?_
    cbv
    refine Ar.toN_ hA (fun j hj => ?_)
    cbv
    obtain ⟨⟨px, py⟩, hp⟩ : ∃ p, l[j]? = some p := ⟨l[j]'(by omega), List.getElem?_eq_getElem _⟩
    refine Ar.idx_ hA (x := pt px py) (by simp [hes, hp, P2.pv]) ?_
    cbv
    have bp := ok_bounds hok hp
    have bn := nx_bounds hok h0 i.toNat
    obtain ⟨nxx, nxy, hn0⟩ : ∃ x y, nx l i.toNat = ⟨x, y⟩ := ⟨_, _, rfl⟩
    have dn := d_spec_l8Next (i := i) hes (by omega) h0 (by omega)
    rw [hn0] at dn bn
    simp only at dn bn
    have hTj : turnE l qx qy j = turnV py nxy qy (sgn (cross ⟨px, py⟩ ⟨nxx, nxy⟩ ⟨qx, qy⟩)) := by unfold turnE; rw [at0_of hp, hj, hn0]
    have do_ := d_spec_l8Orient bp bn hq
    have bo := sgn_range (cross ⟨px, py⟩ ⟨nxx, nxy⟩ ⟨qx, qy⟩)
    generalize sgn (cross ⟨px, py⟩ ⟨nxx, nxy⟩ ⟨qx, qy⟩) = o at do_ hTj bo
    refine Ar.call_ hA c_spec_l8Next dn rfl ?_
    cbv
    have hFj : F j = id (turnV py nxy qy o) := by rw [hF, ← hTj]; rfl
    clear hTj
    repeat' (first
      | (refine Ar.leq_ hA (fun _ => ?_) (fun _ => ?_) <;> cbv)
      | (refine Ar.gtr_ hA (fun _ => ?_) (fun _ => ?_) <;> cbv)
      | (refine Ar.eql_ hA (fun _ => ?_) (fun _ => ?_) <;> cbv)
      | (refine Ar.add_ hA (by omega) (fun _ _ => ?_); cbv)
      | (refine Ar.sub_ hA (by omega) (fun _ _ => ?_); cbv)
      | (refine Ar.call_ hA c_spec_l8Orient do_ rfl ?_; cbv))
    all_goals
      refine ⟨(_, _), ?_, ⟨?_, ?_, ?_, ?_, sumTo_next h5 (k := _) ?_ ?_⟩, rfl, ⟨rfl, rfl, rfl, rfl, rfl, rfl, trivial⟩, rfl, trivial⟩
      all_goals first | (simp only; omega) | omega | (rw [← hj, hFj]; unfold turnV; (repeat' split) <;> simp_all <;> omega)
  · cbv
    exact hK _ _ (by rw [h5, show i.toNat = l.length by omega]) rfl

theorem c_spec_l9Crossings : Callable Try.prog 62 := ⟨_, Try.func62, rfl, by kernel_rfl⟩
theorem d_spec_l9Crossings {es : List PV} {l : List P2} {qx qy : Int} (hes : es = l.map P2.pv) (h0 : 0 < l.length) (hb : l.length ≤ 12) (hok : ∀ p ∈ l, p.ok = true) (hq : -1000 ≤ qx ∧ qx ≤ 1000 ∧ -1000 ≤ qy ∧ qy ≤ 1000) : Does Try.prog 62 [.sl es, pt qx qy] (.pv (i64 (crossF l qx qy))) [] := by
  refine does_of hT hM Try.func62 rfl (D := []) (by kernel_rfl) rfl rfl rfl (fun A K hA hK => ?_)
  have hlen : es.length = l.length := by simp [hes]
  unfold crossF at hK
  obtain ⟨F, hF⟩ : ∃ F, F = fun i => turnC (turnE l qx qy i) := ⟨_, rfl⟩
  rw [← hF] at hK
  cbv
  refine Ar.len_ hA (fun n hn hn' => ?_)
  cbv
  refine Ar.loop_ hA (α := Int × Int) (fun x => (n - x.1).toNat) (fun (i, m) => 0 ≤ i ∧ i ≤ n ∧ -i ≤ m ∧ m ≤ i ∧ m = sumTo F i.toNat) 67 (fun (i, m) => [(0, .pv (.sl es) []), (3, .ref 3 0), (5, .pv (i64 m) []), (11, .pv (.sl es) []), (12, .pv (i64 n) []), (13, .pv (i64 i) [])]) (fun _ => [(3, some (.cell [.pv (i64 qx) [], .pv (i64 qy) []]))]) (0, 0) ⟨rfl, ⟨rfl, rfl, rfl, rfl, rfl, rfl, trivial⟩, rfl, trivial⟩ ⟨by omega, by omega, by omega, by omega, rfl⟩ ?_
  intro ⟨i, m⟩ s f ⟨h1, h2, h3, h4, h5⟩
  cbv
  refine Ar.lss_ hA (fun h => ?_) (fun h => ?_)
  · cbv
    refine Ar.nn_ hA (by omega) ?_
    cbv
    refine Ar.toN_ hA (fun j hj => ?_)
    cbv
    obtain ⟨⟨px, py⟩, hp⟩ : ∃ p, l[j]? = some p := ⟨l[j]'(by omega), List.getElem?_eq_getElem _⟩
    refine Ar.idx_ hA (x := pt px py) (by simp [hes, hp, P2.pv]) ?_
    cbv
    have bp := ok_bounds hok hp
    have bn := nx_bounds hok h0 i.toNat
    obtain ⟨nxx, nxy, hn0⟩ : ∃ x y, nx l i.toNat = ⟨x, y⟩ := ⟨_, _, rfl⟩
    have dn := d_spec_l8Next (i := i) hes (by omega) h0 (by omega)
    rw [hn0] at dn bn
    simp only at dn bn
    have hTj : turnE l qx qy j = turnV py nxy qy (sgn (cross ⟨px, py⟩ ⟨nxx, nxy⟩ ⟨qx, qy⟩)) := by unfold turnE; rw [at0_of hp, hj, hn0]
    have do_ := d_spec_l8Orient bp bn hq
    have bo := sgn_range (cross ⟨px, py⟩ ⟨nxx, nxy⟩ ⟨qx, qy⟩)
    generalize sgn (cross ⟨px, py⟩ ⟨nxx, nxy⟩ ⟨qx, qy⟩) = o at do_ hTj bo
    refine Ar.call_ hA c_spec_l8Next dn rfl ?_
    cbv
    have hFj : F j = turnC (turnV py nxy qy o) := by rw [hF, ← hTj]
    clear hTj
    repeat' (first
      | (refine Ar.leq_ hA (fun _ => ?_) (fun _ => ?_) <;> cbv)
      | (refine Ar.gtr_ hA (fun _ => ?_) (fun _ => ?_) <;> cbv)
      | (refine Ar.eql_ hA (fun _ => ?_) (fun _ => ?_) <;> cbv)
      | (refine Ar.add_ hA (by omega) (fun _ _ => ?_); cbv)
      | (refine Ar.sub_ hA (by omega) (fun _ _ => ?_); cbv)
      | (refine Ar.call_ hA c_spec_l8Orient do_ rfl ?_; cbv))
    all_goals
      refine ⟨(_, _), ?_, ⟨?_, ?_, ?_, ?_, sumTo_next h5 (k := _) ?_ ?_⟩, rfl, ⟨rfl, rfl, rfl, rfl, rfl, rfl, trivial⟩, rfl, trivial⟩
      all_goals first | (simp only; omega) | omega | (rw [← hj, hFj]; unfold turnV; unfold turnC; (repeat' split) <;> simp_all <;> omega)
  · cbv
    exact hK _ _ (by rw [h5, show i.toNat = l.length by omega]) rfl

theorem c_impl_turns : Callable Try.prog 64 := ⟨_, Try.func64, rfl, by kernel_rfl⟩
theorem d_impl_turns {es : List PV} {l : List P2} {qx qy : Int} (hes : es = l.map P2.pv) (h0 : 0 < l.length) (hb : l.length ≤ 12) (hok : ∀ p ∈ l, p.ok = true) (hq : -1000 ≤ qx ∧ qx ≤ 1000 ∧ -1000 ≤ qy ∧ qy ≤ 1000) : Does Try.prog 64 [.sl es, pt qx qy] (.tup [.pv (i64 (windF l qx qy)), .pv (i64 (crossF l qx qy))]) [] := by
  refine does_of hT hM Try.func64 rfl (D := []) (by kernel_rfl) rfl rfl rfl (fun A K hA hK => ?_)
  have hlen : es.length = l.length := by simp [hes]
  unfold windF crossF at hK
  obtain ⟨F, hF⟩ : ∃ F, F = turnE l qx qy := ⟨_, rfl⟩
  obtain ⟨G, hG⟩ : ∃ G, G = fun i => turnC (turnE l qx qy i) := ⟨_, rfl⟩
  rw [← hG, ← hF] at hK
  cbv
  refine Ar.len_ hA (fun n hn hn' => ?_)
  cbv
  refine Ar.loop_ hA (α := Int × Int × Int) (fun x => (n - x.1).toNat) (fun (i, m, c) => 0 ≤ i ∧ i ≤ n ∧ -i ≤ m ∧ m ≤ i ∧ 0 ≤ c ∧ c ≤ i ∧ m = sumTo F i.toNat ∧ c = sumTo G i.toNat) 75 (fun (i, m, c) => [(0, .pv (.sl es) []), (3, .ref 3 0), (6, .pv (i64 m) []), (7, .pv (i64 c) []), (11, .pv (.sl es) []), (12, .pv (i64 n) []), (13, .pv (i64 i) [])]) (fun _ => [(3, some (.cell [.pv (i64 qx) [], .pv (i64 qy) []]))]) (0, 0, 0) ⟨rfl, ⟨rfl, rfl, rfl, rfl, rfl, rfl, rfl, trivial⟩, rfl, trivial⟩ ⟨by omega, by omega, by omega, by omega, by omega, by omega, rfl, rfl⟩ ?_
  intro ⟨i, m, c⟩ s f ⟨h1, h2, h3, h4, h3', h4', h5, h6⟩
  cbv
  refine Ar.lss_ hA (fun h => ?_) (fun h => ?_)
  · cbv
    refine Ar.nn_ hA (by omega) ?_
    cbv
    refine Ar.toN_ hA (fun j hj => ?_)
    cbv
    obtain ⟨⟨px, py⟩, hp⟩ : ∃ p, l[j]? = some p := ⟨l[j]'(by omega), List.getElem?_eq_getElem _⟩
    refine Ar.idx_ hA (x := pt px py) (by simp [hes, hp, P2.pv]) ?_
    cbv
    have bp := ok_bounds hok hp
    have bn := nx_bounds hok h0 i.toNat
    refine Ar.callI hA c_impl_after (d_impl_after hes (by omega) h0 (by omega)) rfl (fun r hr => ?_)
    obtain ⟨hr1, hr2, hr3⟩ := after_idx h0 h1 hr
    obtain ⟨nxx, nxy, hn0⟩ : ∃ x y, nx l i.toNat = ⟨x, y⟩ := ⟨_, _, rfl⟩
    rw [hn0] at bn hr3
    simp only at bn
    have hTj : turnE l qx qy j = turnV py nxy qy (sgn (cross ⟨px, py⟩ ⟨nxx, nxy⟩ ⟨qx, qy⟩)) := by unfold turnE; rw [at0_of hp, hj, hn0]
    have do_ := d_impl_orient bp bn hq
    have bo := sgn_range (cross ⟨px, py⟩ ⟨nxx, nxy⟩ ⟨qx, qy⟩)
    generalize sgn (cross ⟨px, py⟩ ⟨nxx, nxy⟩ ⟨qx, qy⟩) = o at do_ hTj bo
    cbv
    refine Ar.nn_ hA hr1 ?_
    cbv
    refine Ar.toN_ hA (fun j2 hj2 => ?_)
    cbv
    refine Ar.idx_ hA (x := pt nxx nxy) (by rw [hj2, hes]; simp [hr3, P2.pv]) ?_
    cbv
    have hFj : F j = turnV py nxy qy o := by rw [hF, ← hTj]
    have hGj : G j = turnC (turnV py nxy qy o) := by rw [hG, ← hTj]
    clear hTj
    repeat' (first
      | (refine Ar.leq_ hA (fun _ => ?_) (fun _ => ?_) <;> cbv)
      | (refine Ar.gtr_ hA (fun _ => ?_) (fun _ => ?_) <;> cbv)
      | (refine Ar.eql_ hA (fun _ => ?_) (fun _ => ?_) <;> cbv)
      | (refine Ar.add_ hA (by omega) (fun _ _ => ?_); cbv)
      | (refine Ar.sub_ hA (by omega) (fun _ _ => ?_); cbv)
      | (refine Ar.call_ hA c_impl_orient do_ rfl ?_; cbv))
    all_goals
      refine ⟨(_, _, _), ?_, ⟨?_, ?_, ?_, ?_, ?_, ?_, sumTo_next h5 (k := _) ?_ ?_, sumTo_next h6 (k := _) ?_ ?_⟩, rfl, ⟨rfl, rfl, rfl, rfl, rfl, rfl, rfl, trivial⟩, rfl, trivial⟩
      all_goals first | (simp only; omega) | omega | (rw [← hj, hFj]; unfold turnV; (repeat' split) <;> simp_all <;> omega) | (rw [← hj, hGj]; unfold turnV turnC; (repeat' split) <;> simp_all <;> omega)
  · cbv
    exact hK _ _ (by rw [h5, h6, show i.toNat = l.length by omega]) rfl

end Go.VAI
