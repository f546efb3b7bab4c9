/- BoxOf, MovePts: what their functions do. -/
import Derived.Test.YtekmnlagkoelcaaG
namespace Go.VAI
open Go.Proofs
set_option maxRecDepth 100000
set_option maxHeartbeats 8000000

/-! BoxOf -/

/-- Keeps a statement yet unknown from the eyes of omega. -/
structure Hold (p : Prop) : Prop where
  it : p

theorem share {p X : Prop} (h : p) (k : Hold p → X) : X := k ⟨h⟩

def hd0 (l : List P2) : P2 := l.headD ⟨0, 0⟩
def minX (l : List P2) : Int := l.foldl (fun m a => min m a.x) (hd0 l).x
def minY (l : List P2) : Int := l.foldl (fun m a => min m a.y) (hd0 l).y
def maxX (l : List P2) : Int := l.foldl (fun m a => max m a.x) (hd0 l).x
def maxY (l : List P2) : Int := l.foldl (fun m a => max m a.y) (hd0 l).y

theorem hd0_get {l : List P2} (h : 0 < l.length) : ∃ x y, l[0]? = some ⟨x, y⟩ ∧ hd0 l = ⟨x, y⟩ := by
  cases l with
  | nil => simp at h
  | cons p l => exact ⟨p.x, p.y, rfl, rfl⟩

theorem c_impl_boxOf : Callable Try.prog 49 := ⟨_, Try.func49, rfl, by kernel_rfl⟩
theorem d_impl_boxOf {es : List PV} {l : List P2} (hes : es = l.map P2.pv) (h0 : 0 < l.length) (hb : l.length ≤ 12) (hok : ∀ p ∈ l, p.ok = true) : Does Try.prog 49 [.sl es] (.tup [.ag [.pv (i64 (minX l)), .pv (i64 (minY l))], .ag [.pv (i64 (maxX l)), .pv (i64 (maxY l))]]) [] := by
  refine does_of hT hM Try.func49 rfl (D := [(1, [0, 1, 2, 6, 7]), (8, [0])]) (by kernel_rfl) rfl rfl rfl (fun A K hA hK => ?_)
  have hlen : es.length = l.length := by simp [hes]
  obtain ⟨hx, hy, hg0, hh⟩ := hd0_get h0
  unfold minX minY maxX maxY at hK
  rw [hh] at hK
  have bh := ok_bounds hok hg0
  obtain ⟨n, hn, hn'⟩ : ∃ n : Int, 0 ≤ n ∧ n.toNat = es.length := ⟨(es.length : Int), by omega, by omega⟩
  apply share
  case k =>
    intro hB
    cbv
    refine Ar.nn_ hA (by omega) ?_
    cbv
    refine Ar.toN_ hA (fun j0 hj0 => ?_)
    cbv
    refine Ar.idx_ hA (x := pt hx hy) (by rw [hj0, hes]; simp [hg0, P2.pv]) ?_
    cbv
    repeat' apply And.intro
    all_goals
      refine Ar.nn_ hA (by omega) ?_
      cbv
      refine Ar.toN_ hA (fun j1 hj1 => ?_)
      cbv
      refine Ar.idx_ hA (x := pt hx hy) (by rw [hj1, hes]; simp [hg0, P2.pv]) ?_
      cbv
      repeat' apply And.intro
      all_goals
        refine Ar.len_ hA (fun n' h1 h2 => ?_)
        obtain rfl : n = n' := by omega
        cbv
        exact Ar.loop_ hA (α := Int × Int × Int × Int × Int) (fun x => (n - x.1).toNat) (fun (i, a, b, c, d) => 0 ≤ i ∧ i ≤ n ∧ a = (l.take i.toNat).foldl (fun m a => min m a.x) hx ∧ b = (l.take i.toNat).foldl (fun m a => min m a.y) hy ∧ c = (l.take i.toNat).foldl (fun m a => max m a.x) hx ∧ d = (l.take i.toNat).foldl (fun m a => max m a.y) hy) 45 (fun (i, a, b, c, d) => [(0, .pv (.sl es) []), (2, .ref 2 0), (3, .ref 3 0), (4, .ref 4 0), (5, .ref 5 0), (14, .pv (.sl es) []), (15, .pv (i64 n) []), (16, .pv (i64 i) [])]) (fun (i, a, b, c, d) => [(2, some (.cell [.pv (i64 0) [], .pv (i64 0) []])), (3, some (.cell [.pv (i64 0) [], .pv (i64 0) []])), (4, some (.cell [.pv (i64 a) [], .pv (i64 b) []])), (5, some (.cell [.pv (i64 c) [], .pv (i64 d) []]))]) (0, hx, hy, hx, hy) ⟨rfl, ⟨rfl, rfl, rfl, rfl, rfl, rfl, rfl, rfl, trivial⟩, rfl, rfl, rfl, rfl, trivial⟩ ⟨by omega, by omega, rfl, rfl, rfl, rfl⟩ hB.it
  intro ⟨i, a, b, c, d⟩ s f ⟨h1, h2, h3, h4, h5, h6⟩
  cbv
  refine Ar.lss_ hA (fun h => ?_) (fun h => ?_)
  · cbv
    refine Ar.nn_ hA (by omega) ?_
    cbv
    refine Ar.toN_ hA (fun j hj => ?_)
    cbv
    obtain ⟨⟨px, py⟩, hp⟩ : ∃ p, l[j]? = some p := ⟨l[j]'(by omega), List.getElem?_eq_getElem _⟩
    refine Ar.idx_ hA (x := pt px py) (by simp [hes, hp, P2.pv]) ?_
    cbv
    have bp := ok_bounds hok hp
    have k1 := foldl_take (fun (m : Int) (a : P2) => min m a.x) hx hp
    have k2 := foldl_take (fun (m : Int) (a : P2) => min m a.y) hy hp
    have k3 := foldl_take (fun (m : Int) (a : P2) => max m a.x) hx hp
    have k4 := foldl_take (fun (m : Int) (a : P2) => max m a.y) hy hp
    repeat' (first
      | (refine Ar.nn_ hA (by omega) ?_; cbv)
      | (refine Ar.toN_ hA (fun _ _ => ?_); cbv)
      | (refine Ar.notT_ hA ?_; cbv)
      | (refine Ar.notF_ hA ?_; cbv)
      | (refine Ar.lss_ hA (fun _ => ?_) (fun _ => ?_) <;> cbv)
      | (refine Ar.leq_ hA (fun _ => ?_) (fun _ => ?_) <;> cbv)
      | (refine Ar.gtr_ hA (fun _ => ?_) (fun _ => ?_) <;> cbv)
      | (refine Ar.geq_ hA (fun _ => ?_) (fun _ => ?_) <;> cbv)
      | (refine Ar.eql_ hA (fun _ => ?_) (fun _ => ?_) <;> cbv)
      | (refine Ar.neq_ hA (fun _ => ?_) (fun _ => ?_) <;> cbv)
      | (refine Ar.add_ hA (by omega) (fun _ _ => ?_); cbv)
      | (refine Ar.sub_ hA (by omega) (fun _ _ => ?_); cbv)
      | (refine Ar.neg_ hA (by omega) (fun _ _ => ?_); cbv)
      | (refine Ar.mulB hA 2000 2000 (by omega) (by omega) (by omega) (fun _ _ _ _ => ?_); cbv)
      | (refine Ar.mulB hA 3000000000 3000000000 (by omega) (by omega) (by omega) (fun _ _ _ _ => ?_); cbv)
      | (refine Ar.nz_ hA (by omega) ?_; cbv)
      | (refine Ar.rem_ hA (by omega) (fun _ _ => ?_); cbv)
      | (refine Ar.quo_ hA (by omega) (fun _ _ => ?_); cbv)
      | (refine Ar.mx_ hA (fun _ _ => ?_); cbv)
      | (refine Ar.mn_ hA (fun _ _ => ?_); cbv)
      | (refine Ar.len_ hA (fun _ _ _ => ?_); cbv)
      | (refine Ar.lenN_ hA (fun _ _ => ?_); cbv)
      | (refine Ar.bneq_ hA (fun _ => ?_) (fun _ => ?_) <;> cbv)
      | (refine Ar.beq_ hA (fun _ => ?_) (fun _ => ?_) <;> cbv)
      | (refine Ar.ofN_ hA (fun _ _ _ => ?_); cbv)
)
    rename_i i' hi'
    refine ⟨(i', _, _, _, _), (by show (n - i').toNat < (n - i).toNat; omega), ⟨by omega, by omega, ?_, ?_, ?_, ?_⟩, rfl, ⟨rfl, rfl, rfl, rfl, rfl, rfl, rfl, rfl, trivial⟩, rfl, rfl, rfl, rfl, trivial⟩
    · rw [show i'.toNat = j + 1 by omega, k1, hj, ← h3]; assumption
    · rw [show i'.toNat = j + 1 by omega, k2, hj, ← h4]; assumption
    · rw [show i'.toNat = j + 1 by omega, k3, hj, ← h5]; assumption
    · rw [show i'.toNat = j + 1 by omega, k4, hj, ← h6]; assumption
  · rw [List.take_of_length_le (by omega)] at h3 h4 h5 h6
    cbv
    repeat' apply And.intro
    all_goals exact hK _ _ (by rw [h3, h4, h5, h6]) rfl

theorem c_spec_l9Box : Callable Try.prog 47 := ⟨_, Try.func47, rfl, by kernel_rfl⟩
theorem d_spec_l9Box {es : List PV} {l : List P2} (hes : es = l.map P2.pv) (h0 : 0 < l.length) (hb : l.length ≤ 12) (hok : ∀ p ∈ l, p.ok = true) : Does Try.prog 47 [.sl es] (.tup [.ag [.pv (i64 (minX l)), .pv (i64 (minY l))], .ag [.pv (i64 (maxX l)), .pv (i64 (maxY l))]]) [] := by
  refine does_of hT hM Try.func47 rfl (D := [(15, [0])]) (by kernel_rfl) rfl rfl rfl (fun A K hA hK => ?_)
  have hlen : es.length = l.length := by simp [hes]
  obtain ⟨hx, hy, hg0, hh⟩ := hd0_get h0
  unfold minX minY maxX maxY at hK
  rw [hh] at hK
  have bh := ok_bounds hok hg0
  cbv
  refine Ar.nn_ hA (by omega) ?_
  cbv
  refine Ar.toN_ hA (fun j0 hj0 => ?_)
  cbv
  refine Ar.idx_ hA (x := pt hx hy) (by rw [hj0, hes]; simp [hg0, P2.pv]) ?_
  cbv
  refine Ar.nn_ hA (by omega) ?_
  cbv
  refine Ar.toN_ hA (fun j1 hj1 => ?_)
  cbv
  refine Ar.idx_ hA (x := pt hx hy) (by rw [hj1, hes]; simp [hg0, P2.pv]) ?_
  cbv
  refine Ar.len_ hA (fun n hn hn' => ?_)
  cbv
  refine Ar.loop_ hA (α := Int × Int × Int × Int × Int) (fun x => (n - x.1).toNat) (fun (i, a, b, c, d) => 0 ≤ i ∧ i ≤ n ∧ a = (l.take i.toNat).foldl (fun m a => min m a.x) hx ∧ b = (l.take i.toNat).foldl (fun m a => min m a.y) hy ∧ c = (l.take i.toNat).foldl (fun m a => max m a.x) hx ∧ d = (l.take i.toNat).foldl (fun m a => max m a.y) hy) 55 (fun (i, a, b, c, d) => [(0, .pv (.sl es) []), (2, .ref 2 0), (3, .ref 3 0), (4, .ref 4 0), (5, .ref 5 0), (14, .pv (.sl es) []), (15, .pv (i64 n) []), (16, .pv (i64 i) [])]) (fun (i, a, b, c, d) => [(2, some (.cell [.pv (i64 0) [], .pv (i64 0) []])), (3, some (.cell [.pv (i64 0) [], .pv (i64 0) []])), (4, some (.cell [.pv (i64 a) [], .pv (i64 b) []])), (5, some (.cell [.pv (i64 c) [], .pv (i64 d) []]))]) (0, hx, hy, hx, hy) ⟨rfl, ⟨rfl, rfl, rfl, rfl, rfl, rfl, rfl, rfl, trivial⟩, rfl, rfl, rfl, rfl, trivial⟩ ⟨by omega, by omega, rfl, rfl, rfl, rfl⟩ ?_
  intro ⟨i, a, b, c, d⟩ s f ⟨h1, h2, h3, h4, h5, h6⟩
  cbv
  refine Ar.lss_ hA (fun h => ?_) (fun h => ?_)
  · cbv
    refine Ar.nn_ hA (by omega) ?_
    cbv
    refine Ar.toN_ hA (fun j hj => ?_)
    cbv
    obtain ⟨⟨px, py⟩, hp⟩ : ∃ p, l[j]? = some p := ⟨l[j]'(by omega), List.getElem?_eq_getElem _⟩
    refine Ar.idx_ hA (x := pt px py) (by simp [hes, hp, P2.pv]) ?_
    cbv
    have bp := ok_bounds hok hp
    have k1 := foldl_take (fun (m : Int) (a : P2) => min m a.x) hx hp
    have k2 := foldl_take (fun (m : Int) (a : P2) => min m a.y) hy hp
    have k3 := foldl_take (fun (m : Int) (a : P2) => max m a.x) hx hp
    have k4 := foldl_take (fun (m : Int) (a : P2) => max m a.y) hy hp
    rw [hj, ← h3] at k1
    rw [hj, ← h4] at k2
    rw [hj, ← h5] at k3
    rw [hj, ← h6] at k4
    rw [← hj] at k1 k2 k3 k4
    simp only at k1 k2 k3 k4
    repeat' (first
      | (refine Ar.nn_ hA (by omega) ?_; cbv)
      | (refine Ar.toN_ hA (fun _ _ => ?_); cbv)
      | (refine Ar.notT_ hA ?_; cbv)
      | (refine Ar.notF_ hA ?_; cbv)
      | (refine Ar.lss_ hA (fun _ => ?_) (fun _ => ?_) <;> cbv)
      | (refine Ar.leq_ hA (fun _ => ?_) (fun _ => ?_) <;> cbv)
      | (refine Ar.gtr_ hA (fun _ => ?_) (fun _ => ?_) <;> cbv)
      | (refine Ar.geq_ hA (fun _ => ?_) (fun _ => ?_) <;> cbv)
      | (refine Ar.eql_ hA (fun _ => ?_) (fun _ => ?_) <;> cbv)
      | (refine Ar.neq_ hA (fun _ => ?_) (fun _ => ?_) <;> cbv)
      | (refine Ar.add_ hA (by omega) (fun _ _ => ?_); cbv)
      | (refine Ar.sub_ hA (by omega) (fun _ _ => ?_); cbv)
      | (refine Ar.neg_ hA (by omega) (fun _ _ => ?_); cbv)
      | (refine Ar.mulB hA 2000 2000 (by omega) (by omega) (by omega) (fun _ _ _ _ => ?_); cbv)
      | (refine Ar.mulB hA 3000000000 3000000000 (by omega) (by omega) (by omega) (fun _ _ _ _ => ?_); cbv)
      | (refine Ar.nz_ hA (by omega) ?_; cbv)
      | (refine Ar.rem_ hA (by omega) (fun _ _ => ?_); cbv)
      | (refine Ar.quo_ hA (by omega) (fun _ _ => ?_); cbv)
      | (refine Ar.mx_ hA (fun _ _ => ?_); cbv)
      | (refine Ar.mn_ hA (fun _ _ => ?_); cbv)
      | (refine Ar.len_ hA (fun _ _ _ => ?_); cbv)
      | (refine Ar.lenN_ hA (fun _ _ => ?_); cbv)
      | (refine Ar.bneq_ hA (fun _ => ?_) (fun _ => ?_) <;> cbv)
      | (refine Ar.beq_ hA (fun _ => ?_) (fun _ => ?_) <;> cbv)
      | (refine Ar.ofN_ hA (fun _ _ _ => ?_); cbv)
)
    all_goals rename_i i' hi'
    all_goals refine ⟨(i', _, _, _, _), (by show (n - i').toNat < (n - i).toNat; omega), ⟨by omega, by omega, ?_, ?_, ?_, ?_⟩, rfl, ⟨rfl, rfl, rfl, rfl, rfl, rfl, rfl, rfl, trivial⟩, rfl, rfl, rfl, rfl, trivial⟩
    all_goals (rw [show i'.toNat = j + 1 by omega]; first | (rw [k1]; omega) | (rw [k2]; omega) | (rw [k3]; omega) | (rw [k4]; omega))
  · rw [List.take_of_length_le (by omega)] at h3 h4 h5 h6
    cbv
    repeat' apply And.intro
    all_goals exact hK _ _ (by rw [h3, h4, h5, h6]) rfl

def box4 (l : List P2) : Int × Int × Int × Int := if isWayF l then (minX l, minY l, maxX l, maxY l) else (0, 0, 0, 0)

theorem c_impl_BoxOf : Callable Try.prog 18 := ⟨_, Try.func18, rfl, by kernel_rfl⟩
theorem d_impl_BoxOf {es : List PV} {l : List P2} (hes : es = l.map P2.pv) (hb : l.length ≤ 1048576) : Does Try.prog 18 [.sl es] (.tup [.ag [.pv (i64 (box4 l).1), .pv (i64 (box4 l).2.1)], .ag [.pv (i64 (box4 l).2.2.1), .pv (i64 (box4 l).2.2.2)], .pv (bl (isWayF l))]) [] := by
  refine does_of hT hM Try.func18 rfl (D := [(4, [0])]) (by kernel_rfl) rfl rfl rfl (fun A K hA hK => ?_)
  cbv
  refine Ar.callT hA c_impl_isWay (d_impl_isWay hes hb) rfl (fun hc => ?_) (fun hc => ?_)
  · obtain ⟨c1, c2, hok⟩ := isWayF_iff.1 hc
    obtain ⟨a, ha⟩ : ∃ a, a = minX l := ⟨_, rfl⟩
    obtain ⟨b, hb⟩ : ∃ a, a = minY l := ⟨_, rfl⟩
    obtain ⟨c, hc'⟩ : ∃ a, a = maxX l := ⟨_, rfl⟩
    obtain ⟨d, hd⟩ : ∃ a, a = maxY l := ⟨_, rfl⟩
    have hd4 := d_impl_boxOf hes (by omega) c2 hok
    rw [← ha, ← hb, ← hc', ← hd] at hd4
    cbv
    repeat' (first
      | (refine Ar.nn_ hA (by omega) ?_; cbv)
      | (refine Ar.toN_ hA (fun _ _ => ?_); cbv)
      | (refine Ar.notT_ hA ?_; cbv)
      | (refine Ar.notF_ hA ?_; cbv)
      | (refine Ar.lss_ hA (fun _ => ?_) (fun _ => ?_) <;> cbv)
      | (refine Ar.leq_ hA (fun _ => ?_) (fun _ => ?_) <;> cbv)
      | (refine Ar.gtr_ hA (fun _ => ?_) (fun _ => ?_) <;> cbv)
      | (refine Ar.geq_ hA (fun _ => ?_) (fun _ => ?_) <;> cbv)
      | (refine Ar.eql_ hA (fun _ => ?_) (fun _ => ?_) <;> cbv)
      | (refine Ar.neq_ hA (fun _ => ?_) (fun _ => ?_) <;> cbv)
      | (refine Ar.add_ hA (by omega) (fun _ _ => ?_); cbv)
      | (refine Ar.sub_ hA (by omega) (fun _ _ => ?_); cbv)
      | (refine Ar.neg_ hA (by omega) (fun _ _ => ?_); cbv)
      | (refine Ar.mulB hA 2000 2000 (by omega) (by omega) (by omega) (fun _ _ _ _ => ?_); cbv)
      | (refine Ar.mulB hA 3000000000 3000000000 (by omega) (by omega) (by omega) (fun _ _ _ _ => ?_); cbv)
      | (refine Ar.nz_ hA (by omega) ?_; cbv)
      | (refine Ar.rem_ hA (by omega) (fun _ _ => ?_); cbv)
      | (refine Ar.quo_ hA (by omega) (fun _ _ => ?_); cbv)
      | (refine Ar.mx_ hA (fun _ _ => ?_); cbv)
      | (refine Ar.mn_ hA (fun _ _ => ?_); cbv)
      | (refine Ar.len_ hA (fun _ _ _ => ?_); cbv)
      | (refine Ar.lenN_ hA (fun _ _ => ?_); cbv)
      | (refine Ar.bneq_ hA (fun _ => ?_) (fun _ => ?_) <;> cbv)
      | (refine Ar.beq_ hA (fun _ => ?_) (fun _ => ?_) <;> cbv)
      | (refine Ar.ofN_ hA (fun _ _ _ => ?_); cbv)
)
    refine Ar.call_ hA c_impl_boxOf hd4 rfl ?_
    cbv
    repeat' apply And.intro
    all_goals exact hK _ _ (by rw [hc, box4, hc, ha, hb, hc', hd]; rfl) rfl
  · cbv
    repeat' (first
      | (refine Ar.nn_ hA (by omega) ?_; cbv)
      | (refine Ar.toN_ hA (fun _ _ => ?_); cbv)
      | (refine Ar.notT_ hA ?_; cbv)
      | (refine Ar.notF_ hA ?_; cbv)
      | (refine Ar.lss_ hA (fun _ => ?_) (fun _ => ?_) <;> cbv)
      | (refine Ar.leq_ hA (fun _ => ?_) (fun _ => ?_) <;> cbv)
      | (refine Ar.gtr_ hA (fun _ => ?_) (fun _ => ?_) <;> cbv)
      | (refine Ar.geq_ hA (fun _ => ?_) (fun _ => ?_) <;> cbv)
      | (refine Ar.eql_ hA (fun _ => ?_) (fun _ => ?_) <;> cbv)
      | (refine Ar.neq_ hA (fun _ => ?_) (fun _ => ?_) <;> cbv)
      | (refine Ar.add_ hA (by omega) (fun _ _ => ?_); cbv)
      | (refine Ar.sub_ hA (by omega) (fun _ _ => ?_); cbv)
      | (refine Ar.neg_ hA (by omega) (fun _ _ => ?_); cbv)
      | (refine Ar.mulB hA 2000 2000 (by omega) (by omega) (by omega) (fun _ _ _ _ => ?_); cbv)
      | (refine Ar.mulB hA 3000000000 3000000000 (by omega) (by omega) (by omega) (fun _ _ _ _ => ?_); cbv)
      | (refine Ar.nz_ hA (by omega) ?_; cbv)
      | (refine Ar.rem_ hA (by omega) (fun _ _ => ?_); cbv)
      | (refine Ar.quo_ hA (by omega) (fun _ _ => ?_); cbv)
      | (refine Ar.mx_ hA (fun _ _ => ?_); cbv)
      | (refine Ar.mn_ hA (fun _ _ => ?_); cbv)
      | (refine Ar.len_ hA (fun _ _ _ => ?_); cbv)
      | (refine Ar.lenN_ hA (fun _ _ => ?_); cbv)
      | (refine Ar.bneq_ hA (fun _ => ?_) (fun _ => ?_) <;> cbv)
      | (refine Ar.beq_ hA (fun _ => ?_) (fun _ => ?_) <;> cbv)
      | (refine Ar.ofN_ hA (fun _ _ _ => ?_); cbv)
)
    exact hK _ _ (by rw [hc, box4, hc]; rfl) rfl

theorem c_spec_BoxOf : Callable Try.prog 16 := ⟨_, Try.func16, rfl, by kernel_rfl⟩
theorem d_spec_BoxOf {es : List PV} {l : List P2} (hes : es = l.map P2.pv) (hb : l.length ≤ 1048576) : Does Try.prog 16 [.sl es] (.tup [.ag [.pv (i64 (box4 l).1), .pv (i64 (box4 l).2.1)], .ag [.pv (i64 (box4 l).2.2.1), .pv (i64 (box4 l).2.2.2)], .pv (bl (isWayF l))]) [] := by
  refine does_of hT hM Try.func16 rfl (D := [(4, [0])]) (by kernel_rfl) rfl rfl rfl (fun A K hA hK => ?_)
  cbv
  refine Ar.callT hA c_spec_l8Way (d_spec_l8Way hes hb) rfl (fun hc => ?_) (fun hc => ?_)
  · obtain ⟨c1, c2, hok⟩ := isWayF_iff.1 hc
    obtain ⟨a, ha⟩ : ∃ a, a = minX l := ⟨_, rfl⟩
    obtain ⟨b, hb⟩ : ∃ a, a = minY l := ⟨_, rfl⟩
    obtain ⟨c, hc'⟩ : ∃ a, a = maxX l := ⟨_, rfl⟩
    obtain ⟨d, hd⟩ : ∃ a, a = maxY l := ⟨_, rfl⟩
    have hd4 := d_spec_l9Box hes (by omega) c2 hok
    rw [← ha, ← hb, ← hc', ← hd] at hd4
    cbv
    repeat' (first
      | (refine Ar.nn_ hA (by omega) ?_; cbv)
      | (refine Ar.toN_ hA (fun _ _ => ?_); cbv)
      | (refine Ar.notT_ hA ?_; cbv)
      | (refine Ar.notF_ hA ?_; cbv)
      | (refine Ar.lss_ hA (fun _ => ?_) (fun _ => ?_) <;> cbv)
      | (refine Ar.leq_ hA (fun _ => ?_) (fun _ => ?_) <;> cbv)
      | (refine Ar.gtr_ hA (fun _ => ?_) (fun _ => ?_) <;> cbv)
      | (refine Ar.geq_ hA (fun _ => ?_) (fun _ => ?_) <;> cbv)
      | (refine Ar.eql_ hA (fun _ => ?_) (fun _ => ?_) <;> cbv)
      | (refine Ar.neq_ hA (fun _ => ?_) (fun _ => ?_) <;> cbv)
      | (refine Ar.add_ hA (by omega) (fun _ _ => ?_); cbv)
      | (refine Ar.sub_ hA (by omega) (fun _ _ => ?_); cbv)
      | (refine Ar.neg_ hA (by omega) (fun _ _ => ?_); cbv)
      | (refine Ar.mulB hA 2000 2000 (by omega) (by omega) (by omega) (fun _ _ _ _ => ?_); cbv)
      | (refine Ar.mulB hA 3000000000 3000000000 (by omega) (by omega) (by omega) (fun _ _ _ _ => ?_); cbv)
      | (refine Ar.nz_ hA (by omega) ?_; cbv)
      | (refine Ar.rem_ hA (by omega) (fun _ _ => ?_); cbv)
      | (refine Ar.quo_ hA (by omega) (fun _ _ => ?_); cbv)
      | (refine Ar.mx_ hA (fun _ _ => ?_); cbv)
      | (refine Ar.mn_ hA (fun _ _ => ?_); cbv)
      | (refine Ar.len_ hA (fun _ _ _ => ?_); cbv)
      | (refine Ar.lenN_ hA (fun _ _ => ?_); cbv)
      | (refine Ar.bneq_ hA (fun _ => ?_) (fun _ => ?_) <;> cbv)
      | (refine Ar.beq_ hA (fun _ => ?_) (fun _ => ?_) <;> cbv)
      | (refine Ar.ofN_ hA (fun _ _ _ => ?_); cbv)
)
    refine Ar.call_ hA c_spec_l9Box hd4 rfl ?_
    cbv
    repeat' apply And.intro
    all_goals exact hK _ _ (by rw [hc, box4, hc, ha, hb, hc', hd]; rfl) rfl
  · cbv
    repeat' (first
      | (refine Ar.nn_ hA (by omega) ?_; cbv)
      | (refine Ar.toN_ hA (fun _ _ => ?_); cbv)
      | (refine Ar.notT_ hA ?_; cbv)
      | (refine Ar.notF_ hA ?_; cbv)
      | (refine Ar.lss_ hA (fun _ => ?_) (fun _ => ?_) <;> cbv)
      | (refine Ar.leq_ hA (fun _ => ?_) (fun _ => ?_) <;> cbv)
      | (refine Ar.gtr_ hA (fun _ => ?_) (fun _ => ?_) <;> cbv)
      | (refine Ar.geq_ hA (fun _ => ?_) (fun _ => ?_) <;> cbv)
      | (refine Ar.eql_ hA (fun _ => ?_) (fun _ => ?_) <;> cbv)
      | (refine Ar.neq_ hA (fun _ => ?_) (fun _ => ?_) <;> cbv)
      | (refine Ar.add_ hA (by omega) (fun _ _ => ?_); cbv)
      | (refine Ar.sub_ hA (by omega) (fun _ _ => ?_); cbv)
      | (refine Ar.neg_ hA (by omega) (fun _ _ => ?_); cbv)
      | (refine Ar.mulB hA 2000 2000 (by omega) (by omega) (by omega) (fun _ _ _ _ => ?_); cbv)
      | (refine Ar.mulB hA 3000000000 3000000000 (by omega) (by omega) (by omega) (fun _ _ _ _ => ?_); cbv)
      | (refine Ar.nz_ hA (by omega) ?_; cbv)
      | (refine Ar.rem_ hA (by omega) (fun _ _ => ?_); cbv)
      | (refine Ar.quo_ hA (by omega) (fun _ _ => ?_); cbv)
      | (refine Ar.mx_ hA (fun _ _ => ?_); cbv)
      | (refine Ar.mn_ hA (fun _ _ => ?_); cbv)
      | (refine Ar.len_ hA (fun _ _ _ => ?_); cbv)
      | (refine Ar.lenN_ hA (fun _ _ => ?_); cbv)
      | (refine Ar.bneq_ hA (fun _ => ?_) (fun _ => ?_) <;> cbv)
      | (refine Ar.beq_ hA (fun _ => ?_) (fun _ => ?_) <;> cbv)
      | (refine Ar.ofN_ hA (fun _ _ _ => ?_); cbv)
)
    exact hK _ _ (by rw [hc, box4, hc]; rfl) rfl

theorem c_laws_FnExactBoxOf : Callable Try.prog 3 := ⟨_, Try.func3, rfl, by kernel_rfl⟩
theorem d_laws_FnExactBoxOf {es : List PV} {l : List P2} (hes : es = l.map P2.pv ∧ l.length ≤ 9223372036854775807) : Does Try.prog 3 [.sl es] (.pv (bl true)) [] := by
  refine does_of hT hM Try.func3 rfl (D := []) (by kernel_rfl) rfl rfl rfl (fun A K hA hK => ?_)
  obtain ⟨hes, hmax⟩ := hes
  have hlen : es.length = l.length := by simp [hes]
  have dS := fun (hb : l.length ≤ 1048576) => d_spec_BoxOf hes hb
  have dI := fun (hb : l.length ≤ 1048576) => d_impl_BoxOf hes hb
  generalize (box4 l).1 = a, (box4 l).2.1 = b, (box4 l).2.2.1 = c, (box4 l).2.2.2 = d, isWayF l = ok at dS dI
  have e1 : ∀ x y, Does Try.prog 19 [pt x y, pt x y] (.pv (bl true)) [] := fun x y => by
    have := d_laws_eqPt (ax := x) (ay := y) (bx := x) (b_y := y)
    rwa [decide_eq_true rfl] at this
  have e2 := fun (hb : l.length ≤ 1048576) => d_laws_eqPtS hes hes hb
  simp only [decide_eq_true rfl] at e2
  cbv
  refine Ar.callI hA c_laws_szPtS (d_laws_szPtS (by omega) (by omega)) rfl (fun r hr => ?_)
  cbv
  refine Ar.lss_ hA (fun h => ?_) (fun h => ?_)
  · cbv
    exact hK _ _ rfl rfl
  have hb : l.length ≤ 1048576 := by have := szF_le hr h; omega
  have dS := dS hb
  have dI := dI hb
  have e2 := e2 hb
  cbv
  repeat' (first
    | (refine Ar.call_ hA c_laws_toPtS (d_laws_toPtS hes hb) rfl ?_; cbv)
    | (refine Ar.call_ hA c_spec_BoxOf dS rfl ?_; cbv)
    | (refine Ar.call_ hA c_impl_BoxOf dI rfl ?_; cbv)
    | (refine Ar.call_ hA c_laws_eqPt (e1 _ _) rfl ?_; cbv)
    | (refine Ar.call_ hA c_laws_eqPtS e2 rfl ?_; cbv)
    | (refine Ar.notT_ hA ?_; cbv)
    | (refine Ar.bneq_ hA (fun h => absurd rfl h) (fun _ => ?_); cbv))
  exact hK _ _ rfl rfl

end Go.VAI
