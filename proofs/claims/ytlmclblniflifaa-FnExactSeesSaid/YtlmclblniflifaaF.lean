/- WidestIn, AreaTwice, Sees, and the laws. -/
import Derived.Test.YtlmclblniflifaaE
namespace Go.VAI
open Go.Proofs
set_option maxRecDepth 100000

/-! WidestIn -/

theorem ok_bounds {l : List P2} (h : ∀ p ∈ l, p.ok = true) {j : Nat} {x y : Int} (hp : l[j]? = some ⟨x, y⟩) : -1000 ≤ x ∧ x ≤ 1000 ∧ -1000 ≤ y ∧ y ≤ 1000 := P2.ok_iff.1 (h _ (List.mem_of_getElem? hp))

def widestR (l : List P2) : Int := if isCloudF l then widest l else 0

theorem c_impl_WidestIn : Callable Try.prog 36 := ⟨_, Try.func36, rfl, by kernel_rfl⟩
theorem d_impl_WidestIn {es : List PV} {l : List P2} (hes : es = l.map P2.pv) (hb : l.length ≤ 1048576) : Does Try.prog 36 [.sl es] (.tup [.pv (i64 (widestR l)), .pv (bl (isCloudF l))]) [] := by
  refine does_of hT hM Try.func36 rfl (by kernel_rfl) rfl rfl rfl (fun A K hA hK => ?_)
  have hlen : es.length = l.length := by simp [hes]
  cbv
  refine Ar.callT hA c_impl_isCloud (d_impl_isCloud hes hb) rfl (fun hc => ?_) (fun hc => ?_)
  rotate_left
  · cbv
    repeat' (first
      | (refine Ar.nn_ hA (by omega) ?_; cbv)
      | (refine Ar.toN_ hA (fun _ _ => ?_); cbv)
      | (refine Ar.notT_ hA ?_; cbv)
      | (refine Ar.notF_ hA ?_; cbv)
      | (refine Ar.lss_ hA (fun _ => ?_) (fun _ => ?_) <;> cbv)
      | (refine Ar.leq_ hA (fun _ => ?_) (fun _ => ?_) <;> cbv)
      | (refine Ar.gtr_ hA (fun _ => ?_) (fun _ => ?_) <;> cbv)
      | (refine Ar.geq_ hA (fun _ => ?_) (fun _ => ?_) <;> cbv)
      | (refine Ar.eql_ hA (fun _ => ?_) (fun _ => ?_) <;> cbv)
      | (refine Ar.neq_ hA (fun _ => ?_) (fun _ => ?_) <;> cbv)
      | (refine Ar.add_ hA (by omega) (fun _ _ => ?_); cbv)
      | (refine Ar.sub_ hA (by omega) (fun _ _ => ?_); cbv)
      | (refine Ar.neg_ hA (by omega) (fun _ _ => ?_); cbv)
      | (refine Ar.mulB hA 2000 2000 (by omega) (by omega) (by omega) (fun _ _ _ _ => ?_); cbv)
      | (refine Ar.mulB hA 3000000000 3000000000 (by omega) (by omega) (by omega) (fun _ _ _ _ => ?_); cbv)
      | (refine Ar.nz_ hA (by omega) ?_; cbv)
      | (refine Ar.rem_ hA (by omega) (fun _ _ => ?_); cbv)
      | (refine Ar.quo_ hA (by omega) (fun _ _ => ?_); cbv)
      | (refine Ar.mx_ hA (fun _ _ => ?_); cbv)
      | (refine Ar.mn_ hA (fun _ _ => ?_); cbv)
      | (refine Ar.len_ hA (fun _ _ _ => ?_); cbv)
      | (refine Ar.lenN_ hA (fun _ _ => ?_); cbv)
      | (refine Ar.bneq_ hA (fun _ => ?_) (fun _ => ?_) <;> cbv)
      | (refine Ar.beq_ hA (fun _ => ?_) (fun _ => ?_) <;> cbv)
      | (refine Ar.ofN_ hA (fun _ _ _ => ?_); cbv)
)
    exact hK _ _ (by rw [hc]; simp [widestR, hc]) rfl
  obtain ⟨c1, c2, hok⟩ := isCloudF_iff.1 hc
  cbv
  refine Ar.notT_ hA ?_
  cbv
  refine Ar.len_ hA (fun n hn hn' => ?_)
  cbv
  refine Ar.loop_ hA (α := Int × Int) (fun x => (n - x.1).toNat) (fun (i, m) => 0 ≤ i ∧ i ≤ n ∧ 0 ≤ m ∧ m ≤ 8000000 ∧ m = (l.take i.toNat).foldl (fun m a => l.foldl (fun m b => max m (d2 a b)) m) 0) 52 (fun (i, m) => [(0, .pv (.sl es) []), (4, .pv (i64 m) []), (12, .pv (.sl es) []), (13, .pv (i64 n) []), (14, .pv (i64 i) [])]) (fun _ => []) (0, 0) ⟨rfl, ⟨rfl, rfl, rfl, rfl, rfl, trivial⟩, trivial⟩ ⟨by omega, by omega, by omega, by omega, by simp⟩ ?_
  intro ⟨i, m⟩ s f ⟨h1, h2, h3, h4, h5⟩
  cbv
  refine Ar.lss_ hA (fun h => ?_) (fun h => ?_)
  · cbv
    refine Ar.nn_ hA (by omega) ?_
    cbv
    refine Ar.toN_ hA (fun j hj => ?_)
    cbv
    obtain ⟨⟨px, py⟩, hp⟩ : ∃ p, l[j]? = some p := ⟨l[j]'(by omega), List.getElem?_eq_getElem _⟩
    refine Ar.idx_ hA (x := pt px py) (by simp [hes, hp, P2.pv]) ?_
    cbv
    have bp := ok_bounds hok hp
    refine Ar.len_ hA (fun n2 hn2 hn2' => ?_)
    cbv
    refine Ar.loop_ hA (α := Int × Int) (fun x => (n - x.1).toNat) (fun (k, q) => 0 ≤ k ∧ k ≤ n ∧ 0 ≤ q ∧ q ≤ 8000000 ∧ q = (l.take k.toNat).foldl (fun m b => max m (d2 ⟨px, py⟩ b)) m) 52 (fun (k, q) => [(0, .pv (.sl es) []), (4, .pv (i64 q) []), (6, .ref 6 0), (12, .pv (.sl es) []), (13, .pv (i64 n) []), (14, .pv (i64 i) []), (18, .pv (.sl es) []), (19, .pv (i64 n2) []), (20, .pv (i64 k) [])]) (fun _ => [(6, some (.cell [.pv (i64 px) [], .pv (i64 py) []]))]) (0, m) ⟨rfl, ⟨rfl, rfl, rfl, rfl, rfl, rfl, rfl, rfl, rfl, trivial⟩, rfl, trivial⟩ ⟨by omega, by omega, by omega, by omega, by simp⟩ ?_
    intro ⟨k, q⟩ s f ⟨g1, g2, g3, g4, g5⟩
    cbv
    refine Ar.lss_ hA (fun h' => ?_) (fun h' => ?_)
    · cbv
      refine Ar.nn_ hA (by omega) ?_
      cbv
      refine Ar.toN_ hA (fun j2 hj2 => ?_)
      cbv
      obtain ⟨⟨p2x, p2y⟩, hp2⟩ : ∃ p, l[j2]? = some p := ⟨l[j2]'(by omega), List.getElem?_eq_getElem _⟩
      refine Ar.idx_ hA (x := pt p2x p2y) (by simp [hes, hp2, P2.pv]) ?_
      cbv
      have bp2 := ok_bounds hok hp2
      repeat' (first
        | (refine Ar.nn_ hA (by omega) ?_; cbv)
        | (refine Ar.toN_ hA (fun _ _ => ?_); cbv)
        | (refine Ar.notT_ hA ?_; cbv)
        | (refine Ar.notF_ hA ?_; cbv)
        | (refine Ar.lss_ hA (fun _ => ?_) (fun _ => ?_) <;> cbv)
        | (refine Ar.leq_ hA (fun _ => ?_) (fun _ => ?_) <;> cbv)
        | (refine Ar.gtr_ hA (fun _ => ?_) (fun _ => ?_) <;> cbv)
        | (refine Ar.geq_ hA (fun _ => ?_) (fun _ => ?_) <;> cbv)
        | (refine Ar.eql_ hA (fun _ => ?_) (fun _ => ?_) <;> cbv)
        | (refine Ar.neq_ hA (fun _ => ?_) (fun _ => ?_) <;> cbv)
        | (refine Ar.add_ hA (by omega) (fun _ _ => ?_); cbv)
        | (refine Ar.sub_ hA (by omega) (fun _ _ => ?_); cbv)
        | (refine Ar.neg_ hA (by omega) (fun _ _ => ?_); cbv)
        | (refine Ar.mulB hA 2000 2000 (by omega) (by omega) (by omega) (fun _ _ _ _ => ?_); cbv)
        | (refine Ar.mulB hA 3000000000 3000000000 (by omega) (by omega) (by omega) (fun _ _ _ _ => ?_); cbv)
        | (refine Ar.nz_ hA (by omega) ?_; cbv)
        | (refine Ar.rem_ hA (by omega) (fun _ _ => ?_); cbv)
        | (refine Ar.quo_ hA (by omega) (fun _ _ => ?_); cbv)
        | (refine Ar.mx_ hA (fun _ _ => ?_); cbv)
        | (refine Ar.mn_ hA (fun _ _ => ?_); cbv)
        | (refine Ar.len_ hA (fun _ _ _ => ?_); cbv)
        | (refine Ar.lenN_ hA (fun _ _ => ?_); cbv)
        | (refine Ar.bneq_ hA (fun _ => ?_) (fun _ => ?_) <;> cbv)
        | (refine Ar.beq_ hA (fun _ => ?_) (fun _ => ?_) <;> cbv)
        | (refine Ar.ofN_ hA (fun _ _ _ => ?_); cbv)
)
      rename_i q' hq' k' hk'
      refine ⟨(k', q'), (by show (n - k').toNat < (n - k).toNat; omega), ⟨by omega, by omega, by omega, by omega, ?_⟩, rfl, ⟨rfl, rfl, rfl, rfl, rfl, rfl, rfl, rfl, rfl, trivial⟩, rfl, trivial⟩
      rw [show k'.toNat = j2 + 1 by omega, foldl_take _ _ hp2, show j2 = k.toNat by omega, ← g5]
      subst_vars; rfl
    · cbv
      refine Ar.add_ hA (by omega) (fun i' hi' => ?_)
      cbv
      refine ⟨(i', q), (by show (n - i').toNat < (n - i).toNat; omega), ⟨by omega, by omega, by omega, by omega, ?_⟩, rfl, ⟨rfl, rfl, rfl, rfl, rfl, trivial⟩, trivial⟩
      rw [show i'.toNat = j + 1 by omega, foldl_take _ _ hp, show j = i.toNat by omega, ← h5, g5, List.take_of_length_le (by omega)]
  · cbv
    rw [List.take_of_length_le (by omega)] at h5
    exact hK _ _ (by rw [hc, h5]; simp [widestR, hc, widest]) rfl

theorem c_spec_WidestIn : Callable Try.prog 34 := ⟨_, Try.func34, rfl, by kernel_rfl⟩
theorem d_spec_WidestIn {es : List PV} {l : List P2} (hes : es = l.map P2.pv) (hb : l.length ≤ 1048576) : Does Try.prog 34 [.sl es] (.tup [.pv (i64 (widestR l)), .pv (bl (isCloudF l))]) [] := by
  refine does_of hT hM Try.func34 rfl (by kernel_rfl) rfl rfl rfl (fun A K hA hK => ?_)
  have hlen : es.length = l.length := by simp [hes]
  cbv
  refine Ar.callT hA c_spec_l10Cloud (d_spec_l10Cloud hes hb) rfl (fun hc => ?_) (fun hc => ?_)
  rotate_left
  · cbv
    repeat' (first
      | (refine Ar.nn_ hA (by omega) ?_; cbv)
      | (refine Ar.toN_ hA (fun _ _ => ?_); cbv)
      | (refine Ar.notT_ hA ?_; cbv)
      | (refine Ar.notF_ hA ?_; cbv)
      | (refine Ar.lss_ hA (fun _ => ?_) (fun _ => ?_) <;> cbv)
      | (refine Ar.leq_ hA (fun _ => ?_) (fun _ => ?_) <;> cbv)
      | (refine Ar.gtr_ hA (fun _ => ?_) (fun _ => ?_) <;> cbv)
      | (refine Ar.geq_ hA (fun _ => ?_) (fun _ => ?_) <;> cbv)
      | (refine Ar.eql_ hA (fun _ => ?_) (fun _ => ?_) <;> cbv)
      | (refine Ar.neq_ hA (fun _ => ?_) (fun _ => ?_) <;> cbv)
      | (refine Ar.add_ hA (by omega) (fun _ _ => ?_); cbv)
      | (refine Ar.sub_ hA (by omega) (fun _ _ => ?_); cbv)
      | (refine Ar.neg_ hA (by omega) (fun _ _ => ?_); cbv)
      | (refine Ar.mulB hA 2000 2000 (by omega) (by omega) (by omega) (fun _ _ _ _ => ?_); cbv)
      | (refine Ar.mulB hA 3000000000 3000000000 (by omega) (by omega) (by omega) (fun _ _ _ _ => ?_); cbv)
      | (refine Ar.nz_ hA (by omega) ?_; cbv)
      | (refine Ar.rem_ hA (by omega) (fun _ _ => ?_); cbv)
      | (refine Ar.quo_ hA (by omega) (fun _ _ => ?_); cbv)
      | (refine Ar.mx_ hA (fun _ _ => ?_); cbv)
      | (refine Ar.mn_ hA (fun _ _ => ?_); cbv)
      | (refine Ar.len_ hA (fun _ _ _ => ?_); cbv)
      | (refine Ar.lenN_ hA (fun _ _ => ?_); cbv)
      | (refine Ar.bneq_ hA (fun _ => ?_) (fun _ => ?_) <;> cbv)
      | (refine Ar.beq_ hA (fun _ => ?_) (fun _ => ?_) <;> cbv)
      | (refine Ar.ofN_ hA (fun _ _ _ => ?_); cbv)
)
    exact hK _ _ (by rw [hc]; simp [widestR, hc]) rfl
  obtain ⟨c1, c2, hok⟩ := isCloudF_iff.1 hc
  cbv
  refine Ar.notT_ hA ?_
  cbv
  refine Ar.len_ hA (fun n hn hn' => ?_)
  cbv
  refine Ar.loop_ hA (α := Int × Int) (fun x => (n - x.1).toNat) (fun (i, m) => 0 ≤ i ∧ i ≤ n ∧ 0 ≤ m ∧ m ≤ 8000000 ∧ m = (l.take i.toNat).foldl (fun m a => l.foldl (fun m b => max m (d2 a b)) m) 0) 55 (fun (i, m) => [(0, .pv (.sl es) []), (4, .pv (i64 m) []), (13, .pv (.sl es) []), (14, .pv (i64 n) []), (15, .pv (i64 i) [])]) (fun _ => []) (0, 0) ⟨rfl, ⟨rfl, rfl, rfl, rfl, rfl, trivial⟩, trivial⟩ ⟨by omega, by omega, by omega, by omega, by simp⟩ ?_
  intro ⟨i, m⟩ s f ⟨h1, h2, h3, h4, h5⟩
  cbv
  refine Ar.lss_ hA (fun h => ?_) (fun h => ?_)
  · cbv
    refine Ar.nn_ hA (by omega) ?_
    cbv
    refine Ar.toN_ hA (fun j hj => ?_)
    cbv
    obtain ⟨⟨px, py⟩, hp⟩ : ∃ p, l[j]? = some p := ⟨l[j]'(by omega), List.getElem?_eq_getElem _⟩
    refine Ar.idx_ hA (x := pt px py) (by simp [hes, hp, P2.pv]) ?_
    cbv
    have bp := ok_bounds hok hp
    refine Ar.len_ hA (fun n2 hn2 hn2' => ?_)
    cbv
    refine Ar.loop_ hA (α := Int × Int) (fun x => (n - x.1).toNat) (fun (k, q) => 0 ≤ k ∧ k ≤ n ∧ 0 ≤ q ∧ q ≤ 8000000 ∧ q = (l.take k.toNat).foldl (fun m b => max m (d2 ⟨px, py⟩ b)) m) 55 (fun (k, q) => [(0, .pv (.sl es) []), (4, .pv (i64 q) []), (6, .ref 6 0), (13, .pv (.sl es) []), (14, .pv (i64 n) []), (15, .pv (i64 i) []), (19, .pv (.sl es) []), (20, .pv (i64 n2) []), (21, .pv (i64 k) [])]) (fun _ => [(6, some (.cell [.pv (i64 px) [], .pv (i64 py) []]))]) (0, m) ⟨rfl, ⟨rfl, rfl, rfl, rfl, rfl, rfl, rfl, rfl, rfl, trivial⟩, rfl, trivial⟩ ⟨by omega, by omega, by omega, by omega, by simp⟩ ?_
    intro ⟨k, q⟩ s f ⟨g1, g2, g3, g4, g5⟩
    cbv
    refine Ar.lss_ hA (fun h' => ?_) (fun h' => ?_)
    · cbv
      refine Ar.nn_ hA (by omega) ?_
      cbv
      refine Ar.toN_ hA (fun j2 hj2 => ?_)
      cbv
      obtain ⟨⟨p2x, p2y⟩, hp2⟩ : ∃ p, l[j2]? = some p := ⟨l[j2]'(by omega), List.getElem?_eq_getElem _⟩
      refine Ar.idx_ hA (x := pt p2x p2y) (by simp [hes, hp2, P2.pv]) ?_
      cbv
      have bp2 := ok_bounds hok hp2
      have key : (l.take (j2 + 1)).foldl (fun m b => max m (d2 ⟨px, py⟩ b)) m = max q (d2 ⟨px, py⟩ ⟨p2x, p2y⟩) := by
        rw [foldl_take _ _ hp2, show j2 = k.toNat by omega, ← g5]
      have hd : ∀ a b : Int, a = px - p2x → b = py - p2y → a * a + b * b = d2 ⟨px, py⟩ ⟨p2x, p2y⟩ := by
        intro a b ha hb; subst ha hb; rfl
      repeat' (first
        | (refine Ar.nn_ hA (by omega) ?_; cbv)
        | (refine Ar.toN_ hA (fun _ _ => ?_); cbv)
        | (refine Ar.notT_ hA ?_; cbv)
        | (refine Ar.notF_ hA ?_; cbv)
        | (refine Ar.lss_ hA (fun _ => ?_) (fun _ => ?_) <;> cbv)
        | (refine Ar.leq_ hA (fun _ => ?_) (fun _ => ?_) <;> cbv)
        | (refine Ar.gtr_ hA (fun _ => ?_) (fun _ => ?_) <;> cbv)
        | (refine Ar.geq_ hA (fun _ => ?_) (fun _ => ?_) <;> cbv)
        | (refine Ar.eql_ hA (fun _ => ?_) (fun _ => ?_) <;> cbv)
        | (refine Ar.neq_ hA (fun _ => ?_) (fun _ => ?_) <;> cbv)
        | (refine Ar.add_ hA (by omega) (fun _ _ => ?_); cbv)
        | (refine Ar.sub_ hA (by omega) (fun _ _ => ?_); cbv)
        | (refine Ar.neg_ hA (by omega) (fun _ _ => ?_); cbv)
        | (refine Ar.mulB hA 2000 2000 (by omega) (by omega) (by omega) (fun _ _ _ _ => ?_); cbv)
        | (refine Ar.mulB hA 3000000000 3000000000 (by omega) (by omega) (by omega) (fun _ _ _ _ => ?_); cbv)
        | (refine Ar.nz_ hA (by omega) ?_; cbv)
        | (refine Ar.rem_ hA (by omega) (fun _ _ => ?_); cbv)
        | (refine Ar.quo_ hA (by omega) (fun _ _ => ?_); cbv)
        | (refine Ar.mx_ hA (fun _ _ => ?_); cbv)
        | (refine Ar.mn_ hA (fun _ _ => ?_); cbv)
        | (refine Ar.len_ hA (fun _ _ _ => ?_); cbv)
        | (refine Ar.lenN_ hA (fun _ _ => ?_); cbv)
        | (refine Ar.bneq_ hA (fun _ => ?_) (fun _ => ?_) <;> cbv)
        | (refine Ar.beq_ hA (fun _ => ?_) (fun _ => ?_) <;> cbv)
        | (refine Ar.ofN_ hA (fun _ _ _ => ?_); cbv)
)
      · rename_i k' hk'
        refine ⟨(k', _), (by show (n - k').toNat < (n - k).toNat; omega), ⟨by omega, by omega, ?_, ?_, ?_⟩, rfl, ⟨rfl, rfl, rfl, rfl, rfl, rfl, rfl, rfl, rfl, trivial⟩, rfl, trivial⟩
        · omega
        · omega
        · rw [show k'.toNat = j2 + 1 by omega, key, ← hd _ _ rfl rfl]
          subst_vars
          omega
      · rename_i k' hk'
        refine ⟨(k', q), (by show (n - k').toNat < (n - k).toNat; omega), ⟨by omega, by omega, by omega, by omega, ?_⟩, rfl, ⟨rfl, rfl, rfl, rfl, rfl, rfl, rfl, rfl, rfl, trivial⟩, rfl, trivial⟩
        rw [show k'.toNat = j2 + 1 by omega, key, ← hd _ _ rfl rfl]
        subst_vars
        omega
    · cbv
      refine Ar.add_ hA (by omega) (fun i' hi' => ?_)
      cbv
      refine ⟨(i', q), (by show (n - i').toNat < (n - i).toNat; omega), ⟨by omega, by omega, by omega, by omega, ?_⟩, rfl, ⟨rfl, rfl, rfl, rfl, rfl, trivial⟩, trivial⟩
      rw [show i'.toNat = j + 1 by omega, foldl_take _ _ hp, show j = i.toNat by omega, ← h5, g5, List.take_of_length_le (by omega)]
  · cbv
    rw [List.take_of_length_le (by omega)] at h5
    exact hK _ _ (by rw [hc, h5]; simp [widestR, hc, widest]) rfl

theorem szF_lt {k : Nat} {n r : Int} (h : r = szF k n) : (0 ≤ r → (k : Int) ≤ n ∧ r = n - k) ∧ (r < 0 → r = -1) := by
  subst h; unfold szF; split <;> omega
theorem szF_le {k : Nat} {r : Int} (h : r = szF k 1048576) (h0 : 0 ≤ r) : k ≤ 1048576 := by
  have := (szF_lt h).1 h0; omega

theorem c_laws_FnExactWidestIn : Callable Try.prog 11 := ⟨_, Try.func11, rfl, by kernel_rfl⟩
theorem d_laws_FnExactWidestIn {es : List PV} {l : List P2} (hes : es = l.map P2.pv ∧ l.length ≤ 9223372036854775807) : Does Try.prog 11 [.sl es] (.pv (bl true)) [] := by
  refine does_of hT hM Try.func11 rfl (by kernel_rfl) rfl rfl rfl (fun A K hA hK => ?_)
  obtain ⟨hes, hmax⟩ := hes
  have hlen : es.length = l.length := by simp [hes]
  cbv
  refine Ar.callI hA c_laws_szPtS (d_laws_szPtS (by omega) (by omega)) rfl (fun r hr => ?_)
  cbv
  refine Ar.lss_ hA (fun h => ?_) (fun h => ?_)
  · cbv
    exact hK _ _ rfl rfl
  have hb : l.length ≤ 1048576 := by have := szF_le hr h; omega
  cbv
  repeat' (first
    | (refine Ar.nn_ hA (by omega) ?_; cbv)
    | (refine Ar.toN_ hA (fun _ _ => ?_); cbv)
    | (refine Ar.notT_ hA ?_; cbv)
    | (refine Ar.notF_ hA ?_; cbv)
    | (refine Ar.lss_ hA (fun _ => ?_) (fun _ => ?_) <;> cbv)
    | (refine Ar.leq_ hA (fun _ => ?_) (fun _ => ?_) <;> cbv)
    | (refine Ar.gtr_ hA (fun _ => ?_) (fun _ => ?_) <;> cbv)
    | (refine Ar.geq_ hA (fun _ => ?_) (fun _ => ?_) <;> cbv)
    | (refine Ar.eql_ hA (fun _ => ?_) (fun _ => ?_) <;> cbv)
    | (refine Ar.neq_ hA (fun _ => ?_) (fun _ => ?_) <;> cbv)
    | (refine Ar.add_ hA (by omega) (fun _ _ => ?_); cbv)
    | (refine Ar.sub_ hA (by omega) (fun _ _ => ?_); cbv)
    | (refine Ar.neg_ hA (by omega) (fun _ _ => ?_); cbv)
    | (refine Ar.mulB hA 2000 2000 (by omega) (by omega) (by omega) (fun _ _ _ _ => ?_); cbv)
    | (refine Ar.mulB hA 3000000000 3000000000 (by omega) (by omega) (by omega) (fun _ _ _ _ => ?_); cbv)
    | (refine Ar.nz_ hA (by omega) ?_; cbv)
    | (refine Ar.rem_ hA (by omega) (fun _ _ => ?_); cbv)
    | (refine Ar.quo_ hA (by omega) (fun _ _ => ?_); cbv)
    | (refine Ar.mx_ hA (fun _ _ => ?_); cbv)
    | (refine Ar.mn_ hA (fun _ _ => ?_); cbv)
    | (refine Ar.len_ hA (fun _ _ _ => ?_); cbv)
    | (refine Ar.lenN_ hA (fun _ _ => ?_); cbv)
    | (refine Ar.bneq_ hA (fun _ => ?_) (fun _ => ?_) <;> cbv)
    | (refine Ar.beq_ hA (fun _ => ?_) (fun _ => ?_) <;> cbv)
    | (refine Ar.ofN_ hA (fun _ _ _ => ?_); cbv)
    | (refine Ar.call_ hA c_laws_toPtS (d_laws_toPtS hes hb) rfl ?_; cbv)
    | (refine Ar.callIB hA c_spec_WidestIn (d_spec_WidestIn hes hb) rfl (fun _ _ _ _ => ?_); cbv)
    | (refine Ar.callIB hA c_impl_WidestIn (d_impl_WidestIn hes hb) rfl (fun _ _ _ _ => ?_); cbv)
    | (refine Ar.callT hA c_laws_eqPtS (d_laws_eqPtS hes hes hb) rfl (fun _ => ?_) (fun _ => ?_) <;> cbv))
  all_goals first | exact hK _ _ rfl rfl | (exfalso; subst_vars; simp_all; done) | trace_state

end Go.VAI
