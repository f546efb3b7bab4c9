/- MovePts. -/
import Derived.Test.YtekmnlagkoelcaaN
namespace Go.VAI
open Go.Proofs
set_option maxRecDepth 100000
set_option maxHeartbeats 8000000

def mvP (dx dy : Int) (p : P2) : P2 := ⟨p.x + dx, p.y + dy⟩
def moveF (l : List P2) (dx dy : Int) : List P2 := l.map (mvP dx dy)
def goodMove (l : List P2) (dx dy : Int) : Bool := goodOn l dx dy && (moveF l dx dy).all P2.ok
def moveR (l : List P2) (dx dy : Int) : List P2 := if goodMove l dx dy then moveF l dx dy else []

theorem moveF_next {l : List P2} {dx dy x y : Int} {j : Nat} (h : l[j]? = some ⟨x, y⟩) : moveF (l.take (j + 1)) dx dy = moveF (l.take j) dx dy ++ [⟨x + dx, y + dy⟩] := by
  unfold moveF; rw [List.take_add_one, h]; simp [mvP]

theorem goodMove_no {l : List P2} {dx dy : Int} (h : goodOn l dx dy = false) : goodMove l dx dy = false := by unfold goodMove; rw [h]; rfl

theorem two_wide {a b : Int} : ∀ x ∈ [pt a b], (leaves x).length = 2 ∧ (true = true → isFree x = true) := by
  intro x hx; rw [List.mem_singleton] at hx; subst hx; exact ⟨rfl, fun _ => rfl⟩

theorem c_spec_MovePts : Callable Try.prog 25 := ⟨_, Try.func25, rfl, by kernel_rfl⟩
theorem d_spec_MovePts {es : List PV} {l : List P2} {dx dy : Int} (hes : es = l.map P2.pv) (hb : l.length ≤ 1048576) : Does Try.prog 25 [.sl es, pt dx dy] (.tup [.row ((moveR l dx dy).map P2.pv) 2 .free, .pv (bl (goodMove l dx dy))]) [] := by
  refine does_of hT hM Try.func25 rfl (D := []) (by kernel_rfl) rfl rfl rfl (fun A K hA hK => ?_)
  have hlen : es.length = l.length := by simp [hes]
  cbv
  refine Ar.callT hA c_spec_l8Way (d_spec_l8Way hes hb) rfl (fun hc => ?_) (fun hc => ?_)
  rotate_left
  · cbv
    repeat' (first
      | (refine Ar.nn_ hA (by omega) ?_; cbv)
      | (refine Ar.toN_ hA (fun _ _ => ?_); cbv)
      | (refine Ar.notT_ hA ?_; cbv)
      | (refine Ar.notF_ hA ?_; cbv)
      | (refine Ar.lss_ hA (fun _ => ?_) (fun _ => ?_) <;> cbv)
      | (refine Ar.leq_ hA (fun _ => ?_) (fun _ => ?_) <;> cbv)
      | (refine Ar.gtr_ hA (fun _ => ?_) (fun _ => ?_) <;> cbv)
      | (refine Ar.geq_ hA (fun _ => ?_) (fun _ => ?_) <;> cbv)
      | (refine Ar.eql_ hA (fun _ => ?_) (fun _ => ?_) <;> cbv)
      | (refine Ar.neq_ hA (fun _ => ?_) (fun _ => ?_) <;> cbv)
      | (refine Ar.add_ hA (by omega) (fun _ _ => ?_); cbv)
      | (refine Ar.sub_ hA (by omega) (fun _ _ => ?_); cbv)
      | (refine Ar.neg_ hA (by omega) (fun _ _ => ?_); cbv)
      | (refine Ar.mulB hA 2000 2000 (by omega) (by omega) (by omega) (fun _ _ _ _ => ?_); cbv)
      | (refine Ar.mulB hA 3000000000 3000000000 (by omega) (by omega) (by omega) (fun _ _ _ _ => ?_); cbv)
      | (refine Ar.nz_ hA (by omega) ?_; cbv)
      | (refine Ar.rem_ hA (by omega) (fun _ _ => ?_); cbv)
      | (refine Ar.quo_ hA (by omega) (fun _ _ => ?_); cbv)
      | (refine Ar.mx_ hA (fun _ _ => ?_); cbv)
      | (refine Ar.mn_ hA (fun _ _ => ?_); cbv)
      | (refine Ar.len_ hA (fun _ _ _ => ?_); cbv)
      | (refine Ar.lenN_ hA (fun _ _ => ?_); cbv)
      | (refine Ar.bneq_ hA (fun _ => ?_) (fun _ => ?_) <;> cbv)
      | (refine Ar.beq_ hA (fun _ => ?_) (fun _ => ?_) <;> cbv)
      | (refine Ar.ofN_ hA (fun _ _ _ => ?_); cbv)
)
    have := goodMove_no (l := l) (dx := dx) (dy := dy) (by simp [goodOn, hc])
    exact hK _ _ (by simp [moveR, this]) rfl
  cbv
  refine Ar.notT_ hA ?_
  cbv
  refine Ar.callT hA c_spec_GoodPt d_spec_GoodPt rfl (fun hd => ?_) (fun hd => ?_)
  rotate_left
  · cbv
    repeat' (first
      | (refine Ar.nn_ hA (by omega) ?_; cbv)
      | (refine Ar.toN_ hA (fun _ _ => ?_); cbv)
      | (refine Ar.notT_ hA ?_; cbv)
      | (refine Ar.notF_ hA ?_; cbv)
      | (refine Ar.lss_ hA (fun _ => ?_) (fun _ => ?_) <;> cbv)
      | (refine Ar.leq_ hA (fun _ => ?_) (fun _ => ?_) <;> cbv)
      | (refine Ar.gtr_ hA (fun _ => ?_) (fun _ => ?_) <;> cbv)
      | (refine Ar.geq_ hA (fun _ => ?_) (fun _ => ?_) <;> cbv)
      | (refine Ar.eql_ hA (fun _ => ?_) (fun _ => ?_) <;> cbv)
      | (refine Ar.neq_ hA (fun _ => ?_) (fun _ => ?_) <;> cbv)
      | (refine Ar.add_ hA (by omega) (fun _ _ => ?_); cbv)
      | (refine Ar.sub_ hA (by omega) (fun _ _ => ?_); cbv)
      | (refine Ar.neg_ hA (by omega) (fun _ _ => ?_); cbv)
      | (refine Ar.mulB hA 2000 2000 (by omega) (by omega) (by omega) (fun _ _ _ _ => ?_); cbv)
      | (refine Ar.mulB hA 3000000000 3000000000 (by omega) (by omega) (by omega) (fun _ _ _ _ => ?_); cbv)
      | (refine Ar.nz_ hA (by omega) ?_; cbv)
      | (refine Ar.rem_ hA (by omega) (fun _ _ => ?_); cbv)
      | (refine Ar.quo_ hA (by omega) (fun _ _ => ?_); cbv)
      | (refine Ar.mx_ hA (fun _ _ => ?_); cbv)
      | (refine Ar.mn_ hA (fun _ _ => ?_); cbv)
      | (refine Ar.len_ hA (fun _ _ _ => ?_); cbv)
      | (refine Ar.lenN_ hA (fun _ _ => ?_); cbv)
      | (refine Ar.bneq_ hA (fun _ => ?_) (fun _ => ?_) <;> cbv)
      | (refine Ar.beq_ hA (fun _ => ?_) (fun _ => ?_) <;> cbv)
      | (refine Ar.ofN_ hA (fun _ _ _ => ?_); cbv)
)
    have := goodMove_no (l := l) (dx := dx) (dy := dy) (by simp [goodOn, hd])
    exact hK _ _ (by simp [moveR, this]) rfl
  have hg : goodOn l dx dy = true := by unfold goodOn; rw [hc, hd]; rfl
  obtain ⟨c1, c2, hok, hq⟩ := goodOn_iff hg
  cbv
  refine Ar.notT_ hA ?_
  cbv
  refine Ar.len_ hA (fun n hn hn' => ?_)
  cbv
  refine Ar.loop_ hA (α := Int × List PV) (fun x => (n - x.1).toNat) (fun (i, r) => 0 ≤ i ∧ i ≤ n ∧ r = (moveF (l.take i.toNat) dx dy).map P2.pv) 42 (fun (i, r) => [(0, .pv (.sl es) []), (3, .ref 3 0), (6, .own 6 none), (17, .pv (.sl es) []), (18, .pv (i64 n) []), (19, .pv (i64 i) [])]) (fun (i, r) => [(3, some (.cell [.pv (i64 dx) [], .pv (i64 dy) []])), (6, some (.row r 2 .free false))]) (0, []) ⟨rfl, ⟨rfl, rfl, rfl, rfl, rfl, rfl, trivial⟩, rfl, rfl, trivial⟩ ⟨by omega, by omega, rfl⟩ ?_
  intro ⟨i, r⟩ s f ⟨h1, h2, h3⟩
  cbv
  refine Ar.lss_ hA (fun h => ?_) (fun h => ?_)
  · cbv
    refine Ar.nn_ hA (by omega) ?_
    cbv
    refine Ar.toN_ hA (fun j hj => ?_)
    cbv
    obtain ⟨⟨px, py⟩, hp⟩ : ∃ p, l[j]? = some p := ⟨l[j]'(by omega), List.getElem?_eq_getElem _⟩
    refine Ar.idx_ hA (x := pt px py) (by simp [hes, hp, P2.pv]) ?_
    cbv
    have bp := ok_bounds hok hp
    have hrl : r.length ≤ 12 := by rw [h3]; simp [moveF]; omega
    have key := moveF_next (dx := dx) (dy := dy) hp
    repeat' (first
      | (refine Ar.nn_ hA (by omega) ?_; cbv)
      | (refine Ar.toN_ hA (fun _ _ => ?_); cbv)
      | (refine Ar.notT_ hA ?_; cbv)
      | (refine Ar.notF_ hA ?_; cbv)
      | (refine Ar.lss_ hA (fun _ => ?_) (fun _ => ?_) <;> cbv)
      | (refine Ar.leq_ hA (fun _ => ?_) (fun _ => ?_) <;> cbv)
      | (refine Ar.gtr_ hA (fun _ => ?_) (fun _ => ?_) <;> cbv)
      | (refine Ar.geq_ hA (fun _ => ?_) (fun _ => ?_) <;> cbv)
      | (refine Ar.eql_ hA (fun _ => ?_) (fun _ => ?_) <;> cbv)
      | (refine Ar.neq_ hA (fun _ => ?_) (fun _ => ?_) <;> cbv)
      | (refine Ar.add_ hA (by omega) (fun _ _ => ?_); cbv)
      | (refine Ar.sub_ hA (by omega) (fun _ _ => ?_); cbv)
      | (refine Ar.neg_ hA (by omega) (fun _ _ => ?_); cbv)
      | (refine Ar.mulB hA 2000 2000 (by omega) (by omega) (by omega) (fun _ _ _ _ => ?_); cbv)
      | (refine Ar.mulB hA 3000000000 3000000000 (by omega) (by omega) (by omega) (fun _ _ _ _ => ?_); cbv)
      | (refine Ar.nz_ hA (by omega) ?_; cbv)
      | (refine Ar.rem_ hA (by omega) (fun _ _ => ?_); cbv)
      | (refine Ar.quo_ hA (by omega) (fun _ _ => ?_); cbv)
      | (refine Ar.mx_ hA (fun _ _ => ?_); cbv)
      | (refine Ar.mn_ hA (fun _ _ => ?_); cbv)
      | (refine Ar.len_ hA (fun _ _ _ => ?_); cbv)
      | (refine Ar.lenN_ hA (fun _ _ => ?_); cbv)
      | (refine Ar.bneq_ hA (fun _ => ?_) (fun _ => ?_) <;> cbv)
      | (refine Ar.beq_ hA (fun _ => ?_) (fun _ => ?_) <;> cbv)
      | (refine Ar.ofN_ hA (fun _ _ _ => ?_); cbv)
)
    rename_i a ha b hb'
    refine Ar.app_ hA (fun r' hr' => ?_)
    cbv
    refine Ar.fitsL_ hA (by rw [hr', List.length_append]; simp only [List.length_singleton]; omega) ?_
    cbv
    refine Ar.add_ hA (by omega) (fun i' hi' => ?_)
    cbv
    refine ⟨(i', r'), (by show (n - i').toNat < (n - i).toNat; omega), ⟨by omega, by omega, ?_⟩, rfl, ⟨rfl, rfl, rfl, rfl, rfl, rfl, trivial⟩, rfl, rfl, trivial⟩
    rw [show i'.toNat = j + 1 by omega, key, List.map_append, hj, ← h3, hr', ha, hb']; rfl
  · rw [List.take_of_length_le (by omega)] at h3
    obtain ⟨L, hL⟩ : ∃ L, L = moveF l dx dy := ⟨_, rfl⟩
    have hLl : L.length ≤ 1048576 := by rw [hL]; simp [moveF]; omega
    rw [← hL] at h3
    have hgm : goodMove l dx dy = L.all P2.ok := by unfold goodMove; rw [hg, hL]; rfl
    have hm : moveR l dx dy = if L.all P2.ok then L else [] := by unfold moveR; rw [hgm, hL]
    rw [hm, hgm] at hK
    cbv
    refine Ar.callT hA c_spec_l8Pts (d_spec_l8Pts h3 hLl) rfl (fun he => ?_) (fun he => ?_)
    · cbv
      repeat' (first
        | (refine Ar.nn_ hA (by omega) ?_; cbv)
        | (refine Ar.toN_ hA (fun _ _ => ?_); cbv)
        | (refine Ar.notT_ hA ?_; cbv)
        | (refine Ar.notF_ hA ?_; cbv)
        | (refine Ar.lss_ hA (fun _ => ?_) (fun _ => ?_) <;> cbv)
        | (refine Ar.leq_ hA (fun _ => ?_) (fun _ => ?_) <;> cbv)
        | (refine Ar.gtr_ hA (fun _ => ?_) (fun _ => ?_) <;> cbv)
        | (refine Ar.geq_ hA (fun _ => ?_) (fun _ => ?_) <;> cbv)
        | (refine Ar.eql_ hA (fun _ => ?_) (fun _ => ?_) <;> cbv)
        | (refine Ar.neq_ hA (fun _ => ?_) (fun _ => ?_) <;> cbv)
        | (refine Ar.add_ hA (by omega) (fun _ _ => ?_); cbv)
        | (refine Ar.sub_ hA (by omega) (fun _ _ => ?_); cbv)
        | (refine Ar.neg_ hA (by omega) (fun _ _ => ?_); cbv)
        | (refine Ar.mulB hA 2000 2000 (by omega) (by omega) (by omega) (fun _ _ _ _ => ?_); cbv)
        | (refine Ar.mulB hA 3000000000 3000000000 (by omega) (by omega) (by omega) (fun _ _ _ _ => ?_); cbv)
        | (refine Ar.nz_ hA (by omega) ?_; cbv)
        | (refine Ar.rem_ hA (by omega) (fun _ _ => ?_); cbv)
        | (refine Ar.quo_ hA (by omega) (fun _ _ => ?_); cbv)
        | (refine Ar.mx_ hA (fun _ _ => ?_); cbv)
        | (refine Ar.mn_ hA (fun _ _ => ?_); cbv)
        | (refine Ar.len_ hA (fun _ _ _ => ?_); cbv)
        | (refine Ar.lenN_ hA (fun _ _ => ?_); cbv)
        | (refine Ar.bneq_ hA (fun _ => ?_) (fun _ => ?_) <;> cbv)
        | (refine Ar.beq_ hA (fun _ => ?_) (fun _ => ?_) <;> cbv)
        | (refine Ar.ofN_ hA (fun _ _ _ => ?_); cbv)
)
      exact hK _ _ (by rw [he, h3]; rfl) rfl
    · cbv
      repeat' (first
        | (refine Ar.nn_ hA (by omega) ?_; cbv)
        | (refine Ar.toN_ hA (fun _ _ => ?_); cbv)
        | (refine Ar.notT_ hA ?_; cbv)
        | (refine Ar.notF_ hA ?_; cbv)
        | (refine Ar.lss_ hA (fun _ => ?_) (fun _ => ?_) <;> cbv)
        | (refine Ar.leq_ hA (fun _ => ?_) (fun _ => ?_) <;> cbv)
        | (refine Ar.gtr_ hA (fun _ => ?_) (fun _ => ?_) <;> cbv)
        | (refine Ar.geq_ hA (fun _ => ?_) (fun _ => ?_) <;> cbv)
        | (refine Ar.eql_ hA (fun _ => ?_) (fun _ => ?_) <;> cbv)
        | (refine Ar.neq_ hA (fun _ => ?_) (fun _ => ?_) <;> cbv)
        | (refine Ar.add_ hA (by omega) (fun _ _ => ?_); cbv)
        | (refine Ar.sub_ hA (by omega) (fun _ _ => ?_); cbv)
        | (refine Ar.neg_ hA (by omega) (fun _ _ => ?_); cbv)
        | (refine Ar.mulB hA 2000 2000 (by omega) (by omega) (by omega) (fun _ _ _ _ => ?_); cbv)
        | (refine Ar.mulB hA 3000000000 3000000000 (by omega) (by omega) (by omega) (fun _ _ _ _ => ?_); cbv)
        | (refine Ar.nz_ hA (by omega) ?_; cbv)
        | (refine Ar.rem_ hA (by omega) (fun _ _ => ?_); cbv)
        | (refine Ar.quo_ hA (by omega) (fun _ _ => ?_); cbv)
        | (refine Ar.mx_ hA (fun _ _ => ?_); cbv)
        | (refine Ar.mn_ hA (fun _ _ => ?_); cbv)
        | (refine Ar.len_ hA (fun _ _ _ => ?_); cbv)
        | (refine Ar.lenN_ hA (fun _ _ => ?_); cbv)
        | (refine Ar.bneq_ hA (fun _ => ?_) (fun _ => ?_) <;> cbv)
        | (refine Ar.beq_ hA (fun _ => ?_) (fun _ => ?_) <;> cbv)
        | (refine Ar.ofN_ hA (fun _ _ _ => ?_); cbv)
)
      exact hK _ _ (by rw [he]; rfl) rfl

theorem c_impl_MovePts : Callable Try.prog 27 := ⟨_, Try.func27, rfl, by kernel_rfl⟩
theorem d_impl_MovePts {es : List PV} {l : List P2} {dx dy : Int} (hes : es = l.map P2.pv) (hb : l.length ≤ 1048576) : Does Try.prog 27 [.sl es, pt dx dy] (.tup [.row ((moveR l dx dy).map P2.pv) 2 .free, .pv (bl (goodMove l dx dy))]) [] := by
  refine does_of hT hM Try.func27 rfl (D := []) (by kernel_rfl) rfl rfl rfl (fun A K hA hK => ?_)
  have hlen : es.length = l.length := by simp [hes]
  cbv
  refine Ar.callT hA c_impl_isWay (d_impl_isWay hes hb) rfl (fun hc => ?_) (fun hc => ?_)
  rotate_left
  · cbv
    repeat' (first
      | (refine Ar.nn_ hA (by omega) ?_; cbv)
      | (refine Ar.toN_ hA (fun _ _ => ?_); cbv)
      | (refine Ar.notT_ hA ?_; cbv)
      | (refine Ar.notF_ hA ?_; cbv)
      | (refine Ar.lss_ hA (fun _ => ?_) (fun _ => ?_) <;> cbv)
      | (refine Ar.leq_ hA (fun _ => ?_) (fun _ => ?_) <;> cbv)
      | (refine Ar.gtr_ hA (fun _ => ?_) (fun _ => ?_) <;> cbv)
      | (refine Ar.geq_ hA (fun _ => ?_) (fun _ => ?_) <;> cbv)
      | (refine Ar.eql_ hA (fun _ => ?_) (fun _ => ?_) <;> cbv)
      | (refine Ar.neq_ hA (fun _ => ?_) (fun _ => ?_) <;> cbv)
      | (refine Ar.add_ hA (by omega) (fun _ _ => ?_); cbv)
      | (refine Ar.sub_ hA (by omega) (fun _ _ => ?_); cbv)
      | (refine Ar.neg_ hA (by omega) (fun _ _ => ?_); cbv)
      | (refine Ar.mulB hA 2000 2000 (by omega) (by omega) (by omega) (fun _ _ _ _ => ?_); cbv)
      | (refine Ar.mulB hA 3000000000 3000000000 (by omega) (by omega) (by omega) (fun _ _ _ _ => ?_); cbv)
      | (refine Ar.nz_ hA (by omega) ?_; cbv)
      | (refine Ar.rem_ hA (by omega) (fun _ _ => ?_); cbv)
      | (refine Ar.quo_ hA (by omega) (fun _ _ => ?_); cbv)
      | (refine Ar.mx_ hA (fun _ _ => ?_); cbv)
      | (refine Ar.mn_ hA (fun _ _ => ?_); cbv)
      | (refine Ar.len_ hA (fun _ _ _ => ?_); cbv)
      | (refine Ar.lenN_ hA (fun _ _ => ?_); cbv)
      | (refine Ar.bneq_ hA (fun _ => ?_) (fun _ => ?_) <;> cbv)
      | (refine Ar.beq_ hA (fun _ => ?_) (fun _ => ?_) <;> cbv)
      | (refine Ar.ofN_ hA (fun _ _ _ => ?_); cbv)
)
    have := goodMove_no (l := l) (dx := dx) (dy := dy) (by simp [goodOn, hc])
    exact hK _ _ (by simp [moveR, this]) rfl
  cbv
  refine Ar.notT_ hA ?_
  cbv
  refine Ar.callT hA c_impl_GoodPt d_impl_GoodPt rfl (fun hd => ?_) (fun hd => ?_)
  rotate_left
  · cbv
    repeat' (first
      | (refine Ar.nn_ hA (by omega) ?_; cbv)
      | (refine Ar.toN_ hA (fun _ _ => ?_); cbv)
      | (refine Ar.notT_ hA ?_; cbv)
      | (refine Ar.notF_ hA ?_; cbv)
      | (refine Ar.lss_ hA (fun _ => ?_) (fun _ => ?_) <;> cbv)
      | (refine Ar.leq_ hA (fun _ => ?_) (fun _ => ?_) <;> cbv)
      | (refine Ar.gtr_ hA (fun _ => ?_) (fun _ => ?_) <;> cbv)
      | (refine Ar.geq_ hA (fun _ => ?_) (fun _ => ?_) <;> cbv)
      | (refine Ar.eql_ hA (fun _ => ?_) (fun _ => ?_) <;> cbv)
      | (refine Ar.neq_ hA (fun _ => ?_) (fun _ => ?_) <;> cbv)
      | (refine Ar.add_ hA (by omega) (fun _ _ => ?_); cbv)
      | (refine Ar.sub_ hA (by omega) (fun _ _ => ?_); cbv)
      | (refine Ar.neg_ hA (by omega) (fun _ _ => ?_); cbv)
      | (refine Ar.mulB hA 2000 2000 (by omega) (by omega) (by omega) (fun _ _ _ _ => ?_); cbv)
      | (refine Ar.mulB hA 3000000000 3000000000 (by omega) (by omega) (by omega) (fun _ _ _ _ => ?_); cbv)
      | (refine Ar.nz_ hA (by omega) ?_; cbv)
      | (refine Ar.rem_ hA (by omega) (fun _ _ => ?_); cbv)
      | (refine Ar.quo_ hA (by omega) (fun _ _ => ?_); cbv)
      | (refine Ar.mx_ hA (fun _ _ => ?_); cbv)
      | (refine Ar.mn_ hA (fun _ _ => ?_); cbv)
      | (refine Ar.len_ hA (fun _ _ _ => ?_); cbv)
      | (refine Ar.lenN_ hA (fun _ _ => ?_); cbv)
      | (refine Ar.bneq_ hA (fun _ => ?_) (fun _ => ?_) <;> cbv)
      | (refine Ar.beq_ hA (fun _ => ?_) (fun _ => ?_) <;> cbv)
      | (refine Ar.ofN_ hA (fun _ _ _ => ?_); cbv)
)
    have := goodMove_no (l := l) (dx := dx) (dy := dy) (by simp [goodOn, hd])
    exact hK _ _ (by simp [moveR, this]) rfl
  have hg : goodOn l dx dy = true := by unfold goodOn; rw [hc, hd]; rfl
  obtain ⟨c1, c2, hok, hq⟩ := goodOn_iff hg
  cbv
  refine Ar.notT_ hA ?_
  cbv
  refine Ar.len_ hA (fun n hn hn' => ?_)
  cbv
  refine Ar.loop_ hA (α := Int × List PV) (fun x => (n - x.1).toNat) (fun (i, r) => 0 ≤ i ∧ i ≤ n ∧ r = (moveF (l.take i.toNat) dx dy).map P2.pv) 43 (fun (i, r) => [(0, .pv (.sl es) []), (3, .ref 3 0), (6, .own 17 none), (18, .pv (.sl es) []), (19, .pv (i64 n) []), (20, .pv (i64 i) [])]) (fun (i, r) => [(3, some (.cell [.pv (i64 dx) [], .pv (i64 dy) []])), (17, some (.row r 2 .free false))]) (0, []) ⟨rfl, ⟨rfl, rfl, rfl, rfl, rfl, rfl, trivial⟩, rfl, rfl, trivial⟩ ⟨by omega, by omega, rfl⟩ ?_
  intro ⟨i, r⟩ s f ⟨h1, h2, h3⟩
  cbv
  refine Ar.lss_ hA (fun h => ?_) (fun h => ?_)
  · cbv
    refine Ar.nn_ hA (by omega) ?_
    cbv
    refine Ar.toN_ hA (fun j hj => ?_)
    cbv
    obtain ⟨⟨px, py⟩, hp⟩ : ∃ p, l[j]? = some p := ⟨l[j]'(by omega), List.getElem?_eq_getElem _⟩
    refine Ar.idx_ hA (x := pt px py) (by simp [hes, hp, P2.pv]) ?_
    cbv
    have bp := ok_bounds hok hp
    have hrl : r.length ≤ 12 := by rw [h3]; simp [moveF]; omega
    have key := moveF_next (dx := dx) (dy := dy) hp
    repeat' (first
      | (refine Ar.nn_ hA (by omega) ?_; cbv)
      | (refine Ar.toN_ hA (fun _ _ => ?_); cbv)
      | (refine Ar.notT_ hA ?_; cbv)
      | (refine Ar.notF_ hA ?_; cbv)
      | (refine Ar.lss_ hA (fun _ => ?_) (fun _ => ?_) <;> cbv)
      | (refine Ar.leq_ hA (fun _ => ?_) (fun _ => ?_) <;> cbv)
      | (refine Ar.gtr_ hA (fun _ => ?_) (fun _ => ?_) <;> cbv)
      | (refine Ar.geq_ hA (fun _ => ?_) (fun _ => ?_) <;> cbv)
      | (refine Ar.eql_ hA (fun _ => ?_) (fun _ => ?_) <;> cbv)
      | (refine Ar.neq_ hA (fun _ => ?_) (fun _ => ?_) <;> cbv)
      | (refine Ar.add_ hA (by omega) (fun _ _ => ?_); cbv)
      | (refine Ar.sub_ hA (by omega) (fun _ _ => ?_); cbv)
      | (refine Ar.neg_ hA (by omega) (fun _ _ => ?_); cbv)
      | (refine Ar.mulB hA 2000 2000 (by omega) (by omega) (by omega) (fun _ _ _ _ => ?_); cbv)
      | (refine Ar.mulB hA 3000000000 3000000000 (by omega) (by omega) (by omega) (fun _ _ _ _ => ?_); cbv)
      | (refine Ar.nz_ hA (by omega) ?_; cbv)
      | (refine Ar.rem_ hA (by omega) (fun _ _ => ?_); cbv)
      | (refine Ar.quo_ hA (by omega) (fun _ _ => ?_); cbv)
      | (refine Ar.mx_ hA (fun _ _ => ?_); cbv)
      | (refine Ar.mn_ hA (fun _ _ => ?_); cbv)
      | (refine Ar.len_ hA (fun _ _ _ => ?_); cbv)
      | (refine Ar.lenN_ hA (fun _ _ => ?_); cbv)
      | (refine Ar.bneq_ hA (fun _ => ?_) (fun _ => ?_) <;> cbv)
      | (refine Ar.beq_ hA (fun _ => ?_) (fun _ => ?_) <;> cbv)
      | (refine Ar.ofN_ hA (fun _ _ _ => ?_); cbv)
)
    rename_i a ha b hb'
    refine Ar.app_ hA (fun r' hr' => ?_)
    cbv
    refine Ar.fitsL_ hA (by rw [hr', List.length_append]; simp only [List.length_singleton]; omega) ?_
    cbv
    refine Ar.add_ hA (by omega) (fun i' hi' => ?_)
    cbv
    refine ⟨(i', r'), (by show (n - i').toNat < (n - i).toNat; omega), ⟨by omega, by omega, ?_⟩, rfl, ⟨rfl, rfl, rfl, rfl, rfl, rfl, trivial⟩, rfl, rfl, trivial⟩
    rw [show i'.toNat = j + 1 by omega, key, List.map_append, hj, ← h3, hr', ha, hb']; rfl
  · rw [List.take_of_length_le (by omega)] at h3
    obtain ⟨L, hL⟩ : ∃ L, L = moveF l dx dy := ⟨_, rfl⟩
    have hLl : L.length ≤ 1048576 := by rw [hL]; simp [moveF]; omega
    rw [← hL] at h3
    have hgm : goodMove l dx dy = L.all P2.ok := by unfold goodMove; rw [hg, hL]; rfl
    have hm : moveR l dx dy = if L.all P2.ok then L else [] := by unfold moveR; rw [hgm, hL]
    rw [hm, hgm] at hK
    cbv
    refine Ar.callT hA c_impl_arePts (d_impl_arePts h3 hLl) rfl (fun he => ?_) (fun he => ?_)
    · cbv
      repeat' (first
        | (refine Ar.nn_ hA (by omega) ?_; cbv)
        | (refine Ar.toN_ hA (fun _ _ => ?_); cbv)
        | (refine Ar.notT_ hA ?_; cbv)
        | (refine Ar.notF_ hA ?_; cbv)
        | (refine Ar.lss_ hA (fun _ => ?_) (fun _ => ?_) <;> cbv)
        | (refine Ar.leq_ hA (fun _ => ?_) (fun _ => ?_) <;> cbv)
        | (refine Ar.gtr_ hA (fun _ => ?_) (fun _ => ?_) <;> cbv)
        | (refine Ar.geq_ hA (fun _ => ?_) (fun _ => ?_) <;> cbv)
        | (refine Ar.eql_ hA (fun _ => ?_) (fun _ => ?_) <;> cbv)
        | (refine Ar.neq_ hA (fun _ => ?_) (fun _ => ?_) <;> cbv)
        | (refine Ar.add_ hA (by omega) (fun _ _ => ?_); cbv)
        | (refine Ar.sub_ hA (by omega) (fun _ _ => ?_); cbv)
        | (refine Ar.neg_ hA (by omega) (fun _ _ => ?_); cbv)
        | (refine Ar.mulB hA 2000 2000 (by omega) (by omega) (by omega) (fun _ _ _ _ => ?_); cbv)
        | (refine Ar.mulB hA 3000000000 3000000000 (by omega) (by omega) (by omega) (fun _ _ _ _ => ?_); cbv)
        | (refine Ar.nz_ hA (by omega) ?_; cbv)
        | (refine Ar.rem_ hA (by omega) (fun _ _ => ?_); cbv)
        | (refine Ar.quo_ hA (by omega) (fun _ _ => ?_); cbv)
        | (refine Ar.mx_ hA (fun _ _ => ?_); cbv)
        | (refine Ar.mn_ hA (fun _ _ => ?_); cbv)
        | (refine Ar.len_ hA (fun _ _ _ => ?_); cbv)
        | (refine Ar.lenN_ hA (fun _ _ => ?_); cbv)
        | (refine Ar.bneq_ hA (fun _ => ?_) (fun _ => ?_) <;> cbv)
        | (refine Ar.beq_ hA (fun _ => ?_) (fun _ => ?_) <;> cbv)
        | (refine Ar.ofN_ hA (fun _ _ _ => ?_); cbv)
)
      exact hK _ _ (by rw [he, h3]; rfl) rfl
    · cbv
      repeat' (first
        | (refine Ar.nn_ hA (by omega) ?_; cbv)
        | (refine Ar.toN_ hA (fun _ _ => ?_); cbv)
        | (refine Ar.notT_ hA ?_; cbv)
        | (refine Ar.notF_ hA ?_; cbv)
        | (refine Ar.lss_ hA (fun _ => ?_) (fun _ => ?_) <;> cbv)
        | (refine Ar.leq_ hA (fun _ => ?_) (fun _ => ?_) <;> cbv)
        | (refine Ar.gtr_ hA (fun _ => ?_) (fun _ => ?_) <;> cbv)
        | (refine Ar.geq_ hA (fun _ => ?_) (fun _ => ?_) <;> cbv)
        | (refine Ar.eql_ hA (fun _ => ?_) (fun _ => ?_) <;> cbv)
        | (refine Ar.neq_ hA (fun _ => ?_) (fun _ => ?_) <;> cbv)
        | (refine Ar.add_ hA (by omega) (fun _ _ => ?_); cbv)
        | (refine Ar.sub_ hA (by omega) (fun _ _ => ?_); cbv)
        | (refine Ar.neg_ hA (by omega) (fun _ _ => ?_); cbv)
        | (refine Ar.mulB hA 2000 2000 (by omega) (by omega) (by omega) (fun _ _ _ _ => ?_); cbv)
        | (refine Ar.mulB hA 3000000000 3000000000 (by omega) (by omega) (by omega) (fun _ _ _ _ => ?_); cbv)
        | (refine Ar.nz_ hA (by omega) ?_; cbv)
        | (refine Ar.rem_ hA (by omega) (fun _ _ => ?_); cbv)
        | (refine Ar.quo_ hA (by omega) (fun _ _ => ?_); cbv)
        | (refine Ar.mx_ hA (fun _ _ => ?_); cbv)
        | (refine Ar.mn_ hA (fun _ _ => ?_); cbv)
        | (refine Ar.len_ hA (fun _ _ _ => ?_); cbv)
        | (refine Ar.lenN_ hA (fun _ _ => ?_); cbv)
        | (refine Ar.bneq_ hA (fun _ => ?_) (fun _ => ?_) <;> cbv)
        | (refine Ar.beq_ hA (fun _ => ?_) (fun _ => ?_) <;> cbv)
        | (refine Ar.ofN_ hA (fun _ _ _ => ?_); cbv)
)
      exact hK _ _ (by rw [he]; rfl) rfl

theorem moveR_le {l : List P2} {dx dy : Int} : (moveR l dx dy).length ≤ 12 := by
  unfold moveR
  split
  · rename_i h
    have : goodOn l dx dy = true := by
      unfold goodMove at h
      rw [Bool.and_eq_true] at h
      exact h.1
    have := goodOn_iff this
    simp only [moveF, List.length_map]; omega
  · simp

theorem c_laws_FnExactMovePts : Callable Try.prog 5 := ⟨_, Try.func5, rfl, by kernel_rfl⟩
theorem d_laws_FnExactMovePts {es : List PV} {l : List P2} {dx dy : Int} (hes : es = l.map P2.pv ∧ l.length ≤ 9223372036854775807) (_ : InR dx ∧ InR dy) : Does Try.prog 5 [.sl es, pt dx dy] (.pv (bl true)) [] := by
  refine does_of hT hM Try.func5 rfl (D := []) (by kernel_rfl) rfl rfl rfl (fun A K hA hK => ?_)
  obtain ⟨hes, hmax⟩ := hes
  have hlen : es.length = l.length := by simp [hes]
  have hcl := moveR_le (l := l) (dx := dx) (dy := dy)
  obtain ⟨C, hC⟩ : ∃ C, C = moveR l dx dy := ⟨_, rfl⟩
  have dS := fun (hb : l.length ≤ 1048576) => d_spec_MovePts (dx := dx) (dy := dy) hes hb
  have dI := fun (hb : l.length ≤ 1048576) => d_impl_MovePts (dx := dx) (dy := dy) hes hb
  rw [← hC] at dS dI hcl
  clear hC
  generalize hG : goodMove l dx dy = G at dS dI
  clear hG
  obtain ⟨E, hE⟩ : ∃ E, E = C.map P2.pv := ⟨_, rfl⟩
  rw [← hE] at dS dI
  obtain ⟨M, hM⟩ : ∃ M, M = (up2 l.length 1).map P2.pv := ⟨_, rfl⟩
  obtain ⟨N, hN⟩ : ∃ N, N = (up2 C.length 1).map P2.pv := ⟨_, rfl⟩
  have m1 := fun (hb : l.length ≤ 1048576) => d_laws_markPtS (k := 1) hes hb (by omega)
  have m2 := d_laws_markPtS (k := 1) hE (by omega) (by omega)
  have m3 := d_laws_heldPtS (k := 1) hN (by omega) (by omega)
  have e1 := d_laws_eqPtS hE hE (by omega)
  have e2 := fun (hb : l.length ≤ 1048576) => d_laws_eqPtS hes hes hb
  rw [decide_eq_true rfl] at e1
  simp only [decide_eq_true rfl] at e2
  rw [← hM] at m1
  rw [← hN] at m2
  obtain ⟨u, hu⟩ : ∃ u, u = on2 l.length 1 := ⟨_, rfl⟩
  obtain ⟨v, hv⟩ : ∃ v, v = on2 C.length 1 := ⟨_, rfl⟩
  have hu0 := on2_pos hu (by omega)
  have hv0 := on2_pos hv (by omega)
  rw [← hu] at m1
  rw [← hv] at m2 m3
  clear hu hv hM hN hE
  cbv
  refine Ar.callI hA c_laws_szPtS (d_laws_szPtS (by omega) (by omega)) rfl (fun r hr => ?_)
  cbv
  refine Ar.lss_ hA (fun h => ?_) (fun h => ?_)
  · cbv
    exact hK _ _ rfl rfl
  have hb : l.length ≤ 1048576 := by have := szF_le hr h; omega
  have dS := dS hb
  have dI := dI hb
  have m1 := m1 hb
  have e2 := e2 hb
  cbv
  repeat' (first
    | (refine Ar.call_ hA c_laws_toPtS (d_laws_toPtS hes hb) rfl ?_; cbv)
    | (refine Ar.call_ hA c_laws_toPt d_laws_toPt rfl ?_; cbv)
    | (refine Ar.call_ hA c_spec_MovePts dS rfl ?_; cbv)
    | (refine Ar.call_ hA c_impl_MovePts dI rfl ?_; cbv)
    | (refine Ar.call_ hA c_laws_eqPtS e1 rfl ?_; cbv)
    | (refine Ar.call_ hA c_laws_eqPtS e2 rfl ?_; cbv)
    | (refine Ar.call_ hA c_laws_markPtS m1 rfl ?_; cbv)
    | (refine Ar.call_ hA c_laws_markPtS m2 rfl ?_; cbv)
    | (refine Ar.call_ hA c_laws_heldPtS m3 rfl ?_; cbv)
    | (refine Ar.notT_ hA ?_; cbv)
    | (refine Ar.bneq_ hA (fun h => absurd rfl h) (fun _ => ?_); cbv)
    | (refine Ar.neq_ hA (fun h => absurd rfl h) (fun _ => ?_); cbv)
    | (refine Ar.lss_ hA (fun h => absurd h (by omega)) (fun _ => ?_); cbv))
  exact hK _ _ rfl rfl

end Go.VAI
