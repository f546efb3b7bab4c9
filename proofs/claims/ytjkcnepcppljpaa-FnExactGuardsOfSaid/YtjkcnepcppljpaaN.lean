/- Marks on points. -/
import Derived.Test.YtjkcnepcppljpaaM
namespace Go.VAI
open Go.Proofs
set_option maxRecDepth 100000
set_option maxHeartbeats 8000000

/-- n points whose numbers count on from k. -/
def up2 (n : Nat) (k : Int) : List P2 := (List.range n).map fun i : Nat => ⟨k + 2 * (i : Int), k + 2 * (i : Int) + 1⟩
theorem up2_get {n j : Nat} {k : Int} (h : j < n) : (up2 n k)[j]? = some ⟨k + 2 * (j : Int), k + 2 * (j : Int) + 1⟩ := by
  simp [up2, h]
theorem up2_len {n : Nat} {k : Int} : (up2 n k).length = n := by simp [up2]
/-- 2n on from k. -/
def on2 (n : Nat) (k : Int) : Int := k + 2 * (n : Int)
theorem on2_pos {n : Nat} {k r : Int} (h : r = on2 n k) (hk : 0 ≤ k) : 0 ≤ r := by unfold on2 at h; omega

theorem c_laws_markPtS : Callable Try.prog 13 := ⟨_, Try.func13, rfl, by kernel_rfl⟩
theorem d_laws_markPtS {es : List PV} {l : List P2} {k : Int} (hes : es = l.map P2.pv) (hb : l.length ≤ 1048576) (hk : 0 ≤ k ∧ k ≤ 1099511627776) : Does Try.prog 13 [.sl es, i64 k] (.pv (i64 (on2 l.length k))) [.sl ((up2 l.length k).map P2.pv)] := by
  refine does_of hT hM Try.func13 rfl (D := []) (by kernel_rfl) rfl rfl rfl (fun A K hA hK => ?_)
  have hlen : es.length = l.length := by simp [hes]
  obtain ⟨L, hL⟩ : ∃ L, L = (up2 l.length k).map P2.pv := ⟨_, rfl⟩
  have hLl : L.length = l.length := by rw [hL]; simp [up2_len]
  have hLg : ∀ j, j < l.length → L[j]? = some (pt (on2 j k) (on2 j k + 1)) := by
    intro j hj
    rw [hL, List.getElem?_map, up2_get hj]; rfl
  rw [← hL] at hK
  cbv
  refine Ar.loop_ hA (α := Int × List PV × Int) (fun x => l.length - x.1.toNat) (fun (i, r, q) => 0 ≤ i ∧ i.toNat ≤ l.length ∧ r = L.take i.toNat ++ es.drop i.toNat ∧ q = k + 2 * i) 27 (fun (i, r, q) => [(0, .own 0 none), (1, .pv (i64 q) []), (5, .pv (i64 i) [])]) (fun (i, r, q) => [(0, some (.row r 2 .free true))]) (0, es, k) ⟨rfl, ⟨rfl, rfl, rfl, trivial⟩, rfl, trivial⟩ ⟨by omega, by simp, by simp, by omega⟩ ?_
  intro ⟨i, r, q⟩ s f ⟨h1, h2, h3, h4⟩
  have hrl : r.length = l.length := by rw [h3]; simp; omega
  cbv
  refine Ar.len_ hA (fun n2 hn2 hn2' => ?_)
  cbv
  refine Ar.lss_ hA (fun h => ?_) (fun h => ?_)
  · cbv
    refine Ar.nn_ hA h1 ?_
    cbv
    refine Ar.toN_ hA (fun j hj => ?_)
    cbv
    obtain ⟨⟨px, py⟩, hp⟩ : ∃ p, l[j]? = some p := ⟨l[j]'(by omega), List.getElem?_eq_getElem _⟩
    have hrj : r[j]? = some (pt px py) := by
      rw [h3, hj, over_get (by omega) (by omega), ← hj, hes]
      simp [hp, P2.pv]
    refine Ar.idx_ hA (x := pt px py) hrj ?_
    cbv
    refine Ar.idx_ hA (x := pt px py) hrj ?_
    cbv
    refine Ar.set_ hA (fun r1 hr1 => ?_)
    cbv
    refine Ar.add_ hA (by omega) (fun q1 hq1 => ?_)
    cbv
    refine Ar.nn_ hA h1 ?_
    cbv
    refine Ar.toN_ hA (fun j' hj' => ?_)
    obtain rfl : j = j' := by omega
    have hrj1 : r1[j]? = some (pt q py) := by
      rw [hr1, List.getElem?_set_self (by omega)]
    cbv
    refine Ar.idx_ hA (x := pt q py) hrj1 ?_
    cbv
    refine Ar.idx_ hA (x := pt q py) hrj1 ?_
    cbv
    refine Ar.set_ hA (fun r2 hr2 => ?_)
    cbv
    refine Ar.add_ hA (by omega) (fun q2 hq2 => ?_)
    cbv
    refine Ar.add_ hA (by omega) (fun k' hk' => ?_)
    cbv
    refine ⟨(k', r2, q2), (by show l.length - k'.toNat < l.length - i.toNat; omega), ⟨by omega, by omega, ?_, by omega⟩, rfl, ⟨rfl, rfl, rfl, trivial⟩, rfl, trivial⟩
    have hLj := hLg j (by omega)
    have hq : q = on2 j k := by unfold on2; omega
    rw [hr2, hr1, h3, List.set_set, show k'.toNat = j + 1 by omega, ← hj, hq1, hq]
    exact over_step (by omega) hLj
  · cbv
    refine Ar.same_ hA (by omega) ?_
    cbv
    refine hK _ _ ?_ ?_
    · have : q = on2 l.length k := by unfold on2; omega
      rw [this]
    · rw [h3, List.take_of_length_le (by omega), List.drop_eq_nil_of_le (by omega)]; simp

end Go.VAI
