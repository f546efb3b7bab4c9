/- Rows of numbers: copies, comparing, marks. -/
import Derived.Test.YtialfhjffkoakaaGreatB
namespace Go.VAI
open Go.Proofs
set_option maxRecDepth 100000
set_option maxHeartbeats 8000000

theorem take_all {α : Type} {l l' : List α} (hl : l.length = l'.length) {i : Nat} (h : l.take i = l'.take i) (hi : l.length ≤ i) : l = l' := by
  rwa [List.take_of_length_le hi, List.take_of_length_le (by omega)] at h
theorem take_next {α : Type} {l l' : List α} {j : Nat} {p : α} (h : l.take j = l'.take j) (hp : l[j]? = some p) (hp' : l'[j]? = some p) : l.take (j + 1) = l'.take (j + 1) := by
  rw [List.take_add_one, List.take_add_one, h, hp, hp']

theorem c_laws_toIntS : Callable Tryz.prog 92 := ⟨_, Tryz.func92, rfl, by kernel_rfl⟩
theorem d_laws_toIntS {es : List PV} {l : List Int} (hes : es = l.map i64) (hb : l.length ≤ 1048576) : Does Tryz.prog 92 [.sl es] (.row es 1 .free) [] := by
  refine does_of hT hM Tryz.func92 rfl (D := []) (by kernel_rfl) rfl rfl rfl (fun A K hA hK => ?_)
  have hlen : es.length = l.length := by simp [hes]
  cbv
  refine Ar.len_ hA (fun n hn hn' => ?_)
  cbv
  refine Ar.nn_ hA hn ?_
  cbv
  refine Ar.toN_ hA (fun m hm => ?_)
  cbv
  refine Ar.fits_ hA (by omega) ?_
  cbv
  refine Ar.rep_ hA (fun r0 hr0 => ?_)
  cbv
  refine Ar.loop_ hA (α := Int × List PV) (fun x => (n - x.1).toNat) (fun (i, r) => 0 ≤ i ∧ i ≤ n ∧ r = es.take i.toNat ++ List.replicate (m - i.toNat) (i64 0)) 22 (fun (i, r) => [(0, .pv (.sl es) []), (3, .own 7 none), (4, .pv (i64 i) [])]) (fun (i, r) => [(7, some (.row r 1 .free false))]) (0, r0) ⟨rfl, ⟨rfl, rfl, rfl, trivial⟩, rfl, trivial⟩ ⟨by omega, by omega, by rw [hr0]; simp⟩ ?_
  intro ⟨i, r⟩ s f ⟨h1, h2, h3⟩
  cbv
  refine Ar.len_ hA (fun n2 hn2 hn2' => ?_)
  cbv
  refine Ar.lss_ hA (fun h => ?_) (fun h => ?_)
  · cbv
    refine Ar.nn_ hA (by omega) ?_
    cbv
    refine Ar.toN_ hA (fun j hj => ?_)
    cbv
    obtain ⟨p, hp⟩ : ∃ p, l[j]? = some p := ⟨l[j]'(by omega), List.getElem?_eq_getElem _⟩
    refine Ar.idx_ hA (x := i64 p) (by simp [hes, hp, P2.pv]) ?_
    cbv
    refine Ar.nn_ hA h1 ?_
    cbv
    refine Ar.toN_ hA (fun j2 hj2 => ?_)
    cbv
    have hrl : r.length = m := by rw [h3]; simp; omega
    obtain ⟨y, hy⟩ : ∃ y, r[j2]? = some y := ⟨r[j2]'(by omega), List.getElem?_eq_getElem _⟩
    have hy0 : y = i64 0 := by
      rw [h3, List.getElem?_append_right (by simp; omega)] at hy
      simp only [List.getElem?_replicate] at hy
      split at hy
      · exact (Option.some.inj hy).symm
      · cases hy
    refine Ar.idx_ hA (x := i64 0) (by rw [hy, hy0]) ?_
    cbv
    refine Ar.idx_ hA (x := i64 0) (by rw [hy, hy0]) ?_
    cbv
    refine Ar.set_ hA (fun r' hr' => ?_)
    cbv
    refine Ar.add_ hA (by omega) (fun k hk => ?_)
    cbv
    refine ⟨(k, r'), (by show (n - k).toNat < (n - i).toNat; omega), ⟨by omega, by omega, ?_⟩, rfl, ⟨rfl, rfl, rfl, trivial⟩, rfl, trivial⟩
    rw [hr', h3, show k.toNat = j2 + 1 by omega, show i.toNat = j2 by omega]
    exact fill_step (by omega) (by rw [show j2 = j by omega, hes]; simp [hp])
  · cbv
    refine hK _ _ ?_ rfl
    rw [h3, List.take_of_length_le (by omega), show m - i.toNat = 0 by omega]
    simp

theorem c_laws_eqIntS : Callable Tryz.prog 86 := ⟨_, Tryz.func86, rfl, by kernel_rfl⟩
theorem d_laws_eqIntS {es es' : List PV} {l l' : List Int} (hes : es = l.map i64) (hes' : es' = l'.map i64) (hb : l.length ≤ 1048576) : Does Tryz.prog 86 [.sl es, .sl es'] (.pv (bl (decide (l = l')))) [] := by
  refine does_of hT hM Tryz.func86 rfl (D := []) (by kernel_rfl) rfl rfl rfl (fun A K hA hK => ?_)
  have hlen : es.length = l.length := by simp [hes]
  have hlen' : es'.length = l'.length := by simp [hes']
  cbv
  refine Ar.len_ hA (fun n hn hn' => ?_)
  cbv
  refine Ar.len_ hA (fun n' hm hm' => ?_)
  cbv
  refine Ar.neq_ hA (fun h => ?_) (fun h => ?_)
  · cbv
    have : l ≠ l' := fun e => by subst e; omega
    exact hK _ _ (by simp [this]) rfl
  cbv
  refine Ar.loop_ hA (α := Int) (fun i => (n - i).toNat) (fun i => 0 ≤ i ∧ i ≤ n ∧ l.take i.toNat = l'.take i.toNat) 26 (fun i => [(0, .pv (.sl es) []), (1, .pv (.sl es') []), (5, .pv (i64 i) [])]) (fun _ => []) 0 ⟨rfl, ⟨rfl, rfl, rfl, trivial⟩, trivial⟩ ⟨by omega, by omega, by simp⟩ ?_
  intro i s f ⟨h1, h2, h3⟩
  cbv
  refine Ar.len_ hA (fun n2 hn2 hn2' => ?_)
  cbv
  refine Ar.lss_ hA (fun h => ?_) (fun h => ?_)
  · cbv
    refine Ar.nn_ hA (by omega) ?_
    cbv
    refine Ar.toN_ hA (fun j hj => ?_)
    cbv
    obtain ⟨p, hp⟩ : ∃ p, l[j]? = some p := ⟨l[j]'(by omega), List.getElem?_eq_getElem _⟩
    refine Ar.idx_ hA (x := i64 p) (by simp [hes, hp, P2.pv]) ?_
    cbv
    refine Ar.nn_ hA (by omega) ?_
    cbv
    refine Ar.toN_ hA (fun j' hj' => ?_)
    cbv
    obtain ⟨p', hp'⟩ : ∃ p, l'[j']? = some p := ⟨l'[j']'(by omega), List.getElem?_eq_getElem _⟩
    refine Ar.idx_ hA (x := i64 p') (by simp [hes', hp', P2.pv]) ?_
    cbv
    have hjj : j' = j := by omega
    refine Ar.neq_ hA (fun hb => ?_) (fun hpp => ?_)
    · cbv
      have : l ≠ l' := fun e => hb (by subst e; rw [hjj, hp] at hp'; exact Option.some.inj hp')
      exact hK _ _ (by simp [this]) rfl
    · cbv
      refine Ar.add_ hA (by omega) (fun k hk => ?_)
      cbv
      refine ⟨k, by omega, ⟨by omega, by omega, ?_⟩, rfl, ⟨rfl, rfl, rfl, trivial⟩, trivial⟩
      rw [show k.toNat = j + 1 by omega]
      exact take_next (by rw [hj]; exact h3) hp (by rw [hpp, ← hjj]; exact hp')
  · cbv
    have : l = l' := take_all (by omega) h3 (by omega)
    exact hK _ _ (by simp [this]) rfl

/-- n numbers from k on. -/
def countUp (n : Nat) (k : Int) : List Int := (List.range n).map fun i : Nat => k + (i : Int)
theorem countUp_get {n j : Nat} {k : Int} (h : j < n) : (countUp n k)[j]? = some (k + (j : Int)) := by
  simp [countUp, h]
theorem countUp_len {n : Nat} {k : Int} : (countUp n k).length = n := by simp [countUp]
/-- n on from k. -/
def onFrom (n : Nat) (k : Int) : Int := k + (n : Int)

theorem c_laws_markIntS : Callable Tryz.prog 43 := ⟨_, Tryz.func43, rfl, by kernel_rfl⟩
theorem d_laws_markIntS {es : List PV} {l : List Int} {k : Int} (hes : es = l.map i64) (hb : l.length ≤ 1048576) (hk : 0 ≤ k ∧ k ≤ 4611686018427387904) : Does Tryz.prog 43 [.sl es, i64 k] (.pv (i64 (onFrom l.length k))) [.sl ((countUp l.length k).map i64)] := by
  refine does_of hT hM Tryz.func43 rfl (D := []) (by kernel_rfl) rfl rfl rfl (fun A K hA hK => ?_)
  have hlen : es.length = l.length := by simp [hes]
  obtain ⟨L, hL⟩ : ∃ L, L = (countUp l.length k).map i64 := ⟨_, rfl⟩
  have hLl : L.length = l.length := by rw [hL]; simp [countUp_len]
  have hLg : ∀ j, j < l.length → L[j]? = some (i64 (onFrom j k)) := by
    intro j hj
    rw [hL, List.getElem?_map, countUp_get hj]; rfl
  rw [← hL] at hK
  cbv
  refine Ar.loop_ hA (α := Int × List PV × Int) (fun x => l.length - x.1.toNat) (fun (i, r, q) => 0 ≤ i ∧ i.toNat ≤ l.length ∧ r = L.take i.toNat ++ es.drop i.toNat ∧ q = k + i) 19 (fun (i, r, q) => [(0, .own 0 none), (1, .pv (i64 q) []), (5, .pv (i64 i) [])]) (fun (i, r, q) => [(0, some (.row r 1 .free true))]) (0, es, k) ⟨rfl, ⟨rfl, rfl, rfl, trivial⟩, rfl, trivial⟩ ⟨by omega, by simp, by simp, by omega⟩ ?_
  intro ⟨i, r, q⟩ s f ⟨h1, h2, h3, h4⟩
  have hrl : r.length = l.length := by rw [h3]; simp; omega
  cbv
  refine Ar.len_ hA (fun n2 hn2 hn2' => ?_)
  cbv
  refine Ar.lss_ hA (fun h => ?_) (fun h => ?_)
  · cbv
    refine Ar.nn_ hA h1 ?_
    cbv
    refine Ar.toN_ hA (fun j hj => ?_)
    cbv
    obtain ⟨p, hp⟩ : ∃ p, l[j]? = some p := ⟨l[j]'(by omega), List.getElem?_eq_getElem _⟩
    have hrj : r[j]? = some (i64 p) := by
      rw [h3, hj, over_get (by omega) (by omega), ← hj, hes]
      simp [hp]
    refine Ar.idx_ hA (x := i64 p) hrj ?_
    cbv
    refine Ar.idx_ hA (x := i64 p) hrj ?_
    cbv
    refine Ar.set_ hA (fun r' hr' => ?_)
    cbv
    refine Ar.add_ hA (by omega) (fun q' hq' => ?_)
    cbv
    refine Ar.add_ hA (by omega) (fun k' hk' => ?_)
    cbv
    refine ⟨(k', r', q'), (by show l.length - k'.toNat < l.length - i.toNat; omega), ⟨by omega, by omega, ?_, by omega⟩, rfl, ⟨rfl, rfl, rfl, trivial⟩, rfl, trivial⟩
    have hLj := hLg j (by omega)
    have hq : q = onFrom j k := by unfold onFrom; omega
    rw [hr', h3, show k'.toNat = j + 1 by omega, ← hj, hq]
    exact over_step (by omega) hLj
  · cbv
    refine Ar.same_ hA (by omega) ?_
    cbv
    refine hK _ _ ?_ ?_
    · have : q = onFrom l.length k := by unfold onFrom; omega
      rw [this]
    · rw [h3, List.take_of_length_le (by omega), List.drop_eq_nil_of_le (by omega)]; simp

theorem c_laws_heldIntS : Callable Tryz.prog 67 := ⟨_, Tryz.func67, rfl, by kernel_rfl⟩
theorem d_laws_heldIntS {es : List PV} {n : Nat} {k : Int} (hes : es = (countUp n k).map i64) (hb : n ≤ 1048576) (hk : 0 ≤ k ∧ k ≤ 4611686018427387904) : Does Tryz.prog 67 [.sl es, i64 k] (.pv (i64 (onFrom n k))) [] := by
  refine does_of hT hM Tryz.func67 rfl (D := []) (by kernel_rfl) rfl rfl rfl (fun A K hA hK => ?_)
  have hlen : es.length = n := by simp [hes, countUp_len]
  have hg : ∀ j, j < n → es[j]? = some (i64 (onFrom j k)) := by
    intro j hj
    rw [hes, List.getElem?_map, countUp_get hj]; rfl
  cbv
  refine Ar.loop_ hA (α := Int × Int) (fun x => n - x.1.toNat) (fun (i, q) => 0 ≤ i ∧ i.toNat ≤ n ∧ q = k + i) 21 (fun (i, q) => [(0, .pv (.sl es) []), (1, .pv (i64 q) []), (5, .pv (i64 i) [])]) (fun _ => []) (0, k) ⟨rfl, ⟨rfl, rfl, rfl, trivial⟩, trivial⟩ ⟨by omega, by omega, by omega⟩ ?_
  intro ⟨i, q⟩ s f ⟨h1, h2, h4⟩
  cbv
  refine Ar.len_ hA (fun n2 hn2 hn2' => ?_)
  cbv
  refine Ar.lss_ hA (fun h => ?_) (fun h => ?_)
  · cbv
    refine Ar.nn_ hA h1 ?_
    cbv
    refine Ar.toN_ hA (fun j hj => ?_)
    cbv
    obtain ⟨p, hp⟩ : ∃ p, p = onFrom j k := ⟨_, rfl⟩
    have hq : q = p := by rw [hp]; unfold onFrom; omega
    refine Ar.idx_ hA (x := i64 p) (by rw [hp]; exact hg j (by omega)) ?_
    cbv
    refine Ar.neq_ hA (fun hne => absurd hq.symm hne) (fun he => ?_)
    cbv
    refine Ar.add_ hA (by omega) (fun q' hq' => ?_)
    cbv
    refine Ar.add_ hA (by omega) (fun k' hk' => ?_)
    cbv
    exact ⟨(k', q'), (by show n - k'.toNat < n - i.toNat; omega), ⟨by omega, by omega, by omega⟩, rfl, ⟨rfl, rfl, rfl, trivial⟩, trivial⟩
  · cbv
    refine hK _ _ ?_ rfl
    have : q = onFrom n k := by unfold onFrom; omega
    rw [this]

end Go.VAI
