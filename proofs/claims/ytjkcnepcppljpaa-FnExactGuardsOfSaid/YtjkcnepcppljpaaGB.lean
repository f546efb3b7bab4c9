/- Ears of the corners that are left of a simple way. -/
import Derived.Test.YtjkcnepcppljpaaGA
namespace Go.VAI
open Geo

def cor (left : List Nat) (i : Nat) : Nat := (left[i % left.length]?).getD 0
def poly (l : List P2) (left : List Nat) (i : Nat) : P2 := at0 l (cor left i)
def earF (l : List P2) (left : List Nat) (turn : Int) (k : Nat) : Bool :=
  decide (sgn (cross (poly l left (k + left.length - 1)) (poly l left k) (poly l left (k + 1))) = turn) &&
  left.all fun i => decide (i = cor left (k + left.length - 1)) || decide (i = cor left k) || decide (i = cor left (k + 1)) || !inTriS (poly l left (k + left.length - 1)) (poly l left k) (poly l left (k + 1)) (at0 l i)

structure GoodLeft (l : List P2) (left : List Nat) (s : Int) : Prop where
  nd : left.Nodup
  lt : ∀ i ∈ left, i < l.length
  sim : Simple left.length (poly l left)
  tr : Turns left.length (poly l left) s

theorem cor_per (left : List Nat) (i : Nat) : cor left (i + left.length) = cor left i := by unfold cor; rw [Nat.add_mod_right]
theorem poly_per (l : List P2) (left : List Nat) (i : Nat) : poly l left (i + left.length) = poly l left i := by unfold poly; rw [cor_per]
theorem cor_mod (left : List Nat) (i : Nat) : cor left (i % left.length) = cor left i := by unfold cor; rw [Nat.mod_mod]
theorem cor_lt {left : List Nat} {i : Nat} (h : i < left.length) : left[i]? = some (cor left i) := by
  unfold cor; rw [Nat.mod_eq_of_lt h, List.getElem?_eq_getElem h]; rfl
theorem cor_mem {left : List Nat} (h : 0 < left.length) (i : Nat) : cor left i ∈ left := by
  rw [← cor_mod]
  exact List.mem_of_getElem? (cor_lt (Nat.mod_lt _ h))
theorem mem_cor {left : List Nat} {x : Nat} (h : x ∈ left) : ∃ c, c < left.length ∧ x = cor left c := by
  obtain ⟨c, hc, e⟩ := List.mem_iff_getElem.1 h
  refine ⟨c, hc, ?_⟩
  have := cor_lt hc
  rw [List.getElem?_eq_getElem hc, e] at this
  exact Option.some.inj this
theorem cor_inj {left : List Nat} (nd : left.Nodup) (h : 0 < left.length) {i j : Nat} (e : cor left i = cor left j) : i % left.length = j % left.length := by
  rw [← cor_mod left i, ← cor_mod left j] at e
  have hi := Nat.mod_lt i h
  have hj := Nat.mod_lt j h
  generalize i % left.length = i at *
  generalize j % left.length = j at *
  have e1 := cor_lt hi
  have e2 := cor_lt hj
  rw [e] at e1
  exact (List.getElem?_inj hi nd).1 (e1.trans e2.symm)

theorem sgn_val {s x : Int} (hs : s = 1 ∨ s = -1) : (0 < s * x ↔ sgn x = s) := by
  unfold sgn
  rcases hs with rfl | rfl <;> (repeat' split) <;> omega
theorem sgn_nn (x : Int) : (0 ≤ sgn x ↔ 0 ≤ x) ∧ (sgn x ≤ 0 ↔ x ≤ 0) := by
  unfold sgn
  (repeat' split) <;> omega
theorem inS_iff {s : Int} {a b c x : P2} (hs : s = 1 ∨ s = -1) (h : 0 < s * cross a b c) : (inTriS a b c x = true ↔ InT s a b c x) := by
  have e := cross_sum a b c x
  unfold inTriS InT
  simp only [Bool.or_eq_true, Bool.and_eq_true, decide_eq_true_eq, sgn_nn]
  rcases hs with rfl | rfl <;> omega

theorem at_back {l : List P2} {left : List Nat} (k : Nat) (h : 0 < left.length) : poly l left (k + left.length - 1) = poly l left (k + (left.length - 1)) := by
  rw [show k + left.length - 1 = k + (left.length - 1) by omega]

/-- What the test says. -/
theorem earF_iff {l : List P2} {left : List Nat} {s : Int} {k : Nat} (hs : s = 1 ∨ s = -1) (nd : left.Nodup) (h3 : 3 ≤ left.length) :
    earF l left s k = true ↔ 0 < s * cross (poly l left (k + left.length - 1)) (poly l left k) (poly l left (k + 1)) ∧
      ∀ j, 2 ≤ j → j + 2 ≤ left.length → ¬ InT s (poly l left (k + left.length - 1)) (poly l left k) (poly l left (k + 1)) (poly l left (j + k)) := by
  unfold earF
  rw [Bool.and_eq_true, decide_eq_true_eq, List.all_eq_true, sgn_val hs]
  refine and_congr_right fun hD => ?_
  rw [← sgn_val hs] at hD
  simp only [Bool.or_eq_true, decide_eq_true_eq, Bool.not_eq_true', ← Bool.not_eq_true, inS_iff hs hD]
  constructor
  · intro h j j1 j2 hin
    have := h (cor left (j + k)) (cor_mem (by omega) _)
    rcases this with ((g | g) | g) | g
    · have := cor_inj nd (by omega) g
      exact mod_ne (n := left.length) (t := j + k) (k := left.length - 1 - j) (by omega) (by omega) (by rw [this, show j + k + (left.length - 1 - j) = k + left.length - 1 by omega])
    · have := cor_inj nd (by omega) g
      exact mod_ne (n := left.length) (t := k) (k := j) (by omega) (by omega) (by rw [Nat.add_comm, this])
    · have := cor_inj nd (by omega) g
      exact mod_ne (n := left.length) (t := k + 1) (k := j - 1) (by omega) (by omega) (by rw [show k + 1 + (j - 1) = j + k by omega, this])
    · exact g hin
  · intro h x hx
    obtain ⟨c, hc, rfl⟩ := mem_cor hx
    by_cases g : ∃ j, j < left.length ∧ c % left.length = (j + k) % left.length
    · obtain ⟨j, hj, e⟩ := g
      have ec : cor left c = cor left (j + k) := by rw [← cor_mod left c, e, cor_mod]
      rw [ec]
      by_cases j0 : j = 0
      · subst j0; rw [Nat.zero_add]; exact .inl (.inl (.inr rfl))
      by_cases j1 : j = 1
      · subst j1; rw [Nat.add_comm]; exact .inl (.inr rfl)
      by_cases j2 : j + 1 = left.length
      · refine .inl (.inl (.inl ?_))
        rw [show j + k = k + left.length - 1 by omega]
      · exact .inr (h j (by omega) (by omega))
    · refine absurd ?_ g
      have hk := Nat.mod_lt k (show 0 < left.length by omega)
      refine ⟨(c + left.length - k % left.length) % left.length, Nat.mod_lt _ (by omega), ?_⟩
      rw [Nat.mod_add_mod, ← Nat.add_mod_mod, show c + left.length - k % left.length + k % left.length = c + left.length by omega, Nat.add_mod_right]

/-- There is an ear. -/
theorem good_ear {l : List P2} {left : List Nat} {s : Int} (g : GoodLeft l left s) : ∃ k, k < left.length ∧ earF l left s k = true := by
  obtain ⟨t, ht, e⟩ := ears _ _ _ g.sim g.tr
  have n3 := g.sim.n3
  have lo := e.lo
  have hs := g.tr.1
  have eb : poly l left (t + left.length - 1) = poly l left (t - 1) := by rw [show t + left.length - 1 = t - 1 + left.length by omega, poly_per]
  refine ⟨t, by omega, (earF_iff hs g.nd n3).2 ⟨by rw [eb]; exact e.D, fun j j1 j2 => ?_⟩⟩
  rw [eb]
  refine e.emp (j + t) (fun q => ?_) (fun q => ?_) (fun q => ?_)
  · exact mod_ne (n := left.length) (t := t - 1) (k := j + 1) (by omega) (by omega) (by rw [show t - 1 + (j + 1) = j + t by omega]; exact q)
  · exact mod_ne (n := left.length) (t := t) (k := j) (by omega) (by omega) (by rw [Nat.add_comm]; exact q)
  · exact mod_ne (n := left.length) (t := t + 1) (k := j - 1) (by omega) (by omega) (by rw [show t + 1 + (j - 1) = j + t by omega]; exact q)

theorem Geo.Simple.unshift {n k : Nat} {p : Nat → P2} (hn : 0 < n) (hp : ∀ i, p (i + n) = p i) (h : Simple n (fun i => p (i + k))) : Simple n p := by
  have := h.shift (n * k - k)
  have e : k ≤ n * k := Nat.le_mul_of_pos_left k hn
  have e2 : (fun i => p (i + (n * k - k) + k)) = p := by
    funext i
    rw [show i + (n * k - k) + k = i + n * k by omega, per_mul hp]
  rwa [e2] at this

theorem cor_erase {left : List Nat} {k : Nat} (hk : k < left.length) (h2 : 2 ≤ left.length) {i : Nat} (hi : i + 1 < left.length) : cor (left.eraseIdx k) (i + k) = cor left (i + 1 + k) := by
  unfold cor
  have hm : (left.eraseIdx k).length = left.length - 1 := by rw [List.length_eraseIdx, if_pos hk]
  rw [hm]
  congr 1
  rw [List.getElem?_eraseIdx]
  by_cases g : i + k < left.length - 1
  · rw [Nat.mod_eq_of_lt g, if_neg (by omega), Nat.mod_eq_of_lt (show i + 1 + k < left.length by omega), show i + k + 1 = i + 1 + k by omega]
  · have e1 : (i + k) % (left.length - 1) = i + k - (left.length - 1) := by
      rw [Nat.mod_eq_sub_mod (by omega), Nat.mod_eq_of_lt (by omega)]
    have e2 : (i + 1 + k) % left.length = i + k - (left.length - 1) := by
      rw [Nat.mod_eq_sub_mod (by omega), Nat.mod_eq_of_lt (by omega)]; omega
    rw [e1, e2, if_pos (by omega)]

/-- What is left when an ear is cut off. -/
theorem good_cut {l : List P2} {left : List Nat} {s : Int} {k : Nat} (g : GoodLeft l left s) (h4 : 4 ≤ left.length) (hk : k < left.length) (he : earF l left s k = true) : GoodLeft l (left.eraseIdx k) s := by
  have hs := g.tr.1
  obtain ⟨hD, hemp⟩ := (earF_iff hs g.nd (by omega)).1 he
  have hm : (left.eraseIdx k).length = left.length - 2 + 1 := by rw [List.length_eraseIdx, if_pos hk]; omega
  have hq := g.sim.shift k
  have eb : poly l left (left.length - 1 + k) = poly l left (k + left.length - 1) := by rw [show left.length - 1 + k = k + left.length - 1 by omega]
  have hD' : 0 < s * cross ((fun i => poly l left (i + k)) (left.length - 1)) ((fun i => poly l left (i + k)) 0) ((fun i => poly l left (i + k)) 1) := by
    show 0 < s * cross (poly l left (left.length - 1 + k)) (poly l left (0 + k)) (poly l left (1 + k))
    rw [eb, Nat.zero_add, Nat.add_comm 1 k]; exact hD
  have hemp' : ∀ j, 2 ≤ j → j + 2 ≤ left.length → ¬ InT s ((fun i => poly l left (i + k)) (left.length - 1)) ((fun i => poly l left (i + k)) 0) ((fun i => poly l left (i + k)) 1) ((fun i => poly l left (i + k)) j) := by
    show ∀ j, 2 ≤ j → j + 2 ≤ left.length → ¬ InT s (poly l left (left.length - 1 + k)) (poly l left (0 + k)) (poly l left (1 + k)) (poly l left (j + k))
    rw [eb, Nat.zero_add, Nat.add_comm 1 k]; exact hemp
  have fr := cut_free hq h4 hD' hemp'
  have sim := (hq.shift 1).sub fr (by omega)
  obtain ⟨s', t'⟩ := turns _ _ sim
  have ss : s' = s := by
    obtain ⟨s2, t2⟩ := turns _ _ hq
    have t3 := Turns.unshift (by omega) g.sim.per t2
    have e2 : s2 = s := (sgn_mul hs t2.1 g.tr.2.1 (Int.le_of_lt t3.2.1))
    subst e2
    obtain ⟨t, a, b, -, n0, -, hh⟩ := hull_off hq 0 0
    have k1 := turns_cut hq h4 hD' hemp' t' (t := t) (by rwa [Nat.zero_mod] at n0) hh
    have k2 := t2.2.2 t a b hh
    exact sgn_mul hs t'.1 k2 (Int.le_of_lt k1)
  subst ss
  have key : (fun i => poly l (left.eraseIdx k) (i + k)) = sub (fun i => poly l left (i + 1 + k)) (left.length - 2) := by
    funext i
    have hlt := Nat.mod_lt i (show 0 < left.length - 2 + 1 by omega)
    show poly l (left.eraseIdx k) (i + k) = poly l left (i % (left.length - 2 + 1) + 1 + k)
    have e1 : poly l (left.eraseIdx k) (i + k) = poly l (left.eraseIdx k) (i % (left.length - 2 + 1) + k) := by
      unfold poly
      rw [← cor_mod _ (i + k), ← cor_mod _ (i % (left.length - 2 + 1) + k), hm, Nat.mod_add_mod]
    rw [e1]
    unfold poly
    rw [cor_erase hk (by omega) (by omega)]
  refine ⟨g.nd.sublist (List.eraseIdx_sublist _ _), fun i hi => g.lt i ((List.eraseIdx_sublist _ _).mem hi), ?_, ?_⟩
  · refine Simple.unshift (k := k) (by omega) (poly_per _ _) ?_
    rw [hm, key]; exact sim
  · refine Turns.unshift (k := k) (by omega) (poly_per _ _) ?_
    rw [hm, key]; exact t'

/-! ### The whole way -/

theorem cor_range {n : Nat} (h : 0 < n) (i : Nat) : cor (List.range n) i = i % n := by
  unfold cor
  rw [List.length_range, List.getElem?_range (Nat.mod_lt _ h)]; rfl
theorem poly_at {l : List P2} (h : 0 < l.length) (i : Nat) : poly l (List.range l.length) i = at0 l (i % l.length) := by unfold poly; rw [cor_range h]
theorem poly_nx {l : List P2} (h : 0 < l.length) (i : Nat) : poly l (List.range l.length) (i + 1) = nx l i := by rw [poly_at h]; rfl
theorem poly_lt {l : List P2} {i : Nat} (h : i < l.length) : poly l (List.range l.length) i = at0 l i := by rw [poly_at (by omega), Nat.mod_eq_of_lt h]

theorem simple_of {l : List P2} (h3 : 3 ≤ l.length) (h : simpleF l = true) : Simple l.length (poly l (List.range l.length)) := by
  unfold simpleF at h
  rw [List.all_eq_true] at h
  have h := fun i hi => goodE_iff.1 (h i (List.mem_range.2 hi))
  have per := poly_per l (List.range l.length)
  rw [List.length_range] at per
  refine ⟨h3, per, fun i hi hon => ?_, fun i hi hon => ?_, fun i j h1 h2 h4 hm => ?_⟩
  · have e := (h i hi).2.1
    unfold consE at e
    rw [poly_lt hi, poly_nx (by omega), show i + 2 = i + 1 + 1 from rfl, poly_nx (by omega)] at hon
    rw [onSeg_iff.2 hon, Bool.or_true] at e
    exact absurd e (by simp)
  · have e := (h i hi).2.1
    unfold consE at e
    rw [poly_lt hi, poly_nx (by omega), show i + 2 = i + 1 + 1 from rfl, poly_nx (by omega)] at hon
    rw [onSeg_iff.2 hon, Bool.true_or] at e
    exact absurd e (by simp)
  · have e := (h i (by omega)).2.2 j ⟨h1, h2, by omega⟩
    unfold meetE at e
    rw [poly_lt (by omega), poly_lt h2, poly_nx (by omega), poly_nx (by omega)] at hm
    rw [meets_iff.2 hm] at e
    exact absurd e (by simp)

theorem area_cyc {l : List P2} {k : Nat} (h : k ≤ l.length) : areaU l k = cyc xx (poly l (List.range l.length)) k := by
  induction k with
  | zero => rfl
  | succ k ih =>
    show areaU l (k + 1) = cyc xx (poly l (List.range l.length)) k + xx (poly l (List.range l.length) k) (poly l (List.range l.length) (k + 1))
    rw [← ih (by omega), poly_lt (by omega), poly_nx (by omega)]
    obtain ⟨⟨x, y⟩, hp⟩ : ∃ p, l[k]? = some p := ⟨l[k]'(by omega), List.getElem?_eq_getElem _⟩
    rw [areaU_succ hp, at0_of hp]
    unfold xx
    rw [Int.mul_comm (nx l k).x y]

/-- A simple way is good, whole. -/
theorem good_start {l : List P2} (h3 : 3 ≤ l.length) (h : simpleF l = true) : GoodLeft l (List.range l.length) (sgn (area2 l)) ∧ (sgn (area2 l) = 1 ∨ sgn (area2 l) = -1) := by
  have sim := simple_of h3 h
  obtain ⟨s, t⟩ := turns _ _ sim
  have hA := t.2.1
  rw [← area_cyc (Nat.le_refl _)] at hA
  have e : sgn (area2 l) = s := (sgn_val t.1).1 hA
  rw [e]
  refine ⟨⟨List.nodup_range, fun i hi => List.mem_range.1 hi, ?_, ?_⟩, t.1⟩
  · rw [List.length_range]; exact sim
  · rw [List.length_range]; exact t

/-! ### The cutting -/

def firstEar (l : List P2) (left : List Nat) (s : Int) : Nat := ((List.range left.length).find? (earF l left s)).getD 0
theorem firstEar_eq {l : List P2} {left : List Nat} {s : Int} {k : Nat} (hk : k < left.length) (he : earF l left s k = true) (hf : ∀ j, j < k → earF l left s j = false) : firstEar l left s = k := by
  unfold firstEar
  have : (List.range left.length).find? (earF l left s) = some k := by
    rw [List.find?_range_eq_some]
    exact ⟨he, by simpa using hk, fun j hj => by rw [hf j hj]; rfl⟩
  rw [this]; rfl
theorem firstEar_good {l : List P2} {left : List Nat} {s : Int} (g : GoodLeft l left s) : firstEar l left s < left.length ∧ earF l left s (firstEar l left s) = true ∧ ∀ j, j < firstEar l left s → earF l left s j = false := by
  obtain ⟨k, hk, he⟩ := good_ear g
  cases hf : (List.range left.length).find? (earF l left s) with
  | none =>
    rw [List.find?_eq_none] at hf
    exact absurd he (hf k (List.mem_range.2 hk))
  | some j =>
    have e : firstEar l left s = j := by unfold firstEar; rw [hf]; rfl
    rw [List.find?_range_eq_some] at hf
    rw [e]
    exact ⟨by simpa using hf.2.1, hf.1, fun i hi => by simpa using hf.2.2 i hi⟩

def triK (left : List Nat) (k : Nat) : T3 := ⟨cor left (k + left.length - 1), cor left k, cor left (k + 1)⟩
/-- The triangles of what is left: so many ears, and the last. -/
def cutL (l : List P2) (s : Int) : Nat → List Nat → List T3
  | 0, left => [⟨cor left 0, cor left 1, cor left 2⟩]
  | n + 1, left => triK left (firstEar l left s) :: cutL l s n (left.eraseIdx (firstEar l left s))

theorem cutL_step {l : List P2} {s : Int} {left : List Nat} {k : Nat} (g : GoodLeft l left s) (h4 : 4 ≤ left.length) (hk : k < left.length) (he : earF l left s k = true) (hf : ∀ j, j < k → earF l left s j = false) :
    cutL l s (left.length - 3) left = triK left k :: cutL l s ((left.eraseIdx k).length - 3) (left.eraseIdx k) ∧ GoodLeft l (left.eraseIdx k) s ∧ (left.eraseIdx k).length + 1 = left.length := by
  have hm : (left.eraseIdx k).length = left.length - 1 := by rw [List.length_eraseIdx, if_pos hk]
  refine ⟨?_, good_cut g h4 hk he, by omega⟩
  rw [hm]
  obtain ⟨f, hf2⟩ : ∃ f, left.length = f + 4 := ⟨left.length - 4, by omega⟩
  rw [show left.length - 3 = f + 1 by omega, show left.length - 1 - 3 = f by omega]
  show triK left (firstEar l left s) :: cutL l s f (left.eraseIdx (firstEar l left s)) = _
  rw [firstEar_eq hk he hf]
theorem cutL_len {l : List P2} {s : Int} : ∀ n left, (cutL l s n left).length = n + 1
  | 0, _ => rfl
  | n + 1, left => by show (cutL l s n _).length + 1 = _; rw [cutL_len n]

end Go.VAI
