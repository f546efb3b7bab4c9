/- Sums, differences and products of limbs: what each function does. -/
import Derived.Test.YtialfhjffkoakaaGreatNC
namespace Go.VAI
open Go.Proofs
set_option maxRecDepth 100000
set_option maxHeartbeats 8000000

/-- The limb at a place, 0 beyond the end. -/
def lg (l : List Int) (i : Nat) : Int := match l[i]? with
  | some x => x
  | none => 0
theorem lg_some {l : List Int} {i : Nat} {x : Int} (h : l[i]? = some x) : lg l i = x := by unfold lg; rw [h]
theorem lg_none {l : List Int} {i : Nat} (h : l.length ≤ i) : lg l i = 0 := by unfold lg; rw [List.getElem?_eq_none h]
theorem lg_get {l : List Int} {i : Nat} (h : i < l.length) : l[i]? = some (lg l i) := by unfold lg; rw [List.getElem?_eq_getElem h]
theorem Lim.lg {l : List Int} (h : Lim l) (i : Nat) : 0 ≤ lg l i ∧ lg l i < 65536 := by
  rcases Nat.lt_or_ge i l.length with hi | hi
  · exact h.get (lg_get hi)
  · rw [lg_none hi]; omega
theorem ev_tk (l : List Int) (i : Nat) : ev (l.take (i + 1)) = ev (l.take i) + pw i * Go.VAI.lg l i := by
  rcases Nat.lt_or_ge i l.length with hi | hi
  · exact ev_take_succ (lg_get hi)
  · rw [lg_none hi, List.take_of_length_le (by omega), List.take_of_length_le (by omega)]; omega
theorem ev_tk_all {l : List Int} {i : Nat} (h : l.length ≤ i) : ev (l.take i) = ev l := by rw [List.take_of_length_le h]

theorem add_step {l m r : List Int} {i : Nat} {c t q d : Int} (hl : Lim l) (hm : Lim m) (hr : Lim r) (hlen : r.length = i) (he : ev r + pw i * c = ev (l.take i) + ev (m.take i)) (hc : 0 ≤ c ∧ c ≤ 1)
    (ht : t = c + lg l i + lg m i) (hq : q = t / 65536) (hd : d = t % 65536) : Lim (r ++ [d]) ∧ ev (r ++ [d]) + pw (i + 1) * q = ev (l.take (i + 1)) + ev (m.take (i + 1)) ∧ 0 ≤ q ∧ q ≤ 1 := by
  have h1 := hl.lg i
  have h2 := hm.lg i
  refine ⟨Lim.app.2 ⟨hr, Lim.one.2 (by omega)⟩, ?_, by omega, by omega⟩
  rw [ev_push, ev_tk, ev_tk, hlen]
  have e : t = 65536 * q + d := by omega
  have e2 : pw i * t = pw i * c + pw i * lg l i + pw i * lg m i := by rw [ht, Int.mul_add, Int.mul_add]
  have e3 : pw i * t = pw (i + 1) * q + pw i * d := by rw [e, Int.mul_add]; simp only [pw]; congr 1; grind
  omega
theorem add_fin {l m r : List Int} {n : Nat} (hl : Can l) (hm : Can m) (hr : Lim r) (he : ev r = ev l + ev m) (hn : n = max l.length m.length) (hlen : r.length = n ∨ r.length = n + 1 ∧ pw n ≤ ev r) : Num (r.map i64) (ev l + ev m) := by
  refine Num.of (can_of_ge hr (fun hne => ?_)) he
  rcases hlen with h | ⟨h, h'⟩
  · have h1 := hl.1.bound
    have h2 := hm.1.bound
    have hpos : r.length ≠ 0 := by simpa using hne
    rcases Nat.le_total l.length m.length with hh | hh
    · have := hm.low (by rintro rfl; simp at hh; simp [hh] at hn; omega)
      rw [show r.length = m.length by omega]; omega
    · have := hl.low (by rintro rfl; simp at hh; simp [hh] at hn; omega)
      rw [show r.length = l.length by omega]; omega
  · rw [h]; exact h'

theorem c_impl_addLimbs : Callable Tryz.prog 134 := ⟨_, Tryz.func134, rfl, by kernel_rfl⟩
theorem d_impl_addLimbs {a b c : List PV} {x y : Int} (ha : Num a x) (hb : Num b y) (hl : a.length ≤ 400000 ∧ b.length ≤ 400000) (hc : Num c (x + y)) : Does Tryz.prog 134 [.sl a, .sl b] (.row c 1 .free) [] := by
  refine does_of hT hM Tryz.func134 rfl (D := []) (by kernel_rfl) rfl rfl rfl (fun A K hA hK => ?_)
  obtain ⟨l, hes, h1, rfl⟩ := ha
  obtain ⟨m, hes', h3, rfl⟩ := hb
  have hlen : a.length = l.length := by simp [hes]
  have hlen' : b.length = m.length := by simp [hes']
  cbv
  refine Ar.loop_ hA (α := Int × Int × List PV) (fun x => (l.length + m.length + 2) - x.1.toNat) (fun x => 0 ≤ x.1 ∧ (0 ≤ x.2.1 ∧ x.2.1 ≤ 1) ∧ ∃ r : List Int, x.2.2 = r.map i64 ∧ r.length = x.1.toNat ∧ Lim r ∧ ev r + pw x.1.toNat * x.2.1 = ev (l.take x.1.toNat) + ev (m.take x.1.toNat) ∧ (x.1.toNat ≤ max l.length m.length ∨ x.1.toNat = max l.length m.length + 1 ∧ x.2.1 = 0 ∧ pw (max l.length m.length) ≤ ev r)) 50 (fun x => [(0, .pv (.sl a) []), (1, .pv (.sl b) []), (5, .own 8 none), (6, .pv (i64 x.2.1) []), (7, .pv (i64 x.1) [])]) (fun x => [(8, some (.row x.2.2 1 .free false))]) (0, 0, []) ⟨rfl, ⟨rfl, rfl, rfl, rfl, rfl, trivial⟩, rfl, trivial⟩ ⟨by simp, by simp, [], rfl, rfl, Lim.nil, by simp [ev], .inl (by simp)⟩ ?_
  rintro ⟨i, k, e⟩ st f ⟨g1, g2, r, g3, g4, g5, g6, g7⟩
  simp only at g1 g2 g3 g4 g6 g7
  have hel : e.length = r.length := by simp [g3]
  have fin : l.length ≤ i.toNat → m.length ≤ i.toNat → k = 0 → e = c := fun p1 p2 p3 => by
    rw [p3, ev_tk_all p1, ev_tk_all p2] at g6
    have : Num e (ev l + ev m) := by
      rw [g3]
      exact add_fin h1 h3 g5 (by omega) rfl (by omega)
    exact this.inj hc
  have cont : ∀ t q d, (i.toNat < l.length ∨ i.toNat < m.length ∨ 0 < k) → t = k + lg l i.toNat + lg m i.toNat → q = t / 65536 → d = t % 65536 → (0 ≤ q ∧ q ≤ 1) ∧ i.toNat + 1 < l.length + m.length + 2 ∧ ∀ j : Int, j = i + 1 → ∃ r' : List Int, (r.map i64 ++ [i64 d]) = r'.map i64 ∧ r'.length = j.toNat ∧ Lim r' ∧ ev r' + pw j.toNat * q = ev (l.take j.toNat) + ev (m.take j.toNat) ∧ (j.toNat ≤ max l.length m.length ∨ j.toNat = max l.length m.length + 1 ∧ q = 0 ∧ pw (max l.length m.length) ≤ ev r') := by
    intro t q d hcont ht hq hd
    obtain ⟨s1, s2, s3⟩ := add_step h1.1 h3.1 g5 g4 g6 g2 ht hq hd
    refine ⟨s3, by omega, fun j hj => ⟨r ++ [d], by simp, by simp; omega, s1, by rw [show j.toNat = i.toNat + 1 by omega]; exact s2, ?_⟩⟩
    rcases Nat.lt_or_ge i.toNat (max l.length m.length) with hh | hh
    · exact .inl (by omega)
    · have p1 : lg l i.toNat = 0 := lg_none (by omega)
      have p2 : lg m i.toNat = 0 := lg_none (by omega)
      rw [p1, p2] at ht
      have hi : i.toNat = max l.length m.length := by omega
      refine .inr ⟨by omega, by omega, ?_⟩
      rw [ev_push, g4, ← hi]
      have := g5.bound
      rw [show d = 1 by omega]; omega
  have hi2 : i.toNat ≤ l.length + m.length + 1 := by omega
  cbv
  refine Ar.len_ hA (fun n hn hn' => ?_)
  cbv
  refine Ar.len_ hA (fun n2 hn2 hn2' => ?_)
  cbv
  refine Ar.mx_ hA (fun n3 hn3 => ?_)
  cbv
  refine Ar.lss_ hA (fun p1 => ?_) (fun p1 => ?_)
  · cbv
    refine Ar.len_ hA (fun n4 hn4 hn4' => ?_)
    cbv
    refine Ar.lss_ hA (fun p2 => ?_) (fun p2 => ?_)
    · cbv
      refine Ar.nn_ hA (by omega) ?_
      cbv
      refine Ar.toN_ hA (fun j3 hj3 => ?_)
      cbv
      obtain ⟨x, hx⟩ : ∃ p, l[j3]? = some p := ⟨l[j3]'(by omega), List.getElem?_eq_getElem _⟩
      refine Ar.idx_ hA (x := i64 x) (by rw [hes, List.getElem?_map, hx]; rfl) ?_
      cbv
      have hxb := h1.1.get hx
      refine Ar.add_ hA (by omega) (fun t1 ht1 => ?_)
      cbv
      have hlx := lg_some hx
      rw [show j3 = i.toNat by omega] at hlx
      refine Ar.len_ hA (fun n5 hn5 hn5' => ?_)
      cbv
      refine Ar.lss_ hA (fun p3 => ?_) (fun p3 => ?_)
      · cbv
        refine Ar.nn_ hA (by omega) ?_
        cbv
        refine Ar.toN_ hA (fun j4 hj4 => ?_)
        cbv
        obtain ⟨y, hy⟩ : ∃ p, m[j4]? = some p := ⟨m[j4]'(by omega), List.getElem?_eq_getElem _⟩
        refine Ar.idx_ hA (x := i64 y) (by rw [hes', List.getElem?_map, hy]; rfl) ?_
        cbv
        refine Ar.add_ hA (by have := h3.1.get hy; omega) (fun t ht => ?_)
        cbv
        have hlg := lg_some hy
        rw [show j4 = i.toNat by omega] at hlg
        have hlg1 := h1.1.lg i.toNat
        have hlg2 := h3.1.lg i.toNat
        refine Ar.nz_ hA (by omega) ?_
        cbv
        refine Ar.rem_ hA (by omega) (fun d hd => ?_)
        cbv
        refine Ar.app_ hA (fun r' hr' => ?_)
        cbv
        refine Ar.fitsL_ hA (by rw [hr']; simp; omega) ?_
        cbv
        refine Ar.nz_ hA (by omega) ?_
        cbv
        refine Ar.quo_ hA (by omega) (fun q hq => ?_)
        cbv
        refine Ar.add_ hA (by omega) (fun j hj => ?_)
        cbv
        obtain ⟨k1, k2, k3⟩ := cont t q d (by omega) (by omega) (by omega) (by omega)
        obtain ⟨r2, e1, e2, e3, e4, e5⟩ := k3 j hj
        refine ⟨(j, q, r'), by show _ - j.toNat < _ - i.toNat; omega, ⟨by show 0 ≤ j; omega, k1, r2, by show r' = _; rw [hr', g3]; exact e1, e2, e3, e4, e5⟩, rfl, ⟨rfl, rfl, rfl, rfl, rfl, trivial⟩, rfl, trivial⟩
      · cbv
        have hlg := lg_none (l := m) (i := i.toNat) (by omega)
        have hlg1 := h1.1.lg i.toNat
        obtain ⟨t, ht⟩ : ∃ t, t = t1 := ⟨_, rfl⟩
        refine Ar.nz_ hA (by omega) ?_
        cbv
        refine Ar.rem_ hA (by omega) (fun d hd => ?_)
        cbv
        refine Ar.app_ hA (fun r' hr' => ?_)
        cbv
        refine Ar.fitsL_ hA (by rw [hr']; simp; omega) ?_
        cbv
        refine Ar.nz_ hA (by omega) ?_
        cbv
        refine Ar.quo_ hA (by omega) (fun q hq => ?_)
        cbv
        refine Ar.add_ hA (by omega) (fun j hj => ?_)
        cbv
        obtain ⟨k1, k2, k3⟩ := cont t q d (by omega) (by omega) (by omega) (by omega)
        obtain ⟨r2, e1, e2, e3, e4, e5⟩ := k3 j hj
        refine ⟨(j, q, r'), by show _ - j.toNat < _ - i.toNat; omega, ⟨by show 0 ≤ j; omega, k1, r2, by show r' = _; rw [hr', g3]; exact e1, e2, e3, e4, e5⟩, rfl, ⟨rfl, rfl, rfl, rfl, rfl, trivial⟩, rfl, trivial⟩
    · cbv
      have hlx := lg_none (l := l) (i := i.toNat) (by omega)
      refine Ar.len_ hA (fun n5 hn5 hn5' => ?_)
      cbv
      refine Ar.lss_ hA (fun p3 => ?_) (fun p3 => ?_)
      · cbv
        refine Ar.nn_ hA (by omega) ?_
        cbv
        refine Ar.toN_ hA (fun j4 hj4 => ?_)
        cbv
        obtain ⟨y, hy⟩ : ∃ p, m[j4]? = some p := ⟨m[j4]'(by omega), List.getElem?_eq_getElem _⟩
        refine Ar.idx_ hA (x := i64 y) (by rw [hes', List.getElem?_map, hy]; rfl) ?_
        cbv
        refine Ar.add_ hA (by have := h3.1.get hy; omega) (fun t ht => ?_)
        cbv
        have hlg := lg_some hy
        rw [show j4 = i.toNat by omega] at hlg
        have hlg1 := h1.1.lg i.toNat
        have hlg2 := h3.1.lg i.toNat
        refine Ar.nz_ hA (by omega) ?_
        cbv
        refine Ar.rem_ hA (by omega) (fun d hd => ?_)
        cbv
        refine Ar.app_ hA (fun r' hr' => ?_)
        cbv
        refine Ar.fitsL_ hA (by rw [hr']; simp; omega) ?_
        cbv
        refine Ar.nz_ hA (by omega) ?_
        cbv
        refine Ar.quo_ hA (by omega) (fun q hq => ?_)
        cbv
        refine Ar.add_ hA (by omega) (fun j hj => ?_)
        cbv
        obtain ⟨k1, k2, k3⟩ := cont t q d (by omega) (by omega) (by omega) (by omega)
        obtain ⟨r2, e1, e2, e3, e4, e5⟩ := k3 j hj
        refine ⟨(j, q, r'), by show _ - j.toNat < _ - i.toNat; omega, ⟨by show 0 ≤ j; omega, k1, r2, by show r' = _; rw [hr', g3]; exact e1, e2, e3, e4, e5⟩, rfl, ⟨rfl, rfl, rfl, rfl, rfl, trivial⟩, rfl, trivial⟩
      · cbv
        have hlg := lg_none (l := m) (i := i.toNat) (by omega)
        have hlg1 := h1.1.lg i.toNat
        obtain ⟨t, ht⟩ : ∃ t, t = k := ⟨_, rfl⟩
        refine Ar.nz_ hA (by omega) ?_
        cbv
        refine Ar.rem_ hA (by omega) (fun d hd => ?_)
        cbv
        refine Ar.app_ hA (fun r' hr' => ?_)
        cbv
        refine Ar.fitsL_ hA (by rw [hr']; simp; omega) ?_
        cbv
        refine Ar.nz_ hA (by omega) ?_
        cbv
        refine Ar.quo_ hA (by omega) (fun q hq => ?_)
        cbv
        refine Ar.add_ hA (by omega) (fun j hj => ?_)
        cbv
        obtain ⟨k1, k2, k3⟩ := cont t q d (by omega) (by omega) (by omega) (by omega)
        obtain ⟨r2, e1, e2, e3, e4, e5⟩ := k3 j hj
        refine ⟨(j, q, r'), by show _ - j.toNat < _ - i.toNat; omega, ⟨by show 0 ≤ j; omega, k1, r2, by show r' = _; rw [hr', g3]; exact e1, e2, e3, e4, e5⟩, rfl, ⟨rfl, rfl, rfl, rfl, rfl, trivial⟩, rfl, trivial⟩
  · cbv
    refine Ar.gtr_ hA (fun p0 => ?_) (fun p0 => ?_)
    · cbv
      refine Ar.len_ hA (fun n4 hn4 hn4' => ?_)
      cbv
      refine Ar.lss_ hA (fun p2 => ?_) (fun p2 => ?_)
      · cbv
        refine Ar.nn_ hA (by omega) ?_
        cbv
        refine Ar.toN_ hA (fun j3 hj3 => ?_)
        cbv
        obtain ⟨x, hx⟩ : ∃ p, l[j3]? = some p := ⟨l[j3]'(by omega), List.getElem?_eq_getElem _⟩
        refine Ar.idx_ hA (x := i64 x) (by rw [hes, List.getElem?_map, hx]; rfl) ?_
        cbv
        have hxb := h1.1.get hx
        refine Ar.add_ hA (by omega) (fun t1 ht1 => ?_)
        cbv
        have hlx := lg_some hx
        rw [show j3 = i.toNat by omega] at hlx
        refine Ar.len_ hA (fun n5 hn5 hn5' => ?_)
        cbv
        refine Ar.lss_ hA (fun p3 => ?_) (fun p3 => ?_)
        · cbv
          refine Ar.nn_ hA (by omega) ?_
          cbv
          refine Ar.toN_ hA (fun j4 hj4 => ?_)
          cbv
          obtain ⟨y, hy⟩ : ∃ p, m[j4]? = some p := ⟨m[j4]'(by omega), List.getElem?_eq_getElem _⟩
          refine Ar.idx_ hA (x := i64 y) (by rw [hes', List.getElem?_map, hy]; rfl) ?_
          cbv
          refine Ar.add_ hA (by have := h3.1.get hy; omega) (fun t ht => ?_)
          cbv
          have hlg := lg_some hy
          rw [show j4 = i.toNat by omega] at hlg
          have hlg1 := h1.1.lg i.toNat
          have hlg2 := h3.1.lg i.toNat
          refine Ar.nz_ hA (by omega) ?_
          cbv
          refine Ar.rem_ hA (by omega) (fun d hd => ?_)
          cbv
          refine Ar.app_ hA (fun r' hr' => ?_)
          cbv
          refine Ar.fitsL_ hA (by rw [hr']; simp; omega) ?_
          cbv
          refine Ar.nz_ hA (by omega) ?_
          cbv
          refine Ar.quo_ hA (by omega) (fun q hq => ?_)
          cbv
          refine Ar.add_ hA (by omega) (fun j hj => ?_)
          cbv
          obtain ⟨k1, k2, k3⟩ := cont t q d (by omega) (by omega) (by omega) (by omega)
          obtain ⟨r2, e1, e2, e3, e4, e5⟩ := k3 j hj
          refine ⟨(j, q, r'), by show _ - j.toNat < _ - i.toNat; omega, ⟨by show 0 ≤ j; omega, k1, r2, by show r' = _; rw [hr', g3]; exact e1, e2, e3, e4, e5⟩, rfl, ⟨rfl, rfl, rfl, rfl, rfl, trivial⟩, rfl, trivial⟩
        · cbv
          have hlg := lg_none (l := m) (i := i.toNat) (by omega)
          have hlg1 := h1.1.lg i.toNat
          obtain ⟨t, ht⟩ : ∃ t, t = t1 := ⟨_, rfl⟩
          refine Ar.nz_ hA (by omega) ?_
          cbv
          refine Ar.rem_ hA (by omega) (fun d hd => ?_)
          cbv
          refine Ar.app_ hA (fun r' hr' => ?_)
          cbv
          refine Ar.fitsL_ hA (by rw [hr']; simp; omega) ?_
          cbv
          refine Ar.nz_ hA (by omega) ?_
          cbv
          refine Ar.quo_ hA (by omega) (fun q hq => ?_)
          cbv
          refine Ar.add_ hA (by omega) (fun j hj => ?_)
          cbv
          obtain ⟨k1, k2, k3⟩ := cont t q d (by omega) (by omega) (by omega) (by omega)
          obtain ⟨r2, e1, e2, e3, e4, e5⟩ := k3 j hj
          refine ⟨(j, q, r'), by show _ - j.toNat < _ - i.toNat; omega, ⟨by show 0 ≤ j; omega, k1, r2, by show r' = _; rw [hr', g3]; exact e1, e2, e3, e4, e5⟩, rfl, ⟨rfl, rfl, rfl, rfl, rfl, trivial⟩, rfl, trivial⟩
      · cbv
        have hlx := lg_none (l := l) (i := i.toNat) (by omega)
        refine Ar.len_ hA (fun n5 hn5 hn5' => ?_)
        cbv
        refine Ar.lss_ hA (fun p3 => ?_) (fun p3 => ?_)
        · cbv
          refine Ar.nn_ hA (by omega) ?_
          cbv
          refine Ar.toN_ hA (fun j4 hj4 => ?_)
          cbv
          obtain ⟨y, hy⟩ : ∃ p, m[j4]? = some p := ⟨m[j4]'(by omega), List.getElem?_eq_getElem _⟩
          refine Ar.idx_ hA (x := i64 y) (by rw [hes', List.getElem?_map, hy]; rfl) ?_
          cbv
          refine Ar.add_ hA (by have := h3.1.get hy; omega) (fun t ht => ?_)
          cbv
          have hlg := lg_some hy
          rw [show j4 = i.toNat by omega] at hlg
          have hlg1 := h1.1.lg i.toNat
          have hlg2 := h3.1.lg i.toNat
          refine Ar.nz_ hA (by omega) ?_
          cbv
          refine Ar.rem_ hA (by omega) (fun d hd => ?_)
          cbv
          refine Ar.app_ hA (fun r' hr' => ?_)
          cbv
          refine Ar.fitsL_ hA (by rw [hr']; simp; omega) ?_
          cbv
          refine Ar.nz_ hA (by omega) ?_
          cbv
          refine Ar.quo_ hA (by omega) (fun q hq => ?_)
          cbv
          refine Ar.add_ hA (by omega) (fun j hj => ?_)
          cbv
          obtain ⟨k1, k2, k3⟩ := cont t q d (by omega) (by omega) (by omega) (by omega)
          obtain ⟨r2, e1, e2, e3, e4, e5⟩ := k3 j hj
          refine ⟨(j, q, r'), by show _ - j.toNat < _ - i.toNat; omega, ⟨by show 0 ≤ j; omega, k1, r2, by show r' = _; rw [hr', g3]; exact e1, e2, e3, e4, e5⟩, rfl, ⟨rfl, rfl, rfl, rfl, rfl, trivial⟩, rfl, trivial⟩
        · cbv
          have hlg := lg_none (l := m) (i := i.toNat) (by omega)
          have hlg1 := h1.1.lg i.toNat
          obtain ⟨t, ht⟩ : ∃ t, t = k := ⟨_, rfl⟩
          refine Ar.nz_ hA (by omega) ?_
          cbv
          refine Ar.rem_ hA (by omega) (fun d hd => ?_)
          cbv
          refine Ar.app_ hA (fun r' hr' => ?_)
          cbv
          refine Ar.fitsL_ hA (by rw [hr']; simp; omega) ?_
          cbv
          refine Ar.nz_ hA (by omega) ?_
          cbv
          refine Ar.quo_ hA (by omega) (fun q hq => ?_)
          cbv
          refine Ar.add_ hA (by omega) (fun j hj => ?_)
          cbv
          obtain ⟨k1, k2, k3⟩ := cont t q d (by omega) (by omega) (by omega) (by omega)
          obtain ⟨r2, e1, e2, e3, e4, e5⟩ := k3 j hj
          refine ⟨(j, q, r'), by show _ - j.toNat < _ - i.toNat; omega, ⟨by show 0 ≤ j; omega, k1, r2, by show r' = _; rw [hr', g3]; exact e1, e2, e3, e4, e5⟩, rfl, ⟨rfl, rfl, rfl, rfl, rfl, trivial⟩, rfl, trivial⟩
    · cbv
      exact hK _ _ (by rw [fin (by omega) (by omega) (by omega)]) rfl

end Go.VAI
