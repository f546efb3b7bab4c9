/- Sums, differences of limbs: the rest. -/
import Derived.Test.YtialfhjffkoakaaGreatND
namespace Go.VAI
open Go.Proofs
set_option maxRecDepth 100000
set_option maxHeartbeats 8000000

theorem c_spec_l1Limb : Callable Tryz.prog 154 := ⟨_, Tryz.func154, rfl, by kernel_rfl⟩
theorem d_spec_l1Limb {es : List PV} {l : List Int} {i : Int} (hes : es = l.map i64) (hi : 0 ≤ i) : Does Tryz.prog 154 [.sl es, i64 i] (.pv (i64 (lg l i.toNat))) [] := by
  refine does_of hT hM Tryz.func154 rfl (D := []) (by kernel_rfl) rfl rfl rfl (fun A K hA hK => ?_)
  have hlen : es.length = l.length := by simp [hes]
  generalize hL : lg l i.toNat = L at hK
  cbv
  refine Ar.len_ hA (fun n hn hn' => ?_)
  cbv
  refine Ar.lss_ hA (fun h => ?_) (fun h => ?_)
  · cbv
    refine Ar.nn_ hA (by omega) ?_
    cbv
    refine Ar.toN_ hA (fun j hj => ?_)
    cbv
    obtain ⟨x, hx⟩ : ∃ p, l[j]? = some p := ⟨l[j]'(by omega), List.getElem?_eq_getElem _⟩
    refine Ar.idx_ hA (x := i64 x) (by rw [hes, List.getElem?_map, hx]; rfl) ?_
    cbv
    exact hK _ _ (by rw [← hL, show i.toNat = j by omega, lg_some hx]) rfl
  · cbv
    exact hK _ _ (by rw [← hL, lg_none (by omega)]) rfl

theorem c_spec_l1AddLimbs : Callable Tryz.prog 140 := ⟨_, Tryz.func140, rfl, by kernel_rfl⟩
theorem d_spec_l1AddLimbs {a b c : List PV} {x y : Int} (ha : Num a x) (hb : Num b y) (hl : a.length ≤ 400000 ∧ b.length ≤ 400000) (hc : Num c (x + y)) : Does Tryz.prog 140 [.sl a, .sl b] (.row c 1 .free) [] := by
  refine does_of hT hM Tryz.func140 rfl (D := []) (by kernel_rfl) rfl rfl rfl (fun A K hA hK => ?_)
  obtain ⟨l, hes, h1, rfl⟩ := ha
  obtain ⟨m, hes', h3, rfl⟩ := hb
  have hlen : a.length = l.length := by simp [hes]
  have hlen' : b.length = m.length := by simp [hes']
  cbv
  refine Ar.loop_ hA (α := Int × Int × List PV) (fun x => (l.length + m.length + 2) - x.1.toNat) (fun x => 0 ≤ x.1 ∧ (0 ≤ x.2.1 ∧ x.2.1 ≤ 1) ∧ ∃ r : List Int, x.2.2 = r.map i64 ∧ r.length = x.1.toNat ∧ Lim r ∧ ev r + pw x.1.toNat * x.2.1 = ev (l.take x.1.toNat) + ev (m.take x.1.toNat) ∧ (x.1.toNat ≤ max l.length m.length ∨ x.1.toNat = max l.length m.length + 1 ∧ x.2.1 = 0 ∧ pw (max l.length m.length) ≤ ev r)) 42 (fun x => [(0, .pv (.sl a) []), (1, .pv (.sl b) []), (5, .own 5 none), (6, .pv (i64 x.2.1) []), (7, .pv (i64 x.1) [])]) (fun x => [(5, some (.row x.2.2 1 .free false))]) (0, 0, []) (by refine ⟨?_, ⟨?_, ?_, ?_, ?_, ?_, trivial⟩, ?_, trivial⟩ <;> cbv) ⟨by simp, by simp, [], rfl, rfl, Lim.nil, by simp [ev], .inl (by simp)⟩ ?_
  rintro ⟨i, k, e⟩ st f ⟨g1, g2, r, g3, g4, g5, g6, g7⟩
  simp only at g1 g2 g3 g4 g6 g7
  have hel : e.length = r.length := by simp [g3]
  have fin : l.length ≤ i.toNat → m.length ≤ i.toNat → k = 0 → e = c := fun p1 p2 p3 => by
    rw [p3, ev_tk_all p1, ev_tk_all p2] at g6
    have : Num e (ev l + ev m) := by
      rw [g3]
      exact add_fin h1 h3 g5 (by omega) rfl (by omega)
    exact this.inj hc
  have cont : ∀ t q d, (i.toNat < l.length ∨ i.toNat < m.length ∨ 0 < k) → t = k + lg l i.toNat + lg m i.toNat → q = t / 65536 → d = t % 65536 → (0 ≤ q ∧ q ≤ 1) ∧ i.toNat + 1 < l.length + m.length + 2 ∧ ∀ j : Int, j = i + 1 → ∃ r' : List Int, (r.map i64 ++ [i64 d]) = r'.map i64 ∧ r'.length = j.toNat ∧ Lim r' ∧ ev r' + pw j.toNat * q = ev (l.take j.toNat) + ev (m.take j.toNat) ∧ (j.toNat ≤ max l.length m.length ∨ j.toNat = max l.length m.length + 1 ∧ q = 0 ∧ pw (max l.length m.length) ≤ ev r') := by
    intro t q d hcont ht hq hd
    obtain ⟨s1, s2, s3⟩ := add_step h1.1 h3.1 g5 g4 g6 g2 ht hq hd
    refine ⟨s3, by omega, fun j hj => ⟨r ++ [d], by simp, by simp; omega, s1, by rw [show j.toNat = i.toNat + 1 by omega]; exact s2, ?_⟩⟩
    rcases Nat.lt_or_ge i.toNat (max l.length m.length) with hh | hh
    · exact .inl (by omega)
    · have p1 : lg l i.toNat = 0 := lg_none (by omega)
      have p2 : lg m i.toNat = 0 := lg_none (by omega)
      rw [p1, p2] at ht
      have hi : i.toNat = max l.length m.length := by omega
      refine .inr ⟨by omega, by omega, ?_⟩
      rw [ev_push, g4, ← hi]
      have := g5.bound
      rw [show d = 1 by omega]; omega
  have hi2 : i.toNat ≤ l.length + m.length + 1 := by omega
  cbv
  refine Ar.len_ hA (fun n hn hn' => ?_)
  cbv
  refine Ar.lss_ hA (fun p1 => ?_) (fun p1 => ?_)
  · cbv
    refine Ar.callI hA c_spec_l1Limb (d_spec_l1Limb hes g1) rfl (fun t1 ht1 => ?_)
    cbv
    refine Ar.callI hA c_spec_l1Limb (d_spec_l1Limb hes' g1) rfl (fun t2 ht2 => ?_)
    cbv
    have hlg1 := h1.1.lg i.toNat
    have hlg2 := h3.1.lg i.toNat
    refine Ar.add_ hA (by omega) (fun t3 ht3 => ?_)
    cbv
    refine Ar.add_ hA (by omega) (fun t ht => ?_)
    cbv
    refine Ar.nz_ hA (by omega) ?_
    cbv
    refine Ar.rem_ hA (by omega) (fun d hd => ?_)
    cbv
    refine Ar.app_ hA (fun r' hr' => ?_)
    cbv
    refine Ar.fitsL_ hA (by rw [hr']; simp; omega) ?_
    cbv
    refine Ar.nz_ hA (by omega) ?_
    cbv
    refine Ar.quo_ hA (by omega) (fun q hq => ?_)
    cbv
    refine Ar.add_ hA (by omega) (fun j hj => ?_)
    cbv
    obtain ⟨k1, k2, k3⟩ := cont t q d (by omega) (by omega) (by omega) (by omega)
    obtain ⟨r2, e1, e2, e3, e4, e5⟩ := k3 j hj
    refine ⟨(j, q, r'), by show _ - j.toNat < _ - i.toNat; omega, ⟨by show 0 ≤ j; omega, k1, r2, by show r' = _; rw [hr', g3]; exact e1, e2, e3, e4, e5⟩, rfl, ⟨rfl, rfl, rfl, rfl, rfl, trivial⟩, rfl, trivial⟩
  · cbv
    refine Ar.len_ hA (fun n2 hn2 hn2' => ?_)
    cbv
    refine Ar.lss_ hA (fun p2 => ?_) (fun p2 => ?_)
    · cbv
      refine Ar.callI hA c_spec_l1Limb (d_spec_l1Limb hes g1) rfl (fun t1 ht1 => ?_)
      cbv
      refine Ar.callI hA c_spec_l1Limb (d_spec_l1Limb hes' g1) rfl (fun t2 ht2 => ?_)
      cbv
      have hlg1 := h1.1.lg i.toNat
      have hlg2 := h3.1.lg i.toNat
      refine Ar.add_ hA (by omega) (fun t3 ht3 => ?_)
      cbv
      refine Ar.add_ hA (by omega) (fun t ht => ?_)
      cbv
      refine Ar.nz_ hA (by omega) ?_
      cbv
      refine Ar.rem_ hA (by omega) (fun d hd => ?_)
      cbv
      refine Ar.app_ hA (fun r' hr' => ?_)
      cbv
      refine Ar.fitsL_ hA (by rw [hr']; simp; omega) ?_
      cbv
      refine Ar.nz_ hA (by omega) ?_
      cbv
      refine Ar.quo_ hA (by omega) (fun q hq => ?_)
      cbv
      refine Ar.add_ hA (by omega) (fun j hj => ?_)
      cbv
      obtain ⟨k1, k2, k3⟩ := cont t q d (by omega) (by omega) (by omega) (by omega)
      obtain ⟨r2, e1, e2, e3, e4, e5⟩ := k3 j hj
      refine ⟨(j, q, r'), by show _ - j.toNat < _ - i.toNat; omega, ⟨by show 0 ≤ j; omega, k1, r2, by show r' = _; rw [hr', g3]; exact e1, e2, e3, e4, e5⟩, rfl, ⟨rfl, rfl, rfl, rfl, rfl, trivial⟩, rfl, trivial⟩
    · cbv
      refine Ar.gtr_ hA (fun p0 => ?_) (fun p0 => ?_)
      · cbv
        refine Ar.callI hA c_spec_l1Limb (d_spec_l1Limb hes g1) rfl (fun t1 ht1 => ?_)
        cbv
        refine Ar.callI hA c_spec_l1Limb (d_spec_l1Limb hes' g1) rfl (fun t2 ht2 => ?_)
        cbv
        have hlg1 := h1.1.lg i.toNat
        have hlg2 := h3.1.lg i.toNat
        refine Ar.add_ hA (by omega) (fun t3 ht3 => ?_)
        cbv
        refine Ar.add_ hA (by omega) (fun t ht => ?_)
        cbv
        refine Ar.nz_ hA (by omega) ?_
        cbv
        refine Ar.rem_ hA (by omega) (fun d hd => ?_)
        cbv
        refine Ar.app_ hA (fun r' hr' => ?_)
        cbv
        refine Ar.fitsL_ hA (by rw [hr']; simp; omega) ?_
        cbv
        refine Ar.nz_ hA (by omega) ?_
        cbv
        refine Ar.quo_ hA (by omega) (fun q hq => ?_)
        cbv
        refine Ar.add_ hA (by omega) (fun j hj => ?_)
        cbv
        obtain ⟨k1, k2, k3⟩ := cont t q d (by omega) (by omega) (by omega) (by omega)
        obtain ⟨r2, e1, e2, e3, e4, e5⟩ := k3 j hj
        refine ⟨(j, q, r'), by show _ - j.toNat < _ - i.toNat; omega, ⟨by show 0 ≤ j; omega, k1, r2, by show r' = _; rw [hr', g3]; exact e1, e2, e3, e4, e5⟩, rfl, ⟨rfl, rfl, rfl, rfl, rfl, trivial⟩, rfl, trivial⟩
      · cbv
        exact hK _ _ (by rw [fin (by omega) (by omega) (by omega)]) rfl

theorem sub_step {l m r : List Int} {i : Nat} {c t q d : Int} (hl : Lim l) (hm : Lim m) (hr : Lim r) (hlen : r.length = i) (he : ev r + ev (m.take i) = ev (l.take i) + pw i * c) (hc : 0 ≤ c ∧ c ≤ 1)
    (ht : t = lg l i - lg m i - c) (hq : t < 0 ∧ q = 1 ∧ d = t + 65536 ∨ 0 ≤ t ∧ q = 0 ∧ d = t) : Lim (r ++ [d]) ∧ ev (r ++ [d]) + ev (m.take (i + 1)) = ev (l.take (i + 1)) + pw (i + 1) * q ∧ 0 ≤ q ∧ q ≤ 1 := by
  have h1 := hl.lg i
  have h2 := hm.lg i
  refine ⟨Lim.app.2 ⟨hr, Lim.one.2 (by omega)⟩, ?_, by omega, by omega⟩
  rw [ev_push, ev_tk, ev_tk, hlen]
  have e : t = d - 65536 * q := by omega
  have e2 : pw i * t = pw i * lg l i - pw i * lg m i - pw i * c := by rw [ht, Int.mul_sub, Int.mul_sub]
  have e3 : pw i * t = pw i * d - pw (i + 1) * q := by rw [e, Int.mul_sub]; simp only [pw]; congr 1; grind
  omega

theorem sub_fin {l m r : List Int} {n : Nat} {c : Int} (hl : Can l) (hm : Can m) (hr : Lim r) (hle : ev m ≤ ev l) (hn : l.length ≤ n) (hrl : r.length = l.length) (he : ev r + ev (m.take n) = ev (l.take n) + pw l.length * c) (hc : 0 ≤ c ∧ c ≤ 1) : ev r = ev l - ev m := by
  have h1 : m.length ≤ l.length := by
    rcases Nat.lt_or_ge l.length m.length with h | h
    · have := hl.lt hm h; omega
    · exact h
  rw [ev_tk_all (by omega), ev_tk_all hn] at he
  have h2 := hr.bound
  rw [hrl] at h2
  have h3 : c = 0 := by
    rcases (show c = 0 ∨ c = 1 by omega) with h | h
    · exact h
    · rw [h] at he; omega
  rw [h3] at he; omega

theorem c_spec_l1SubLimbs : Callable Tryz.prog 141 := ⟨_, Tryz.func141, rfl, by kernel_rfl⟩
theorem d_spec_l1SubLimbs {a b c : List PV} {x y : Int} (ha : Num a x) (hb : Num b y) (hl : a.length ≤ 400000 ∧ b.length ≤ 400000) (hle : y ≤ x) (hc : Num c (x - y)) : Does Tryz.prog 141 [.sl a, .sl b] (.row c 1 .free) [] := by
  refine does_of hT hM Tryz.func141 rfl (D := []) (by kernel_rfl) rfl rfl rfl (fun A K hA hK => ?_)
  obtain ⟨l, hes, h1, rfl⟩ := ha
  obtain ⟨m, hes', h3, rfl⟩ := hb
  have hlen : a.length = l.length := by simp [hes]
  have hlen' : b.length = m.length := by simp [hes']
  cbv
  refine Ar.len_ hA (fun n hn hn' => ?_)
  cbv
  refine Ar.loop_ hA (α := Int × Int × List PV) (fun x => (n - x.1).toNat) (fun x => 0 ≤ x.1 ∧ x.1 ≤ n ∧ (0 ≤ x.2.1 ∧ x.2.1 ≤ 1) ∧ ∃ r : List Int, x.2.2 = r.map i64 ∧ r.length = x.1.toNat ∧ Lim r ∧ ev r + ev (m.take x.1.toNat) = ev (l.take x.1.toNat) + pw x.1.toNat * x.2.1) 35 (fun x => [(0, .pv (.sl a) []), (1, .pv (.sl b) []), (5, .own 5 none), (6, .pv (i64 x.2.1) []), (10, .pv (i64 n) []), (11, .pv (i64 x.1) [])]) (fun x => [(5, some (.row x.2.2 1 .free false))]) (0, 0, []) (by refine ⟨?_, ⟨?_, ?_, ?_, ?_, ?_, ?_, trivial⟩, ?_, trivial⟩ <;> cbv) ⟨by simp, by simp; omega, by simp, [], rfl, rfl, Lim.nil, by simp [ev]⟩ ?_
  rintro ⟨i, k, e⟩ st f ⟨g1, g0, g2, r, g3, g4, g5, g6⟩
  simp only at g1 g0 g2 g3 g4 g6
  have hel : e.length = r.length := by simp [g3]
  have hlg1 := h1.1.lg i.toNat
  have hlg2 := h3.1.lg i.toNat
  have cont : ∀ t q d : Int, t = lg l i.toNat - lg m i.toNat - k → (t < 0 ∧ q = 1 ∧ d = t + 65536 ∨ 0 ≤ t ∧ q = 0 ∧ d = t) → (0 ≤ q ∧ q ≤ 1) ∧ ∀ j : Int, j = i + 1 → ∃ r' : List Int, (r.map i64 ++ [i64 d]) = r'.map i64 ∧ r'.length = j.toNat ∧ Lim r' ∧ ev r' + ev (m.take j.toNat) = ev (l.take j.toNat) + pw j.toNat * q := by
    intro t q d ht hq
    obtain ⟨s1, s2, s3⟩ := sub_step h1.1 h3.1 g5 g4 g6 g2 ht hq
    exact ⟨s3, fun j hj => ⟨r ++ [d], by simp, by simp; omega, s1, by rw [show j.toNat = i.toNat + 1 by omega]; exact s2⟩⟩
  cbv
  refine Ar.lss_ hA (fun h => ?_) (fun h => ?_)
  · cbv
    refine Ar.nn_ hA (by omega) ?_
    cbv
    refine Ar.toN_ hA (fun j0 hj0 => ?_)
    cbv
    obtain ⟨p, hp⟩ : ∃ p, l[j0]? = some p := ⟨l[j0]'(by omega), List.getElem?_eq_getElem _⟩
    refine Ar.idx_ hA (x := i64 p) (by rw [hes, List.getElem?_map, hp]; rfl) ?_
    cbv
    have hp1 := lg_some hp
    rw [show j0 = i.toNat by omega] at hp1
    refine Ar.callI hA c_spec_l1Limb (d_spec_l1Limb hes' g1) rfl (fun t2 ht2 => ?_)
    cbv
    refine Ar.sub_ hA (by omega) (fun t3 ht3 => ?_)
    cbv
    refine Ar.sub_ hA (by omega) (fun t ht => ?_)
    cbv
    refine Ar.lss_ hA (fun h0 => ?_) (fun h0 => ?_)
    · cbv
      refine Ar.add_ hA (by omega) (fun d hd => ?_)
      cbv
      refine Ar.app_ hA (fun r' hr' => ?_)
      cbv
      refine Ar.fitsL_ hA (by rw [hr']; simp; omega) ?_
      cbv
      refine Ar.add_ hA (by omega) (fun j hj => ?_)
      cbv
      obtain ⟨k1, k3⟩ := cont t 1 d (by omega) (.inl ⟨h0, rfl, hd⟩)
      obtain ⟨r2, e1, e2, e3, e4⟩ := k3 j hj
      exact ⟨(j, 1, r'), by show (n - j).toNat < (n - i).toNat; omega, ⟨by show 0 ≤ j; omega, by show j ≤ n; omega, k1, r2, by show r' = _; rw [hr', g3]; exact e1, e2, e3, e4⟩, rfl, ⟨rfl, rfl, rfl, rfl, rfl, rfl, trivial⟩, rfl, trivial⟩
    · cbv
      refine Ar.app_ hA (fun r' hr' => ?_)
      cbv
      refine Ar.fitsL_ hA (by rw [hr']; simp; omega) ?_
      cbv
      refine Ar.add_ hA (by omega) (fun j hj => ?_)
      cbv
      obtain ⟨k1, k3⟩ := cont t 0 t (by omega) (.inr ⟨h0, rfl, rfl⟩)
      obtain ⟨r2, e1, e2, e3, e4⟩ := k3 j hj
      exact ⟨(j, 0, r'), by show (n - j).toNat < (n - i).toNat; omega, ⟨by show 0 ≤ j; omega, by show j ≤ n; omega, k1, r2, by show r' = _; rw [hr', g3]; exact e1, e2, e3, e4⟩, rfl, ⟨rfl, rfl, rfl, rfl, rfl, rfl, trivial⟩, rfl, trivial⟩
  · cbv
    have hfin := sub_fin h1 h3 g5 hle (n := i.toNat) (by omega) (by omega) (by rw [show l.length = i.toNat by omega]; exact g6) g2
    rw [← hfin] at hc
    refine Ar.call_ hA c_spec_l1Cut (d_spec_l1Cut g3 g5 (by omega) hc) rfl ?_
    cbv
    exact hK _ _ rfl rfl

theorem set_get {e r : List PV} {i j : Nat} {x : PV} (hr : r = e.set j x) (hj : j = i) (hi : i < e.length) : (∀ k, k = i → r[k]? = some x) ∧ r = e.set i x ∧ r.length = e.length := by
  subst hj
  rw [hr]
  exact ⟨fun k hk => by rw [hk, List.getElem?_set_self hi], rfl, by simp⟩

theorem set_mid {r t : List Int} {i : Nat} {x y : Int} (h : r.length = i) : (r ++ x :: t).set i y = r ++ y :: t := by
  subst h
  simp

theorem c_impl_subLimbs : Callable Tryz.prog 136 := ⟨_, Tryz.func136, rfl, by kernel_rfl⟩
theorem d_impl_subLimbs {a b c : List PV} {x y : Int} (ha : Num a x) (hb : Num b y) (hl : a.length ≤ 400000 ∧ b.length ≤ 400000) (hle : y ≤ x) (hc : Num c (x - y)) : Does Tryz.prog 136 [.sl a, .sl b] (.pv (.sl c)) [] := by
  refine does_of hT hM Tryz.func136 rfl (D := []) (by kernel_rfl) rfl rfl rfl (fun A K hA hK => ?_)
  obtain ⟨l, hes, h1, rfl⟩ := ha
  obtain ⟨m, hes', h3, rfl⟩ := hb
  have hlen : a.length = l.length := by simp [hes]
  have hlen' : b.length = m.length := by simp [hes']
  cbv
  refine Ar.call_ hA c_slices_Clone_int_int (d_slices_Clone_int_int hes (by omega)) rfl ?_
  cbv
  refine Ar.len_ hA (fun n hn hn' => ?_)
  cbv
  refine Ar.loop_ hA (α := Int × Int × List PV) (fun x => (n - x.1).toNat) (fun x => 0 ≤ x.1 ∧ x.1 ≤ n ∧ (0 ≤ x.2.1 ∧ x.2.1 ≤ 1) ∧ ∃ r : List Int, x.2.2 = (r ++ l.drop x.1.toNat).map i64 ∧ r.length = x.1.toNat ∧ Lim r ∧ ev r + ev (m.take x.1.toNat) = ev (l.take x.1.toNat) + pw x.1.toNat * x.2.1) 50 (fun x => [(1, .pv (.sl b) []), (5, .own 9 none), (6, .pv (i64 x.2.1) []), (11, .pv (i64 n) []), (12, .pv (i64 x.1) [])]) (fun x => [(9, some (.row x.2.2 1 .free false))]) (0, 0, a) (by refine ⟨?_, ⟨?_, ?_, ?_, ?_, ?_, trivial⟩, ?_, trivial⟩ <;> cbv) ⟨by simp, by simp; omega, by simp, [], by simp [hes], rfl, Lim.nil, by simp [ev]⟩ ?_
  rintro ⟨i, k, e⟩ st f ⟨g1, g0, g2, r, g3, g4, g5, g6⟩
  simp only at g1 g0 g2 g3 g4 g6
  have hlg1 := h1.1.lg i.toNat
  have hlg2 := h3.1.lg i.toNat
  cbv
  refine Ar.lss_ hA (fun h => ?_) (fun h => ?_)
  · cbv
    have hel : e.length = l.length := by rw [g3]; simp; omega
    have hgl := lg_get (l := l) (i := i.toNat) (by omega)
    have ge : e = (r ++ lg l i.toNat :: l.drop (i.toNat + 1)).map i64 := by rw [g3, drop_cons hgl]
    obtain ⟨x0, hx0⟩ : ∃ x0, x0 = lg l i.toNat := ⟨_, rfl⟩
    obtain ⟨y0, hy0⟩ : ∃ x0, x0 = lg m i.toNat := ⟨_, rfl⟩
    rw [← hx0] at ge hlg1
    rw [← hy0] at hlg2
    have hx : ∀ j, j = i.toNat → e[j]? = some (i64 x0) := fun j hj => by rw [hj, ge, List.getElem?_map, List.getElem?_append_right (by omega), show i.toNat - r.length = 0 by omega]; rfl
    have cont : ∀ t q d : Int, t = x0 - y0 - k → (t < 0 ∧ q = 1 ∧ d = t + 65536 ∨ 0 ≤ t ∧ q = 0 ∧ d = t) → (0 ≤ q ∧ q ≤ 1) ∧ ∀ j : Int, j = i + 1 → ∃ r' : List Int, e.set i.toNat (i64 d) = (r' ++ l.drop j.toNat).map i64 ∧ r'.length = j.toNat ∧ Lim r' ∧ ev r' + ev (m.take j.toNat) = ev (l.take j.toNat) + pw j.toNat * q := by
      intro t q d ht hq
      rw [hx0, hy0] at ht
      obtain ⟨s1, s2, s3⟩ := sub_step h1.1 h3.1 g5 g4 g6 g2 ht hq
      refine ⟨s3, fun j hj => ⟨r ++ [d], ?_, by simp; omega, s1, by rw [show j.toNat = i.toNat + 1 by omega]; exact s2⟩⟩
      rw [ge, ← List.map_set, set_mid g4, show j.toNat = i.toNat + 1 by omega]
      simp
    clear g3
    repeat' (first
      | (refine Ar.nn_ hA (by omega) ?_; cbv)
      | (refine Ar.toN_ hA (fun _ _ => ?_); cbv)
      | (refine Ar.idx_ hA (x := i64 x0) (hx _ (by omega)) ?_; cbv))
    refine Ar.sub_ hA (by omega) (fun v1 hv1 => ?_)
    cbv
    repeat' (first
      | (refine Ar.nn_ hA (by omega) ?_; cbv)
      | (refine Ar.toN_ hA (fun _ _ => ?_); cbv)
      | (refine Ar.idx_ hA (x := i64 x0) (hx _ (by omega)) ?_; cbv))
    refine Ar.set_ hA (fun e1 he1 => ?_)
    obtain ⟨hx1, he1', hl1⟩ := set_get he1 (by omega) (by omega)
    clear he1
    cbv
    refine Ar.len_ hA (fun n2 hn2 hn2' => ?_)
    cbv
    refine Ar.lss_ hA (fun h5 => ?_) (fun h5 => ?_)
    · cbv
      have hy : ∀ j, j = i.toNat → b[j]? = some (i64 y0) := fun j hj => by rw [hj, hes', List.getElem?_map, lg_get (by omega), hy0]; rfl
      repeat' (first
        | (refine Ar.nn_ hA (by omega) ?_; cbv)
        | (refine Ar.toN_ hA (fun _ _ => ?_); cbv)
        | (refine Ar.idx_ hA (x := i64 v1) (hx1 _ (by omega)) ?_; cbv)
        | (refine Ar.idx_ hA (x := i64 y0) (hy _ (by omega)) ?_; cbv))
      refine Ar.sub_ hA (by omega) (fun v2 hv2 => ?_)
      cbv
      repeat' (first
        | (refine Ar.nn_ hA (by omega) ?_; cbv)
        | (refine Ar.toN_ hA (fun _ _ => ?_); cbv)
        | (refine Ar.idx_ hA (x := i64 v1) (hx1 _ (by omega)) ?_; cbv))
      refine Ar.set_ hA (fun e2 he2 => ?_)
      obtain ⟨hx2, he2', hl2⟩ := set_get he2 (i := i.toNat) (by omega) (by omega)
      clear he2
      cbv
      repeat' (first
        | (refine Ar.nn_ hA (by omega) ?_; cbv)
        | (refine Ar.toN_ hA (fun _ _ => ?_); cbv)
        | (refine Ar.idx_ hA (x := i64 v2) (hx2 _ (by omega)) ?_; cbv))
      refine Ar.lss_ hA (fun h6 => ?_) (fun h6 => ?_)
      · cbv
        repeat' (first
          | (refine Ar.nn_ hA (by omega) ?_; cbv)
          | (refine Ar.toN_ hA (fun _ _ => ?_); cbv)
          | (refine Ar.idx_ hA (x := i64 v2) (hx2 _ (by omega)) ?_; cbv))
        refine Ar.add_ hA (by omega) (fun d hd => ?_)
        cbv
        repeat' (first
          | (refine Ar.nn_ hA (by omega) ?_; cbv)
          | (refine Ar.toN_ hA (fun _ _ => ?_); cbv)
          | (refine Ar.idx_ hA (x := i64 v2) (hx2 _ (by omega)) ?_; cbv))
        refine Ar.set_ hA (fun e3 he3 => ?_)
        obtain ⟨_, he3', hl3⟩ := set_get he3 (i := i.toNat) (by omega) (by omega)
        clear he3
        cbv
        refine Ar.add_ hA (by omega) (fun j hj => ?_)
        cbv
        obtain ⟨k1, k3⟩ := cont v2 1 d (by omega) (.inl ⟨h6, rfl, hd⟩)
        obtain ⟨r2, f1, f2, f3, f4⟩ := k3 j hj
        exact ⟨(j, 1, e3), by show (n - j).toNat < (n - i).toNat; omega, ⟨by show 0 ≤ j; omega, by show j ≤ n; omega, k1, r2, by show e3 = _; rw [← f1, he3', he2', he1']; simp, f2, f3, f4⟩, rfl, ⟨rfl, rfl, rfl, rfl, rfl, trivial⟩, rfl, trivial⟩
      · cbv
        refine Ar.add_ hA (by omega) (fun j hj => ?_)
        cbv
        obtain ⟨k1, k3⟩ := cont v2 0 v2 (by omega) (.inr ⟨h6, rfl, rfl⟩)
        obtain ⟨r2, f1, f2, f3, f4⟩ := k3 j hj
        exact ⟨(j, 0, e2), by show (n - j).toNat < (n - i).toNat; omega, ⟨by show 0 ≤ j; omega, by show j ≤ n; omega, k1, r2, by show e2 = _; rw [← f1, he2', he1']; try (simp; done), f2, f3, f4⟩, rfl, ⟨rfl, rfl, rfl, rfl, rfl, trivial⟩, rfl, trivial⟩
    · cbv
      have hy1 : y0 = 0 := by rw [hy0]; exact lg_none (by omega)
      repeat' (first
        | (refine Ar.nn_ hA (by omega) ?_; cbv)
        | (refine Ar.toN_ hA (fun _ _ => ?_); cbv)
        | (refine Ar.idx_ hA (x := i64 v1) (hx1 _ (by omega)) ?_; cbv))
      refine Ar.lss_ hA (fun h6 => ?_) (fun h6 => ?_)
      · cbv
        repeat' (first
          | (refine Ar.nn_ hA (by omega) ?_; cbv)
          | (refine Ar.toN_ hA (fun _ _ => ?_); cbv)
          | (refine Ar.idx_ hA (x := i64 v1) (hx1 _ (by omega)) ?_; cbv))
        refine Ar.add_ hA (by omega) (fun d hd => ?_)
        cbv
        repeat' (first
          | (refine Ar.nn_ hA (by omega) ?_; cbv)
          | (refine Ar.toN_ hA (fun _ _ => ?_); cbv)
          | (refine Ar.idx_ hA (x := i64 v1) (hx1 _ (by omega)) ?_; cbv))
        refine Ar.set_ hA (fun e3 he3 => ?_)
        obtain ⟨_, he3', hl3⟩ := set_get he3 (i := i.toNat) (by omega) (by omega)
        clear he3
        cbv
        refine Ar.add_ hA (by omega) (fun j hj => ?_)
        cbv
        obtain ⟨k1, k3⟩ := cont v1 1 d (by omega) (.inl ⟨h6, rfl, hd⟩)
        obtain ⟨r2, f1, f2, f3, f4⟩ := k3 j hj
        exact ⟨(j, 1, e3), by show (n - j).toNat < (n - i).toNat; omega, ⟨by show 0 ≤ j; omega, by show j ≤ n; omega, k1, r2, by show e3 = _; rw [← f1, he3', he1']; simp, f2, f3, f4⟩, rfl, ⟨rfl, rfl, rfl, rfl, rfl, trivial⟩, rfl, trivial⟩
      · cbv
        refine Ar.add_ hA (by omega) (fun j hj => ?_)
        cbv
        obtain ⟨k1, k3⟩ := cont v1 0 v1 (by omega) (.inr ⟨h6, rfl, rfl⟩)
        obtain ⟨r2, f1, f2, f3, f4⟩ := k3 j hj
        exact ⟨(j, 0, e1), by show (n - j).toNat < (n - i).toNat; omega, ⟨by show 0 ≤ j; omega, by show j ≤ n; omega, k1, r2, by show e1 = _; rw [← f1, he1']; try (simp; done), f2, f3, f4⟩, rfl, ⟨rfl, rfl, rfl, rfl, rfl, trivial⟩, rfl, trivial⟩
  · cbv
    have hfin := sub_fin h1 h3 g5 hle (n := i.toNat) (by omega) (by omega) (by rw [show l.length = i.toNat by omega]; exact g6) g2
    rw [List.drop_of_length_le (by omega), List.append_nil] at g3
    rw [← hfin] at hc
    refine Ar.call_ hA c_impl_cut (d_impl_cut g3 g5 (by omega) hc) rfl ?_
    cbv
    exact hK _ _ rfl rfl

end Go.VAI
