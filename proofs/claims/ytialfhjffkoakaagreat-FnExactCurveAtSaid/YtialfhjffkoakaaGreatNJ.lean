/- The digits of a quotient: the guess, taking off, adding back. -/
import Derived.Test.YtialfhjffkoakaaGreatNI
namespace Go.VAI
open Go.Proofs
set_option maxRecDepth 100000
set_option maxHeartbeats 8000000

structure KN (U V P t v0 v1 v2 u0 u2 : Int) : Prop where
  hU : U = u0 + P * (u2 + 65536 * t)
  hV : V = v0 + P * (v2 + 65536 * v1)
  hP : 0 < P
  hu0 : 0 ≤ u0 ∧ u0 < P
  hu2 : 0 ≤ u2 ∧ u2 < 65536
  hv0 : 0 ≤ v0 ∧ v0 < P
  hv2 : 0 ≤ v2 ∧ v2 < 65536
  hv1 : 0 < v1 ∧ v1 < 65536
  ht : 0 ≤ t ∧ t ≤ 4294967295
  lt : U < V * 65536

theorem KN.init {U V P t v0 v1 v2 u0 u2 : Int} (k : KN U V P t v0 v1 v2 u0 u2) : t / v1 * v1 + t % v1 = t ∧ (0 ≤ t / v1 ∧ t / v1 ≤ 4294967295) ∧ 0 ≤ t % v1 ∧ U < (t / v1 + 1) * V := by
  have h1 := Int.mul_ediv_add_emod t v1
  have h2 : 0 ≤ t / v1 := Int.ediv_nonneg k.ht.1 (by have := k.hv1; omega)
  have h3 : 0 ≤ t % v1 := Int.emod_nonneg _ (by have := k.hv1; omega)
  have h4 : t % v1 < v1 := Int.emod_lt_of_pos _ k.hv1.1
  have h5 : t / v1 ≤ t := Int.ediv_le_self _ k.ht.1
  rw [Int.mul_comm] at h1
  have := k.ht
  exact ⟨h1, ⟨h2, by omega⟩, h3, kn_init k.hU k.hV k.hP k.hu0.2 k.hu2.2 k.hv0.1 k.hv2.1 h2 h1 h4⟩
/-- One less, when the guess is too great. -/
theorem KN.dec {U V P t v0 v1 v2 u0 u2 q r : Int} (k : KN U V P t v0 v1 v2 u0 u2) (hq : 0 ≤ q) (hr : 0 ≤ r) (hqr : q * v1 + r = t) (h : 65536 ≤ q ∨ r * 65536 + u2 < q * v2) : 0 < q ∧ U < (q - 1 + 1) * V ∧ (q - 1) * v1 + (r + v1) = t := by
  have hpos : 0 < q := by
    rcases h with h | h
    · omega
    · rcases Int.lt_or_le 0 q with h' | h'
      · exact h'
      · obtain rfl : q = 0 := by omega
        have := k.hu2
        omega
  have hV : 0 ≤ V := by
    rw [k.hV]
    have := Int.mul_nonneg (Int.le_of_lt k.hP) (show 0 ≤ v2 + 65536 * v1 by have := k.hv2; have := k.hv1; omega)
    have := k.hv0
    omega
  refine ⟨hpos, ?_, by rw [Int.sub_mul]; omega⟩
  rw [Int.sub_add_cancel]
  rcases h with h | h
  · exact kn_big k.lt hV h
  · exact kn_dec k.hU k.hV k.hP k.hu0.2 k.hv0.1 hq hqr h
theorem KN.exit {U V P t v0 v1 v2 u0 u2 q r : Int} (k : KN U V P t v0 v1 v2 u0 u2) (hq : 0 ≤ q) (hqr : q * v1 + r = t) (h : 65536 ≤ r ∨ q < 65536 ∧ q * v2 ≤ r * 65536 + u2) : q < 65536 ∧ q * V ≤ U + V := by
  have hlt : q < 65536 := by
    rcases h with h | h
    · have h1 := kn_top k.hU k.hV k.hP k.hu0.1 k.hu2.1 k.hv0.2 k.hv2.2 k.lt
      have h2 : q * v1 < 65536 * v1 := by omega
      exact Int.lt_of_mul_lt_mul_right h2 (Int.le_of_lt k.hv1.1)
    · exact h.1
  exact ⟨hlt, kn_exit k.hU k.hV k.hP k.hu0.1 k.hv0 k.hv1.1 k.hv2 k.hu2.1 hq (by omega) hqr (h.imp id And.right)⟩
theorem KN.mul {U V P t v0 v1 v2 u0 u2 q r : Int} (k : KN U V P t v0 v1 v2 u0 u2) (hq : 0 ≤ q) (hr : 0 ≤ r) (hqr : q * v1 + r = t) : q ≤ 4294967295 ∧ r ≤ 4294967295 ∧ 0 ≤ q * v2 ∧ q * v2 ≤ 281474976710656 := by
  have h1 : q * 1 ≤ q * v1 := Int.mul_le_mul_of_nonneg_left (by have := k.hv1; omega) hq
  have := k.ht
  have h2 : q * v2 ≤ 4294967295 * 65536 := Int.mul_le_mul (by omega) (by have := k.hv2; omega) k.hv2.1 (by omega)
  have h3 := Int.mul_nonneg hq k.hv2.1
  omega

def gq (v1 v2 u2 : Int) : Nat → Int → Int → Int
  | 0, q, _ => q
  | f + 1, q, r => if r < 65536 ∧ (65536 ≤ q ∨ r * 65536 + u2 < q * v2) then gq v1 v2 u2 f (q - 1) (r + v1) else q

theorem gq_ok {U V P t v0 v1 v2 u0 u2 : Int} (k : KN U V P t v0 v1 v2 u0 u2) : ∀ (f : Nat) (q r : Int), q.toNat = f → 0 ≤ q → 0 ≤ r → q * v1 + r = t → U < (q + 1) * V →
    (0 ≤ gq v1 v2 u2 f q r ∧ gq v1 v2 u2 f q r < 65536) ∧ U < (gq v1 v2 u2 f q r + 1) * V ∧ gq v1 v2 u2 f q r * V ≤ U + V
  | 0, q, r, hf, hq, hr, hqr, hU => by
    have h0 : q = 0 := by omega
    obtain ⟨h1, h2⟩ := k.exit hq hqr (.inr ⟨by omega, by rw [h0]; have := k.hu2; omega⟩)
    exact ⟨⟨hq, h1⟩, hU, h2⟩
  | f + 1, q, r, hf, hq, hr, hqr, hU => by
    simp only [gq]
    by_cases h : r < 65536 ∧ (65536 ≤ q ∨ r * 65536 + u2 < q * v2)
    · rw [if_pos h]
      obtain ⟨h1, h2, h3⟩ := k.dec hq hr hqr h.2
      exact gq_ok k f (q - 1) (r + v1) (by omega) (by omega) (by have := k.hv1; omega) h3 h2
    · rw [if_neg h]
      obtain ⟨h1, h2⟩ := k.exit hq hqr (by omega)
      exact ⟨⟨hq, h1⟩, hU, h2⟩
theorem gq_next {v1 v2 u2 q r G : Int} (hG : gq v1 v2 u2 q.toNat q r = G) (h : 0 < q) (hc : r < 65536 ∧ (65536 ≤ q ∨ r * 65536 + u2 < q * v2)) : gq v1 v2 u2 (q - 1).toNat (q - 1) (r + v1) = G := by
  rw [show q.toNat = (q - 1).toNat + 1 by omega] at hG
  simp only [gq] at hG
  rw [if_pos hc] at hG
  exact hG
theorem gq_end {v1 v2 u2 q r G : Int} (hG : gq v1 v2 u2 q.toNat q r = G) (hc : ¬ (r < 65536 ∧ (65536 ≤ q ∨ r * 65536 + u2 < q * v2))) : G = q := by
  cases h : q.toNat with
  | zero => rw [h] at hG; simp only [gq] at hG; exact hG.symm
  | succ f => rw [h] at hG; simp only [gq] at hG; rw [if_neg hc] at hG; exact hG.symm

theorem kn_lists {w v : List Int} {n : Nat} (hw : Lim w) (hv : Can v) (hwl : w.length = n + 1) (hvl : v.length = n) (hn : 2 ≤ n) (hlt : ev w < ev v * 65536) :
    KN (ev w) (ev v) (pw (n - 2)) (lg w n * 65536 + lg w (n - 1)) (ev (v.take (n - 2))) (lg v (n - 1)) (lg v (n - 2)) (ev (w.take (n - 2))) (lg w (n - 2)) := by
  obtain ⟨m, rfl⟩ : ∃ m, n = m + 2 := ⟨n - 2, by omega⟩
  have e1 : m + 2 - 1 = m + 1 := by omega
  have e2 : m + 2 - 2 = m := by omega
  rw [e1, e2]
  have a1 := ev_tk w (m + 2)
  have a2 := ev_tk w (m + 1)
  have a3 := ev_tk w m
  rw [ev_tk_all (by omega)] at a1
  have b2 := ev_tk v (m + 1)
  have b3 := ev_tk v m
  rw [ev_tk_all (by omega)] at b2
  have c1 := hw.lg (m + 2)
  have c2 := hw.lg (m + 1)
  have d1 := hv.1.lg (m + 1)
  have d0 : lg v (m + 1) ≠ 0 := by
    refine hv.2 _ ?_
    rw [List.getLast?_eq_getElem?, hvl]
    exact lg_get (by omega)
  refine ⟨?_, ?_, pw_pos m, tk_bound hw m, hw.lg m, tk_bound hv.1 m, hv.1.lg m, by omega, by omega, hlt⟩
  · rw [a1, a2, a3]; simp only [pw]; grind
  · rw [b2, b3]; simp only [pw]; grind

theorem win_get {p w z : List Int} {k : Nat} (hk : k < w.length) : (p ++ (w ++ z))[p.length + k]? = w[k]? := by
  rw [List.getElem?_append_right (by omega), show p.length + k - p.length = k by omega, List.getElem?_append_left hk]
theorem win_set {p w z : List Int} {k : Nat} {y : Int} (hk : k < w.length) : (p ++ (w ++ z)).set (p.length + k) y = p ++ (w.set k y ++ z) := by
  rw [List.set_append_right _ _ (by omega), show p.length + k - p.length = k by omega, List.set_append_left _ _ hk]

theorem c_spec_l1Guess : Callable Tryz.prog 157 := ⟨_, Tryz.func157, rfl, by kernel_rfl⟩
theorem d_spec_l1Guess {us vs : List PV} {p w z v : List Int} {j : Int} (hu : us = (p ++ (w ++ z)).map i64) (hv : vs = v.map i64) (hj : 0 ≤ j ∧ j.toNat = p.length) (hb : p.length + w.length + z.length ≤ 400000) (hw : Lim w) (hvc : Can v) (hwl : w.length = v.length + 1) (hn : 2 ≤ v.length) (hlt : ev w < ev v * 65536) {G : Int} (hG : gq (lg v (v.length - 1)) (lg v (v.length - 2)) (lg w (v.length - 2)) ((lg w v.length * 65536 + lg w (v.length - 1)) / lg v (v.length - 1)).toNat ((lg w v.length * 65536 + lg w (v.length - 1)) / lg v (v.length - 1)) ((lg w v.length * 65536 + lg w (v.length - 1)) % lg v (v.length - 1)) = G) : Does Tryz.prog 157 [.sl us, .sl vs, i64 j] (.pv (i64 G)) [] := by
  refine does_of hT hM Tryz.func157 rfl (D := []) (by kernel_rfl) rfl rfl rfl (fun A K hA hK => ?_)
  have k := kn_lists hw hvc hwl rfl hn hlt
  have hul : us.length = p.length + w.length + z.length := by simp [hu]; omega
  have hvl : vs.length = v.length := by simp [hv]
  obtain ⟨N, hN⟩ : ∃ N, N = v.length := ⟨_, rfl⟩
  rw [← hN] at hwl hn hvl hG k
  have gu : ∀ i x, i ≤ N → lg w i = x → ∀ q, q = j.toNat + i → us[q]? = some (i64 x) := fun i x hi hx q hq => by
    rw [hu, List.getElem?_map, hq, hj.2, win_get (by omega), lg_get (by omega), hx]; rfl
  have gv : ∀ i x, i < N → lg v i = x → ∀ q, q = i → vs[q]? = some (i64 x) := fun i x hi hx q hq => by
    rw [hv, List.getElem?_map, hq, lg_get (by omega), hx]; rfl
  obtain ⟨x0, hx0⟩ : ∃ x, lg w N = x := ⟨_, rfl⟩
  obtain ⟨x1, hx1⟩ : ∃ x, lg w (N - 1) = x := ⟨_, rfl⟩
  obtain ⟨x2, hx2⟩ : ∃ x, lg w (N - 2) = x := ⟨_, rfl⟩
  obtain ⟨y1, hy1⟩ : ∃ x, lg v (N - 1) = x := ⟨_, rfl⟩
  obtain ⟨y2, hy2⟩ : ∃ x, lg v (N - 2) = x := ⟨_, rfl⟩
  have g0 := gu N x0 (by omega) hx0
  have g1 := gu (N - 1) x1 (by omega) hx1
  have g2 := gu (N - 2) x2 (by omega) hx2
  have f1 := gv (N - 1) y1 (by omega) hy1
  have f2 := gv (N - 2) y2 (by omega) hy2
  have b0 := hw.lg N
  have b1 := hw.lg (N - 1)
  rw [hx0] at b0
  rw [hx1] at b1
  rw [hx0, hx1, hx2, hy1, hy2] at k hG
  clear gu gv hx0 hx1 hx2 hy1 hy2
  obtain ⟨k1, k2, k3, k4⟩ := k.init
  have hv1 := k.hv1
  have hv2 := k.hv2
  have hu2 := k.hu2
  obtain ⟨t, ht⟩ : ∃ t, t = x0 * 65536 + x1 := ⟨_, rfl⟩
  rw [← ht] at k hG k1 k2 k3 k4
  have htb := k.ht
  cbv
  refine Ar.len_ hA (fun n hn1 hn1' => ?_)
  cbv
  repeat' (first
    | (refine Ar.add_ hA (by omega) (fun tq htq => (fun (etq : t = tq) => ?_) (by omega)); subst etq; cbv)
    | (refine Ar.add_ hA (by omega) (fun _ _ => ?_); cbv)
    | (refine Ar.sub_ hA (by omega) (fun _ _ => ?_); cbv)
    | (refine Ar.nn_ hA (by omega) ?_; cbv)
    | (refine Ar.toN_ hA (fun _ _ => ?_); cbv)
    | (refine Ar.idx_ hA (x := i64 x0) (g0 _ (by omega)) ?_; cbv)
    | (refine Ar.idx_ hA (x := i64 x1) (g1 _ (by omega)) ?_; cbv)
    | (refine Ar.idx_ hA (x := i64 y1) (f1 _ (by omega)) ?_; cbv)
    | (refine Ar.mul_ hA (by omega) (fun _ _ => ?_); cbv)
    | (refine Ar.nz_ hA (by omega) ?_; cbv))
  refine Ar.quo_ hA (by omega) (fun q0 hq0 => ?_)
  cbv
  repeat' (first
    | (refine Ar.sub_ hA (by omega) (fun _ _ => ?_); cbv)
    | (refine Ar.nn_ hA (by omega) ?_; cbv)
    | (refine Ar.toN_ hA (fun _ _ => ?_); cbv)
    | (refine Ar.idx_ hA (x := i64 y1) (f1 _ (by omega)) ?_; cbv)
    | (refine Ar.nz_ hA (by omega) ?_; cbv))
  refine Ar.rem_ hA (by omega) (fun r0 hr0 => ?_)
  cbv
  rw [← hq0] at k1 k2 k4 hG
  rw [← hr0] at k1 k3 hG
  clear g0 g1
  refine Ar.loop_ hA (α := Int × Int) (fun x => x.1.toNat) (fun x => 0 ≤ x.1 ∧ 0 ≤ x.2 ∧ x.1 * y1 + x.2 = t ∧ ev w < (x.1 + 1) * ev v ∧ gq y1 y2 x2 x.1.toNat x.1 x.2 = G) 78 (fun x => [(0, .pv (.sl us) []), (1, .pv (.sl vs) []), (2, .pv (i64 j) []), (7, .pv (i64 n) []), (9, .pv (i64 x.1) []), (10, .pv (i64 x.2) [])]) (fun _ => []) (q0, r0) (by refine ⟨?_, ⟨?_, ?_, ?_, ?_, ?_, ?_, trivial⟩, trivial⟩ <;> cbv) ⟨k2.1, k3, k1, k4, hG⟩ ?_
  rintro ⟨q, r⟩ st f ⟨h1, h2, h3, h4, h5⟩
  simp only at h1 h2 h3 h4 h5
  obtain ⟨m1, m2, m3, m4⟩ := k.mul h1 h2 h3
  have hnext := fun hc : r < 65536 ∧ (65536 ≤ q ∨ r * 65536 + x2 < q * y2) => k.dec h1 h2 h3 hc.2
  cbv
  refine Ar.lss_ hA (fun c1 => ?_) (fun c1 => ?_)
  · cbv
    refine Ar.geq_ hA (fun c2 => ?_) (fun c2 => ?_)
    · cbv
      obtain ⟨n1, n2, n3⟩ := hnext ⟨c1, .inl c2⟩
      have n4 := gq_next h5 n1 ⟨c1, .inl c2⟩
      refine Ar.sub_ hA (by omega) (fun q' hq' => ?_)
      cbv
      repeat' (first
        | (refine Ar.sub_ hA (by omega) (fun _ _ => ?_); cbv)
        | (refine Ar.nn_ hA (by omega) ?_; cbv)
        | (refine Ar.toN_ hA (fun _ _ => ?_); cbv)
        | (refine Ar.idx_ hA (x := i64 y1) (f1 _ (by omega)) ?_; cbv))
      refine Ar.add_ hA (by omega) (fun r' hr' => ?_)
      cbv
      rw [← hq'] at n2 n3 n4
      rw [← hr'] at n3 n4
      exact ⟨(q', r'), by show q'.toNat < q.toNat; omega, ⟨by show 0 ≤ q'; omega, by show 0 ≤ r'; omega, n3, n2, n4⟩, rfl, ⟨rfl, rfl, rfl, rfl, rfl, rfl, trivial⟩, trivial⟩
    · cbv
      repeat' (first
        | (refine Ar.mul_ hA (by omega) (fun _ _ => ?_); cbv)
        | (refine Ar.add_ hA (by omega) (fun _ _ => ?_); cbv)
        | (refine Ar.sub_ hA (by omega) (fun _ _ => ?_); cbv)
        | (refine Ar.nn_ hA (by omega) ?_; cbv)
        | (refine Ar.toN_ hA (fun _ _ => ?_); cbv)
        | (refine Ar.idx_ hA (x := i64 y2) (f2 _ (by omega)) ?_; cbv)
        | (refine Ar.idx_ hA (x := i64 x2) (g2 _ (by omega)) ?_; cbv))
      refine Ar.gtr_ hA (fun c3 => ?_) (fun c3 => ?_)
      · cbv
        have c4 : r * 65536 + x2 < q * y2 := by omega
        obtain ⟨n1, n2, n3⟩ := hnext ⟨c1, .inr c4⟩
        have n4 := gq_next h5 n1 ⟨c1, .inr c4⟩
        refine Ar.sub_ hA (by omega) (fun q' hq' => ?_)
        cbv
        repeat' (first
          | (refine Ar.sub_ hA (by omega) (fun _ _ => ?_); cbv)
          | (refine Ar.nn_ hA (by omega) ?_; cbv)
          | (refine Ar.toN_ hA (fun _ _ => ?_); cbv)
          | (refine Ar.idx_ hA (x := i64 y1) (f1 _ (by omega)) ?_; cbv))
        refine Ar.add_ hA (by omega) (fun r' hr' => ?_)
        cbv
        rw [← hq'] at n2 n3 n4
        rw [← hr'] at n3 n4
        exact ⟨(q', r'), by show q'.toNat < q.toNat; omega, ⟨by show 0 ≤ q'; omega, by show 0 ≤ r'; omega, n3, n2, n4⟩, rfl, ⟨rfl, rfl, rfl, rfl, rfl, rfl, trivial⟩, trivial⟩
      · cbv
        exact hK _ _ (by rw [gq_end h5 (by omega)]) rfl
  · cbv
    exact hK _ _ (by rw [gq_end h5 (by omega)]) rfl

theorem off_step {w v : List Int} {i : Nat} {W q c x t d c' : Int} (hw : Lim w) (hv : Lim v) (he : ev w = W - q * ev (v.take i) + pw i * c) (hx : w[i]? = some x) (hq : 0 ≤ q ∧ q ≤ 65536) (hc : 0 ≤ c ∧ c ≤ q + 1) (ht : t = x - q * lg v i - c)
    (hd : t < 0 ∧ c' = (-t + 65535) / 65536 ∧ d = t + c' * 65536 ∨ 0 ≤ t ∧ c' = 0 ∧ d = t) : Lim (w.set i d) ∧ ev (w.set i d) = W - q * ev (v.take (i + 1)) + pw (i + 1) * c' ∧ 0 ≤ c' ∧ c' ≤ q + 1 := by
  have h1 := hw.get hx
  have h2 := hv.lg i
  have h3 : 0 ≤ q * lg v i ∧ q * lg v i ≤ q * 65535 := ⟨Int.mul_nonneg hq.1 h2.1, Int.mul_le_mul_of_nonneg_left (by omega) hq.1⟩
  refine ⟨hw.set (by omega), ?_, by omega, by omega⟩
  rw [ev_set hx, he, ev_tk]
  have e : d - x = c' * 65536 - q * lg v i - c := by omega
  rw [e]
  simp only [pw]
  grind
theorem off_bound {w v : List Int} {i : Nat} {q x : Int} (hw : Lim w) (hv : Lim v) (hx : w[i]? = some x) (hq : 0 ≤ q ∧ q ≤ 65536) : (0 ≤ x ∧ x < 65536) ∧ 0 ≤ q * lg v i ∧ q * lg v i ≤ 4294967296 := by
  have h2 := hv.lg i
  refine ⟨hw.get hx, Int.mul_nonneg hq.1 h2.1, ?_⟩
  have := Int.mul_le_mul hq.2 (show lg v i ≤ 65536 by omega) h2.1 (by omega)
  omega
theorem pw_mod {k : Nat} {a b L M : Int} (ha : 0 ≤ a ∧ a < pw k) (hb : 0 ≤ b ∧ b < pw k) (h : a - pw k * L = b - pw k * M) : L = M ∧ a = b := by
  have hL : L = M := by
    rcases Int.lt_trichotomy L M with h1 | h1 | h1
    · have : pw k * (L + 1) ≤ pw k * M := Int.mul_le_mul_of_nonneg_left (by omega) (Int.le_of_lt (pw_pos k))
      rw [Int.mul_add] at this; omega
    · exact h1
    · have : pw k * (M + 1) ≤ pw k * L := Int.mul_le_mul_of_nonneg_left (by omega) (Int.le_of_lt (pw_pos k))
      rw [Int.mul_add] at this; omega
  subst hL
  omega

theorem c_spec_l1Less : Callable Tryz.prog 158 := ⟨_, Tryz.func158, rfl, by kernel_rfl⟩
theorem d_spec_l1Less {us vs us2 : List PV} {p w z v w2 : List Int} {j q L : Int} (hu : us = (p ++ (w ++ z)).map i64) (hv : vs = v.map i64) (hj : 0 ≤ j ∧ j.toNat = p.length) (hb : p.length + w.length + z.length ≤ 400000) (hw : Lim w) (hvl : Lim v) (hwl : w.length = v.length + 1) (hq : 0 ≤ q ∧ q ≤ 65536) (hw2 : Lim w2 ∧ w2.length = w.length ∧ ev w2 = ev w - q * ev v + pw w.length * L) (hu2 : us2 = (p ++ (w2 ++ z)).map i64) : Does Tryz.prog 158 [.sl us, .sl vs, i64 j, i64 q] (.pv (i64 L)) [.sl us2] := by
  refine does_of hT hM Tryz.func158 rfl (D := []) (by kernel_rfl) rfl rfl rfl (fun A K hA hK => ?_)
  have hul : us.length = p.length + w.length + z.length := by simp [hu]; omega
  have hvl' : vs.length = v.length := by simp [hv]
  cbv
  refine Ar.loop_ hA (α := Int × Int × List PV) (fun x => (v.length + 2) - x.1.toNat) (fun x => 0 ≤ x.1 ∧ x.1.toNat ≤ v.length + 1 ∧ (0 ≤ x.2.1 ∧ x.2.1 ≤ q + 1) ∧ ∃ o : List Int, x.2.2 = (p ++ (o ++ z)).map i64 ∧ o.length = w.length ∧ Lim o ∧ ev o = ev w - q * ev (v.take x.1.toNat) + pw x.1.toNat * x.2.1) 50 (fun x => [(0, .own 0 none), (1, .pv (.sl vs) []), (2, .pv (i64 j) []), (3, .pv (i64 q) []), (9, .pv (i64 x.2.1) []), (10, .pv (i64 x.1) [])]) (fun x => [(0, some (.row x.2.2 1 .free true))]) (0, 0, us) (by refine ⟨?_, ⟨?_, ?_, ?_, ?_, ?_, ?_, trivial⟩, ?_, trivial⟩ <;> cbv) ⟨by simp, by simp, by simp; omega, w, hu, rfl, hw, by simp [ev]⟩ ?_
  rintro ⟨i, c, e⟩ st f ⟨g1, g2, g3, o, g4, g5, g6, g7⟩
  simp only at g1 g2 g3 g4 g7
  have hel : e.length = us.length := by rw [g4, hul]; simp; omega
  cbv
  refine Ar.len_ hA (fun n hn hn' => ?_)
  cbv
  refine Ar.leq_ hA (fun h => ?_) (fun h => ?_)
  · cbv
    obtain ⟨x, hx⟩ : ∃ x, o[i.toNat]? = some x := ⟨o[i.toNat]'(by omega), List.getElem?_eq_getElem _⟩
    obtain ⟨b1, b2, b3⟩ := off_bound g6 hvl hx hq
    have hxe : ∀ k, k = p.length + i.toNat → e[k]? = some (i64 x) := fun k hk => by rw [g4, List.getElem?_map, hk, win_get (by omega), hx]; rfl
    have hse : ∀ d, e.set (p.length + i.toNat) (i64 d) = (p ++ (o.set i.toNat d ++ z)).map i64 := fun d => by rw [g4, ← List.map_set, win_set (by omega)]
    refine Ar.add_ hA (by omega) (fun k hk => ?_)
    cbv
    repeat' (first
      | (refine Ar.nn_ hA (by omega) ?_; cbv)
      | (refine Ar.toN_ hA (fun _ _ => ?_); cbv)
      | (refine Ar.idx_ hA (x := i64 x) (hxe _ (by omega)) ?_; cbv))
    refine Ar.callI hA c_spec_l1Limb (d_spec_l1Limb hv g1) rfl (fun y hy => ?_)
    cbv
    rw [← hy] at b2 b3
    have hstep := fun t d c' (ht : t = x - q * y - c) hd => off_step (t := t) (d := d) (c' := c') g6 hvl g7 hx hq g3 (by rw [← hy]; exact ht) hd
    refine Ar.mul_ hA (by omega) (fun m hm => ?_)
    cbv
    repeat' (first
      | (refine Ar.nn_ hA (by omega) ?_; cbv)
      | (refine Ar.toN_ hA (fun _ _ => ?_); cbv)
      | (refine Ar.idx_ hA (x := i64 x) (hxe _ (by omega)) ?_; cbv))
    refine Ar.sub_ hA (by omega) (fun t1 ht1 => ?_)
    cbv
    refine Ar.sub_ hA (by omega) (fun t ht => ?_)
    cbv
    refine Ar.lss_ hA (fun h0 => ?_) (fun h0 => ?_)
    · cbv
      refine Ar.neg_ hA (by omega) (fun a1 ha1 => ?_)
      cbv
      refine Ar.add_ hA (by omega) (fun a2 ha2 => ?_)
      cbv
      refine Ar.sub_ hA (by omega) (fun a3 ha3 => ?_)
      cbv
      refine Ar.nz_ hA (by omega) ?_
      cbv
      refine Ar.quo_ hA (by omega) (fun c' hc' => ?_)
      cbv
      refine Ar.mul_ hA (by omega) (fun a4 ha4 => ?_)
      cbv
      refine Ar.add_ hA (by omega) (fun d hd => ?_)
      cbv
      obtain ⟨s1, s2, s3⟩ := hstep t d c' (by omega) (.inl ⟨h0, by rw [hc']; congr 1; omega, by omega⟩)
      refine Ar.add_ hA (by omega) (fun k2 hk2 => ?_)
      cbv
      repeat' (first
        | (refine Ar.nn_ hA (by omega) ?_; cbv)
        | (refine Ar.toN_ hA (fun _ _ => ?_); cbv)
        | (refine Ar.idx_ hA (x := i64 x) (hxe _ (by omega)) ?_; cbv))
      refine Ar.set_ hA (fun e1 he1 => ?_)
      obtain ⟨_, he1', _⟩ := set_get he1 (i := p.length + i.toNat) (by omega) (by omega)
      clear he1
      cbv
      refine Ar.add_ hA (by omega) (fun i' hi' => ?_)
      cbv
      exact ⟨(i', c', e1), by show v.length + 2 - i'.toNat < v.length + 2 - i.toNat; omega, ⟨by show 0 ≤ i'; omega, by show i'.toNat ≤ _; omega, s3, o.set i.toNat d, by show e1 = _; rw [he1', hse], by simp [g5], s1, by show ev _ = ev w - q * ev (v.take i'.toNat) + pw i'.toNat * c'; rw [show i'.toNat = i.toNat + 1 by omega]; exact s2⟩, rfl, ⟨rfl, rfl, rfl, rfl, rfl, rfl, trivial⟩, rfl, trivial⟩
    · cbv
      obtain ⟨s1, s2, s3⟩ := hstep t t 0 (by omega) (.inr ⟨h0, rfl, rfl⟩)
      refine Ar.add_ hA (by omega) (fun k2 hk2 => ?_)
      cbv
      repeat' (first
        | (refine Ar.nn_ hA (by omega) ?_; cbv)
        | (refine Ar.toN_ hA (fun _ _ => ?_); cbv)
        | (refine Ar.idx_ hA (x := i64 x) (hxe _ (by omega)) ?_; cbv))
      refine Ar.set_ hA (fun e1 he1 => ?_)
      obtain ⟨_, he1', _⟩ := set_get he1 (i := p.length + i.toNat) (by omega) (by omega)
      clear he1
      cbv
      refine Ar.add_ hA (by omega) (fun i' hi' => ?_)
      cbv
      exact ⟨(i', 0, e1), by show v.length + 2 - i'.toNat < v.length + 2 - i.toNat; omega, ⟨by show 0 ≤ i'; omega, by show i'.toNat ≤ _; omega, s3, o.set i.toNat t, by show e1 = _; rw [he1', hse], by simp [g5], s1, by show ev _ = ev w - q * ev (v.take i'.toNat) + pw i'.toNat * 0; rw [show i'.toNat = i.toNat + 1 by omega]; exact s2⟩, rfl, ⟨rfl, rfl, rfl, rfl, rfl, rfl, trivial⟩, rfl, trivial⟩
  · cbv
    refine Ar.same_ hA (by omega) ?_
    cbv
    have hi : i.toNat = w.length := by omega
    rw [hi, ev_tk_all (by omega)] at g7
    have hob := g6.bound
    have hwb := hw2.1.bound
    rw [g5] at hob
    rw [hw2.2.1] at hwb
    obtain ⟨z1, z2⟩ := pw_mod (L := c) (M := L) hob hwb (by rw [g7, hw2.2.2]; omega)
    have z3 : o = w2 := Lim.inj g6 hw2.1 (by omega) z2
    have z4 : e = us2 := by rw [g4, hu2, z3]
    exact hK _ _ (by rw [z1]) (by rw [z4])

theorem back_step {w v : List Int} {i : Nat} {W c x t : Int} (hw : Lim w) (hv : Lim v) (he : ev w = W + ev (v.take i) - pw i * c) (hx : w[i]? = some x) (hc : 0 ≤ c ∧ c ≤ 1) (ht : t = x + lg v i + c) : Lim (w.set i (t % 65536)) ∧ ev (w.set i (t % 65536)) = W + ev (v.take (i + 1)) - pw (i + 1) * (t / 65536) ∧ (0 ≤ t / 65536 ∧ t / 65536 ≤ 1) ∧ 0 ≤ t ∧ t ≤ 200000 := by
  have h1 := hw.get hx
  have h2 := hv.lg i
  refine ⟨hw.set (by omega), ?_, by omega, by omega⟩
  rw [ev_set hx, he, ev_tk]
  have e : t % 65536 - x = lg v i + c - 65536 * (t / 65536) := by omega
  rw [e]
  simp only [pw]
  grind

theorem c_spec_l1Back : Callable Tryz.prog 159 := ⟨_, Tryz.func159, rfl, by kernel_rfl⟩
theorem d_spec_l1Back {us vs us2 : List PV} {p w z v w2 : List Int} {j L : Int} (hu : us = (p ++ (w ++ z)).map i64) (hv : vs = v.map i64) (hj : 0 ≤ j ∧ j.toNat = p.length) (hb : p.length + w.length + z.length ≤ 400000) (hw : Lim w) (hvl : Lim v) (hwl : w.length = v.length + 1) (hw2 : Lim w2 ∧ w2.length = w.length ∧ ev w2 = ev w + ev v - pw w.length * L) (hu2 : us2 = (p ++ (w2 ++ z)).map i64) : Does Tryz.prog 159 [.sl us, .sl vs, i64 j] (.tup []) [.sl us2] := by
  refine does_of hT hM Tryz.func159 rfl (D := []) (by kernel_rfl) rfl rfl rfl (fun A K hA hK => ?_)
  have hul : us.length = p.length + w.length + z.length := by simp [hu]; omega
  have hvl' : vs.length = v.length := by simp [hv]
  cbv
  refine Ar.loop_ hA (α := Int × Int × List PV) (fun x => (v.length + 2) - x.1.toNat) (fun x => 0 ≤ x.1 ∧ x.1.toNat ≤ v.length + 1 ∧ (0 ≤ x.2.1 ∧ x.2.1 ≤ 1) ∧ ∃ o : List Int, x.2.2 = (p ++ (o ++ z)).map i64 ∧ o.length = w.length ∧ Lim o ∧ ev o = ev w + ev (v.take x.1.toNat) - pw x.1.toNat * x.2.1) 36 (fun x => [(0, .own 0 none), (1, .pv (.sl vs) []), (2, .pv (i64 j) []), (6, .pv (i64 x.2.1) []), (7, .pv (i64 x.1) [])]) (fun x => [(0, some (.row x.2.2 1 .free true))]) (0, 0, us) (by refine ⟨?_, ⟨?_, ?_, ?_, ?_, ?_, trivial⟩, ?_, trivial⟩ <;> cbv) ⟨by simp, by simp, by simp, w, hu, rfl, hw, by simp [ev]⟩ ?_
  rintro ⟨i, c, e⟩ st f ⟨g1, g2, g3, o, g4, g5, g6, g7⟩
  simp only at g1 g2 g3 g4 g7
  have hel : e.length = us.length := by rw [g4, hul]; simp; omega
  cbv
  refine Ar.len_ hA (fun n hn hn' => ?_)
  cbv
  refine Ar.leq_ hA (fun h => ?_) (fun h => ?_)
  · cbv
    obtain ⟨x, hx⟩ : ∃ x, o[i.toNat]? = some x := ⟨o[i.toNat]'(by omega), List.getElem?_eq_getElem _⟩
    have b1 := g6.get hx
    have hxe : ∀ k, k = p.length + i.toNat → e[k]? = some (i64 x) := fun k hk => by rw [g4, List.getElem?_map, hk, win_get (by omega), hx]; rfl
    have hse : ∀ d, e.set (p.length + i.toNat) (i64 d) = (p ++ (o.set i.toNat d ++ z)).map i64 := fun d => by rw [g4, ← List.map_set, win_set (by omega)]
    refine Ar.add_ hA (by omega) (fun k hk => ?_)
    cbv
    repeat' (first
      | (refine Ar.nn_ hA (by omega) ?_; cbv)
      | (refine Ar.toN_ hA (fun _ _ => ?_); cbv)
      | (refine Ar.idx_ hA (x := i64 x) (hxe _ (by omega)) ?_; cbv))
    refine Ar.callI hA c_spec_l1Limb (d_spec_l1Limb hv g1) rfl (fun y hy => ?_)
    cbv
    have hyb := hvl.lg i.toNat
    rw [← hy] at hyb
    repeat' (first
      | (refine Ar.nn_ hA (by omega) ?_; cbv)
      | (refine Ar.toN_ hA (fun _ _ => ?_); cbv)
      | (refine Ar.idx_ hA (x := i64 x) (hxe _ (by omega)) ?_; cbv))
    refine Ar.add_ hA (by omega) (fun t1 ht1 => ?_)
    cbv
    refine Ar.add_ hA (by omega) (fun t ht => ?_)
    cbv
    obtain ⟨s1, s2, s3, s4⟩ := back_step (t := t) g6 hvl g7 hx g3 (by rw [← hy]; omega)
    refine Ar.add_ hA (by omega) (fun k2 hk2 => ?_)
    cbv
    refine Ar.nz_ hA (by omega) ?_
    cbv
    refine Ar.rem_ hA (by omega) (fun d hd => ?_)
    cbv
    repeat' (first
      | (refine Ar.nn_ hA (by omega) ?_; cbv)
      | (refine Ar.toN_ hA (fun _ _ => ?_); cbv)
      | (refine Ar.idx_ hA (x := i64 x) (hxe _ (by omega)) ?_; cbv))
    refine Ar.set_ hA (fun e1 he1 => ?_)
    obtain ⟨_, he1', _⟩ := set_get he1 (i := p.length + i.toNat) (by omega) (by omega)
    clear he1
    cbv
    refine Ar.nz_ hA (by omega) ?_
    cbv
    refine Ar.quo_ hA (by omega) (fun c' hc' => ?_)
    cbv
    refine Ar.add_ hA (by omega) (fun i' hi' => ?_)
    cbv
    rw [← hd] at s1 s2
    rw [← hc'] at s2 s3
    exact ⟨(i', c', e1), by show v.length + 2 - i'.toNat < v.length + 2 - i.toNat; omega, ⟨by show 0 ≤ i'; omega, by show i'.toNat ≤ _; omega, s3, o.set i.toNat d, by show e1 = _; rw [he1', hse], by simp [g5], s1, by show ev _ = ev w + ev (v.take i'.toNat) - pw i'.toNat * c'; rw [show i'.toNat = i.toNat + 1 by omega]; exact s2⟩, rfl, ⟨rfl, rfl, rfl, rfl, rfl, trivial⟩, rfl, trivial⟩
  · cbv
    refine Ar.same_ hA (by omega) ?_
    cbv
    have hi : i.toNat = w.length := by omega
    rw [hi, ev_tk_all (by omega)] at g7
    have hob := g6.bound
    have hwb := hw2.1.bound
    rw [g5] at hob
    rw [hw2.2.1] at hwb
    obtain ⟨z1, z2⟩ := pw_mod (L := -c) (M := -L) hob hwb (by rw [g7, hw2.2.2, Int.mul_neg, Int.mul_neg]; omega)
    have z3 : o = w2 := Lim.inj g6 hw2.1 (by omega) z2
    have z4 : e = us2 := by rw [g4, hu2, z3]
    exact hK _ _ rfl (by rw [z4])

end Go.VAI
