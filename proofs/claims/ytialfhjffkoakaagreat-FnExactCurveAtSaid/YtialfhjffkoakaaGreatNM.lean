/- Division of limbs, of the program's side: the main loop. -/
import Derived.Test.YtialfhjffkoakaaGreatNL
namespace Go.VAI
open Go.Proofs
set_option maxRecDepth 100000
set_option maxHeartbeats 8000000

theorem dl_main {A : Ar} (hA : stdA Tryz.prog = A) {σ : St} {K : Ex → St → Prop} {n p n8 j0 S : Int} {N L Z : Nat} {us vs o0 : List PV} {u0 o00 v : List Int} (hn : n.toNat = N ∧ 2 ≤ N ∧ n ≤ 100000) (hL : N ≤ L ∧ L ≤ 100001) (hn8 : n8.toNat + N = L + 1 ∧ 0 ≤ n8) (hZ : Z = L + 1 - N) (hj0 : j0 = n8 - 1)
    (hus : us = u0.map i64) (ho0 : o0 = o00.map i64) (hul : u0.length = L + 1) (hol : o00.length = Z) (hu : Lim u0) (ho : Lim o00) (hv : vs = v.map i64) (hvc : Can v) (hvN : v.length = N) (hlt : ev (u0.drop (j0 + 1).toNat) < ev v) (hS : ev u0 + pw (j0 + 1).toNat * (ev v * ev (o00.drop (j0 + 1).toNat)) = S)
    (hσ : At 260 [(6, .pv (i64 n) []), (9, .pv (i64 p) []), (10, .own 56 none), (11, .own 64 none), (12, .own 79 none), (13, .pv (i64 j0) [])] [(56, some (.row us 1 .free false)), (64, some (.row vs 1 .free false)), (79, some (.row o0 1 .free false))] σ)
    (hK : ∀ (e eo : List PV) (u o : List Int) (j : Int) (σ' : St), e = u.map i64 → eo = o.map i64 → u.length = L + 1 → Lim u → o.length = Z → Lim o → ev u < ev v → ev u + ev v * ev o = S → At 260 [(6, .pv (i64 n) []), (9, .pv (i64 p) []), (10, .own 56 none), (11, .own 64 none), (12, .own 79 none), (13, .pv (i64 j) [])] [(56, some (.row e 1 .free false)), (64, some (.row vs 1 .free false)), (79, some (.row eo 1 .free false))] σ' → K (.exit 2) σ') :
    A.loop (fun σ' k => awp A [] (lp Tryz.f148 1) k σ') σ K := by
  refine Ar.loop_ hA (α := Int × List PV × List PV) (fun x => (x.1 + 1).toNat) (fun s => -1 ≤ s.1 ∧ s.1 < n8 ∧ ∃ u o : List Int, s.2.1 = u.map i64 ∧ s.2.2 = o.map i64 ∧ u.length = L + 1 ∧ Lim u ∧ o.length = Z ∧ Lim o ∧ ev (u.drop (s.1 + 1).toNat) < ev v ∧ ev u + pw (s.1 + 1).toNat * (ev v * ev (o.drop (s.1 + 1).toNat)) = S) 260 (fun s => [(6, .pv (i64 n) []), (9, .pv (i64 p) []), (10, .own 56 none), (11, .own 64 none), (12, .own 79 none), (13, .pv (i64 s.1) [])]) (fun s => [(56, some (.row s.2.1 1 .free false)), (64, some (.row vs 1 .free false)), (79, some (.row s.2.2 1 .free false))]) (j0, us, o0) hσ ⟨by show -1 ≤ j0; omega, by show j0 < n8; omega, u0, o00, hus, ho0, hul, hu, hol, ho, hlt, hS⟩ ?_
  clear hσ hus ho0 hul hol hu ho hlt hS hj0 us o0 u0 o00
  rintro ⟨j, e, eo⟩ st f ⟨g1, g2, u, o, g3, g4, g5, g6, g7, g8, g9, g10⟩
  simp only at g1 g2 g3 g4 g9 g10
  have hel : e.length = u.length := by rw [g3]; simp
  have heo : eo.length = o.length := by rw [g4]; simp
  cbv
  refine Ar.geq_ hA (fun h8 => ?_) (fun h8 => ?_)
  · have ej : (j + 1).toNat = j.toNat + 1 := by omega
    rw [ej] at g9 g10
    obtain ⟨w, z, w1, w2, w3, w4, w5, w6, w7, w8⟩ := div_win (j := j.toNat) g6 hvc.1 rfl (by omega) g9
    obtain ⟨pre, hpre⟩ : ∃ pre, pre = u.take j.toNat := ⟨_, rfl⟩
    have hpl : Lim pre := by rw [hpre]; exact g6.take _
    rw [← hpre] at w4 w5 w8
    have hsum : u.length = pre.length + w.length + z.length := by rw [w4]; simp; omega
    rw [w4] at g3
    have k := kn_lists w1 hvc (by rw [w3]) rfl (by omega) w7
    have hVk : 0 < ev v ∧ ev v < pw v.length := by
      have := hvc.1.bound.2
      have := (g6.drop (j.toNat + 1)).bound.1
      omega
    have hoj : j.toNat < eo.length := by omega
    obtain ⟨v0, hv0⟩ : ∃ v0, o[j.toNat]? = some v0 := ⟨o[j.toNat]'(by omega), List.getElem?_eq_getElem _⟩
    have hov : ∀ k, k = j.toNat → eo[k]? = some (i64 v0) := fun k hk => by rw [hk, g4, List.getElem?_map, hv0]; rfl
    have next : ∀ (w' : List Int) (q : Int) (e' eo' : List PV), e' = (pre ++ (w' ++ z)).map i64 → eo' = eo.set j.toNat (i64 q) → Lim w' → w'.length = w.length → (0 ≤ q ∧ q < 65536) → ev w' = ev w - q * ev v → ev w' < ev v → ∀ j' : Int, j' = j - 1 → ∃ u o : List Int, e' = u.map i64 ∧ eo' = o.map i64 ∧ u.length = L + 1 ∧ Lim u ∧ o.length = Z ∧ Lim o ∧ ev (u.drop (j' + 1).toNat) < ev v ∧ ev u + pw (j' + 1).toNat * (ev v * ev (o.drop (j' + 1).toNat)) = S := by
      intro w' q e' eo' he' heo' a1 a2 a3 a4 a5 j' hj'
      rw [w8] at g10
      obtain ⟨d1, d2, d3, d4, d5⟩ := div_next hpl w5 w2 w6 a1 a2 a3 a4 a5 g8 hv0 g10
      have ej' : (j' + 1).toNat = j.toNat := by omega
      exact ⟨_, _, he', by rw [heo', g4, ← List.map_set], by rw [d2, ← w4]; exact g5, d1, by simp [g7], d4, by rw [ej']; exact d3, by rw [ej']; exact d5⟩
    clear g10 g9 hpre w4 w8
    rw [hvN] at w3 k hVk
    have gu : ∀ i x, i ≤ N → lg w i = x → ∀ q, q = j.toNat + i → e[q]? = some (i64 x) := fun i x hi hx q hq => by
      rw [g3, List.getElem?_map, hq, ← w5, win_get (by omega), lg_get (by omega), hx]; rfl
    have gv : ∀ i x, i < N → lg v i = x → ∀ q, q = i → vs[q]? = some (i64 x) := fun i x hi hx q hq => by
      rw [hv, List.getElem?_map, hq, lg_get (by omega), hx]; rfl
    obtain ⟨x0, hx0'⟩ : ∃ x, lg w N = x := ⟨_, rfl⟩
    obtain ⟨x1, hx1'⟩ : ∃ x, lg w (N - 1) = x := ⟨_, rfl⟩
    obtain ⟨x2, hx2'⟩ : ∃ x, lg w (N - 2) = x := ⟨_, rfl⟩
    obtain ⟨z1, hz1⟩ : ∃ x, lg v (N - 1) = x := ⟨_, rfl⟩
    obtain ⟨z2, hz2⟩ : ∃ x, lg v (N - 2) = x := ⟨_, rfl⟩
    have g0' := gu N x0 (by omega) hx0'
    have g1' := gu (N - 1) x1 (by omega) hx1'
    have g2' := gu (N - 2) x2 (by omega) hx2'
    have f1 := gv (N - 1) z1 (by omega) hz1
    have f2 := gv (N - 2) z2 (by omega) hz2
    have b0 := w1.lg N
    have b1 := w1.lg (N - 1)
    rw [hx0'] at b0
    rw [hx1'] at b1
    rw [hx0', hx1', hx2', hz1, hz2] at k
    clear gu gv hx0' hx1' hx2' hz1 hz2
    obtain ⟨k1, k2, k3, k4⟩ := k.init
    have hy1b := k.hv1
    obtain ⟨t, ht⟩ : ∃ t, t = x0 * 65536 + x1 := ⟨_, rfl⟩
    rw [← ht] at k k1 k2 k3 k4
    have htb := k.ht
    have hjb : 0 ≤ j ∧ j ≤ 100001 := by omega
    have hnN := hn.1
    have hjl : j.toNat = pre.length := w5.symm
    clear g1 g5 g7 ej hv0 w6 w7
    cbv
    repeat' (first
      | (refine Ar.add_ hA (by omega) (fun tq htq => (fun (etq : t = tq) => ?_) (by omega)); subst etq; cbv)
      | (refine Ar.add_ hA (by omega) (fun _ _ => ?_); cbv)
      | (refine Ar.sub_ hA (by omega) (fun _ _ => ?_); cbv)
      | (refine Ar.nn_ hA (by omega) ?_; cbv)
      | (refine Ar.toN_ hA (fun _ _ => ?_); cbv)
      | (refine Ar.idx_ hA (x := i64 x0) (g0' _ (by omega)) ?_; cbv)
      | (refine Ar.idx_ hA (x := i64 x1) (g1' _ (by omega)) ?_; cbv)
      | (refine Ar.idx_ hA (x := i64 z1) (f1 _ (by omega)) ?_; cbv)
      | (refine Ar.mul_ hA (by omega) (fun _ _ => ?_); cbv)
      | (refine Ar.nz_ hA (by omega) ?_; cbv))
    refine Ar.quo_ hA (by omega) (fun q0 hq0 => ?_)
    cbv
    repeat' (first
      | (refine Ar.sub_ hA (by omega) (fun _ _ => ?_); cbv)
      | (refine Ar.nn_ hA (by omega) ?_; cbv)
      | (refine Ar.toN_ hA (fun _ _ => ?_); cbv)
      | (refine Ar.idx_ hA (x := i64 z1) (f1 _ (by omega)) ?_; cbv)
      | (refine Ar.nz_ hA (by omega) ?_; cbv))
    refine Ar.rem_ hA (by omega) (fun r0 hr0 => ?_)
    cbv
    rw [← hq0] at k1 k2 k4
    rw [← hr0] at k1 k3
    refine dl_guess hA (n := n) (p := p) (j := j) (e := e) (eo := eo) (vs := vs) k hn hjb f1 f2 g2' k2.1 k3 k1 k4 (by refine ⟨?_, ⟨?_, ?_, ?_, ?_, ?_, ?_, ?_, ?_, trivial⟩, ?_, ?_, ?_, trivial⟩ <;> cbv) (fun d σ1 G1 G2 G3 hat => ?_)
    clear k k1 k2 k3 k4 g0' g1' g2' f1 f2 b0 b1 hy1b htb ht hq0 hr0
    rw [hat.eq]
    clear hat
    generalize σ1.slots = st1
    generalize σ1.files = fi1
    cbv
    refine dl_off hA (n := n) (p := p) (j := j) (d := d) (e := e) (eo := eo) (vs := vs) (pre := pre) (w := w) (z := z) (v := v) ⟨hnN, by omega, by omega⟩ ⟨hjb.1, hjb.2, hjl⟩ g3 hv w1 hvc.1 w3 hvN G1 (by refine ⟨?_, ⟨?_, ?_, ?_, ?_, ?_, ?_, ?_, ?_, ?_, ?_, trivial⟩, ?_, ?_, ?_, trivial⟩ <;> cbv) (fun c e1 ow σ2 s3 s4 s5 s6 s7 hat => ?_)
    clear g3 hel
    have hel : e1.length = pre.length + ow.length + z.length := by rw [s4]; simp; omega
    obtain ⟨top, htop⟩ : ∃ x, ow[N]? = some x := ⟨ow[N]'(by omega), List.getElem?_eq_getElem _⟩
    have htb := s6.get htop
    have hte : ∀ k, k = pre.length + N → e1[k]? = some (i64 top) := fun k hk => by rw [s4, List.getElem?_map, hk, win_get (by omega), htop]; rfl
    have hse : ∀ d, e1.set (pre.length + N) (i64 d) = (pre ++ (ow.set N d ++ z)).map i64 := fun d => by rw [s4, ← List.map_set, win_set (by omega)]
    have hval : ∀ d', d' = top - c → ev (ow.set N d') = ev w - d * ev v := fun d' hd' => by
      rw [ev_set htop, s7, show d' - top = -c by omega, Int.mul_neg]; omega
    clear s7 htop
    rw [hat.eq]
    clear hat
    generalize σ2.slots = st2
    generalize σ2.files = fi2
    cbv
    refine Ar.add_ hA (by omega) (fun k hk => ?_)
    cbv
    repeat' (first
      | (refine Ar.nn_ hA (by omega) ?_; cbv)
      | (refine Ar.toN_ hA (fun _ _ => ?_); cbv)
      | (refine Ar.idx_ hA (x := i64 top) (hte _ (by omega)) ?_; cbv))
    refine Ar.sub_ hA (by omega) (fun tx htx => ?_)
    cbv
    repeat' (first
      | (refine Ar.nn_ hA (by omega) ?_; cbv)
      | (refine Ar.toN_ hA (fun _ _ => ?_); cbv)
      | (refine Ar.idx_ hA (x := i64 top) (hte _ (by omega)) ?_; cbv))
    refine Ar.set_ hA (fun e2 he2 => ?_)
    obtain ⟨hx1, he2', hel1⟩ := set_get he2 (i := pre.length + N) (by omega) (by omega)
    rw [hse] at he2'
    clear he2 hse hte
    have hv' := hval tx htx
    clear hval
    cbv
    refine Ar.add_ hA (by omega) (fun k2 hk2 => ?_)
    cbv
    repeat' (first
      | (refine Ar.nn_ hA (by omega) ?_; cbv)
      | (refine Ar.toN_ hA (fun _ _ => ?_); cbv)
      | (refine Ar.idx_ hA (x := i64 tx) (hx1 _ (by omega)) ?_; cbv))
    refine Ar.lss_ hA (fun h0 => ?_) (fun h0 => ?_)
    · as_aux_lemma =>
        have hset : ow.set N tx = ow.take N ++ [tx] := by
          rw [List.set_eq_take_append_cons_drop, if_pos (by omega), List.drop_of_length_le (by omega)]
        have hy0l : (ow.take N).length = N := by simp; omega
        have hy0 : Lim (ow.take N) := s6.take N
        rw [hset, ev_push, hy0l] at hv'
        rw [hset] at he2'
        obtain ⟨y0, hy0e⟩ : ∃ y0, y0 = ow.take N := ⟨_, rfl⟩
        rw [← hy0e] at hy0 hy0l hv' he2'
        have hUlt : ev w < d * ev v := by
          have := hy0.bound
          rw [hy0l] at this
          have h1 : pw N * tx ≤ pw N * (-1) := Int.mul_le_mul_of_nonneg_left (by omega) (Int.le_of_lt (pw_pos N))
          omega
        obtain ⟨K3, K4⟩ := (kn_quo G3 G2).2 hUlt
        have hdpos : 0 < d := by
          rcases Int.lt_or_le 0 d with h | h
          · exact h
          · obtain rfl : d = 0 := by omega
            have := w1.bound
            omega
        clear hset hx1 G2 G3 hy0e
        cbv
        refine Ar.sub_ hA (by omega) (fun d' hd' => ?_)
        rw [← hd'] at K3 K4
        cbv
        refine dl_back hA (n := n) (p := p) (j := j) (d' := d') (tx := tx) (e := e2) (eo := eo) (vs := vs) (pre := pre) (y0 := y0) (z := z) (v := v) ⟨hnN, by omega, by omega⟩ ⟨hjb.1, hjb.2, hjl⟩ he2' hv hy0 hvc.1 hy0l hvN (by refine ⟨?_, ⟨?_, ?_, ?_, ?_, ?_, ?_, ?_, ?_, ?_, ?_, trivial⟩, ?_, ?_, ?_, trivial⟩ <;> cbv) (fun cc e3 y σ3 t3 t4 t5 t6 t7 hat => ?_)
        have hel3 : e3.length = pre.length + (N + 1) + z.length := by rw [t4]; simp; omega
        have hyb := t6.bound
        rw [t5] at hyb
        have hdd : d' * ev v = d * ev v - ev v := by rw [hd', Int.sub_mul, Int.one_mul]
        obtain ⟨q1, q2⟩ := pw_mod (k := N) (L := -(tx + cc)) (M := 0) hyb ⟨K3, by omega⟩ (by rw [Int.mul_neg, Int.mul_zero, Int.mul_add]; omega)
        have hte : ∀ k, k = pre.length + N → e3[k]? = some (i64 tx) := fun k hk => by rw [t4, List.getElem?_map, hk, win_get (by simp; omega), List.getElem?_append_right (by omega), show N - y.length = 0 by omega]; rfl
        have hse : ∀ d, e3.set (pre.length + N) (i64 d) = (pre ++ ((y ++ [d]) ++ z)).map i64 := fun d => by
          rw [t4, ← List.map_set, win_set (by simp; omega), List.set_append_right _ _ (by omega), show N - y.length = 0 by omega]; rfl
        clear t4 t7 hyb
        rw [hat.eq]
        clear hat
        generalize σ3.slots = st3
        generalize σ3.files = fi3
        cbv
        refine Ar.add_ hA (by omega) (fun k hk => ?_)
        cbv
        repeat' (first
          | (refine Ar.nn_ hA (by omega) ?_; cbv)
          | (refine Ar.toN_ hA (fun _ _ => ?_); cbv)
          | (refine Ar.idx_ hA (x := i64 tx) (hte _ (by omega)) ?_; cbv))
        refine Ar.add_ hA (by omega) (fun tz htz => ?_)
        cbv
        repeat' (first
          | (refine Ar.nn_ hA (by omega) ?_; cbv)
          | (refine Ar.toN_ hA (fun _ _ => ?_); cbv)
          | (refine Ar.idx_ hA (x := i64 tx) (hte _ (by omega)) ?_; cbv))
        refine Ar.set_ hA (fun e4 he4 => ?_)
        obtain ⟨_, he4', _⟩ := set_get he4 (i := pre.length + N) (by omega) (by omega)
        rw [hse] at he4'
        clear he4 hse hte
        have htz0 : tz = 0 := by omega
        have hwv : ev (y ++ [tz]) = ev w - d' * ev v := by rw [ev_push, htz0, q2]; omega
        cbv
        repeat' (first
          | (refine Ar.nn_ hA (by omega) ?_; cbv)
          | (refine Ar.toN_ hA (fun _ _ => ?_); cbv)
          | (refine Ar.idx_ hA (x := i64 v0) (hov _ (by omega)) ?_; cbv))
        refine Ar.set_ hA (fun eo1 heo1 => ?_)
        obtain ⟨_, heo1', _⟩ := set_get heo1 (i := j.toNat) (by omega) (by omega)
        clear heo1
        cbv
        refine Ar.sub_ hA (by omega) (fun j' hj' => ?_)
        cbv
        exact ⟨(j', e4, eo1), by show (j' + 1).toNat < (j + 1).toNat; omega, ⟨by show -1 ≤ j'; omega, by show j' < n8; omega, next (y ++ [tz]) d' e4 eo1 he4' heo1' (Lim.app.2 ⟨t6, Lim.one.2 (by omega)⟩) (by simp; omega) (by omega) hwv (by rw [hwv]; exact K4) j' hj'⟩, rfl, ⟨rfl, rfl, rfl, rfl, rfl, rfl, trivial⟩, rfl, rfl, rfl, trivial⟩
    · as_aux_lemma =>
        have hlw : Lim (ow.set N tx) := s6.set (by omega)
        have hb := hlw.bound
        obtain ⟨K3, K4⟩ := (kn_quo G3 G2).1 (by omega)
        cbv
        repeat' (first
          | (refine Ar.nn_ hA (by omega) ?_; cbv)
          | (refine Ar.toN_ hA (fun _ _ => ?_); cbv)
          | (refine Ar.idx_ hA (x := i64 v0) (hov _ (by omega)) ?_; cbv))
        refine Ar.set_ hA (fun eo1 heo1 => ?_)
        obtain ⟨_, heo1', _⟩ := set_get heo1 (i := j.toNat) (by omega) (by omega)
        clear heo1
        cbv
        refine Ar.sub_ hA (by omega) (fun j' hj' => ?_)
        cbv
        exact ⟨(j', e2, eo1), by show (j' + 1).toNat < (j + 1).toNat; omega, ⟨by show -1 ≤ j'; omega, by show j' < n8; omega, next (ow.set N tx) d e2 eo1 he2' heo1' hlw (by simp [s5, w3]) G1 hv' (by rw [hv']; exact K4) j' hj'⟩, rfl, ⟨rfl, rfl, rfl, rfl, rfl, rfl, trivial⟩, rfl, rfl, rfl, trivial⟩
  · cbv
    rw [show (j + 1).toNat = 0 by omega] at g9 g10
    simp only [List.drop_zero] at g9 g10
    exact hK e eo u o j _ g3 g4 g5 g6 g7 g8 g9 (by simp only [pw] at g10; omega) (by refine ⟨?_, ⟨?_, ?_, ?_, ?_, ?_, ?_, trivial⟩, ?_, ?_, ?_, trivial⟩ <;> rfl)

end Go.VAI
