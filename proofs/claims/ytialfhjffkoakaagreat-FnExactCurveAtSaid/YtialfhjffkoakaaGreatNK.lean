/- Division of limbs, of the verifier's side. -/
import Derived.Test.YtialfhjffkoakaaGreatNJ
namespace Go.VAI
open Go.Proofs
set_option maxRecDepth 100000
set_option maxHeartbeats 8000000

theorem div_win {u v : List Int} {j n : Nat} (hu : Lim u) (hv : Lim v) (hvl : v.length = n) (hj : j + n < u.length) (hlt : ev (u.drop (j + 1)) < ev v) :
    ∃ w z, Lim w ∧ Lim z ∧ w.length = n + 1 ∧ u = u.take j ++ (w ++ z) ∧ (u.take j).length = j ∧ ev z = 0 ∧ ev w < ev v * 65536 ∧ ev u = ev (u.take j) + pw j * ev w := by
  refine ⟨(u.drop j).take (n + 1), (u.drop j).drop (n + 1), (hu.drop j).take _, (hu.drop j).drop _, by simp; omega, by rw [List.take_append_drop, List.take_append_drop], by simp; omega, ?_⟩
  have hz : ev ((u.drop j).drop (n + 1)) = 0 := by
    have h1 := ev_split (u.drop (j + 1)) n (by simp; omega)
    have h2 := ((hu.drop (j + 1)).take n).bound
    have h3 := ((hu.drop (j + 1)).drop n).bound
    have h4 := hv.bound
    rw [hvl] at h4
    have e : (u.drop (j + 1)).drop n = (u.drop j).drop (n + 1) := by rw [List.drop_drop, List.drop_drop]; congr 1; omega
    rw [e] at h1 h3
    have h5 : pw n * ev ((u.drop j).drop (n + 1)) < pw n * 1 := by omega
    have := Int.lt_of_mul_lt_mul_left h5 (Int.le_of_lt (pw_pos n))
    omega
  have hw : ev ((u.drop j).take (n + 1)) = ev (u.drop j) := by
    rw [ev_split (u.drop j) (n + 1) (by simp; omega), hz]; omega
  refine ⟨hz, ?_, ?_⟩
  · rw [hw, ev_drop (lg_get (by omega))]
    have := hu.lg j
    omega
  · rw [hw]; exact ev_split u j (by omega)

theorem div_digit {U V G : Int} {k : Nat} (hU : 0 ≤ U) (hVk : 0 < V ∧ V < pw k) (hG : 0 ≤ G ∧ G < 65536) (h1 : U < (G + 1) * V) (h2 : G * V ≤ U + V) :
    (G * V ≤ U ∧ 0 ≤ U - G * V ∧ U - G * V < V) ∨ (U < G * V ∧ 0 < G ∧ 0 ≤ U - (G - 1) * V ∧ U - (G - 1) * V < V ∧ 0 ≤ U - G * V + pw k ∧ U - G * V + pw k < pw k) := by
  obtain ⟨a, b⟩ := kn_quo h2 h1
  rcases Int.lt_or_le U (G * V) with h | h
  · right
    obtain ⟨b1, b2⟩ := b h
    refine ⟨h, ?_, b1, b2, by omega, by omega⟩
    rcases Int.lt_or_le 0 G with h' | h'
    · exact h'
    · obtain rfl : G = 0 := by omega
      omega
  · left
    obtain ⟨a1, a2⟩ := a h
    exact ⟨h, a1, a2⟩

theorem div_next {p w w' z o : List Int} {j : Nat} {V S q v0 : Int} (hp : Lim p) (hpl : p.length = j) (hz : Lim z) (hz0 : ev z = 0) (hw' : Lim w') (hwl : w'.length = w.length) (hq : 0 ≤ q ∧ q < 65536) (he' : ev w' = ev w - q * V) (hlt : ev w' < V) (ho : Lim o) (hov : o[j]? = some v0)
    (he : ev p + pw j * ev w + pw (j + 1) * (V * ev (o.drop (j + 1))) = S) :
    Lim (p ++ (w' ++ z)) ∧ (p ++ (w' ++ z)).length = (p ++ (w ++ z)).length ∧ ev ((p ++ (w' ++ z)).drop j) < V ∧ Lim (o.set j q) ∧ ev (p ++ (w' ++ z)) + pw j * (V * ev ((o.set j q).drop j)) = S := by
  have h1 : j < o.length := (List.getElem?_eq_some_iff.1 hov).1
  have h3 : (o.set j q)[j]? = some q := by rw [List.getElem?_set_self h1]
  have h4 : (o.set j q).drop (j + 1) = o.drop (j + 1) := by rw [List.drop_set]; simp
  refine ⟨Lim.app.2 ⟨hp, Lim.app.2 ⟨hw', hz⟩⟩, by simp [hwl], ?_, ho.set hq, ?_⟩
  · subst hpl
    rw [List.drop_left, ev_app, hz0]; omega
  · rw [ev_app, ev_app, hz0, Int.mul_zero, Int.add_zero, hpl, ev_drop h3, h4, he', ← he]
    simp only [pw]
    grind

theorem div_end {p x y R Q : Int} (hp : 0 < p) (h : R + p * y * Q = p * x) (h0 : 0 ≤ R) (h1 : R < p * y) : x / y = Q ∧ R / p = x % y := by
  obtain ⟨a, b⟩ := div_unique (A := p * x) (q := Q) (B := p * y) (r := R) (by rw [← h, Int.mul_comm Q]; omega) h0 h1
  rw [Int.mul_ediv_mul_of_pos _ _ hp] at a
  rw [Int.mul_emod_mul_of_pos _ _ hp] at b
  refine ⟨a, ?_⟩
  rw [← b, Int.mul_ediv_cancel_left _ (by omega)]

theorem div_init {l m u : List Int} {p : Int} {k : Nat} (hl : Lim l) (hm : Can m) (hne : m ≠ []) (hp : 0 < p) (hu : Lim u) (he : ev u = p * ev l) (hk : l.length = m.length + k) (hul : k + 1 ≤ u.length) : ev (u.drop (k + 1)) < p * ev m := by
  have h1 := ev_split u (k + 1) hul
  have h2 := (hu.take (k + 1)).bound
  have h3 := hl.bound.2
  have h4 := hm.low hne
  have hpos : m.length ≠ 0 := by simpa using hne
  have e : pw l.length = pw (m.length - 1) * pw (k + 1) := by rw [← pw_add]; congr 1; omega
  have h5 : pw (m.length - 1) * pw (k + 1) ≤ ev m * pw (k + 1) := Int.mul_le_mul_of_nonneg_right h4 (Int.le_of_lt (pw_pos _))
  have h6 : p * ev l < p * (ev m * pw (k + 1)) := Int.mul_lt_mul_of_pos_left (by omega) hp
  have h7 : pw (k + 1) * ev (u.drop (k + 1)) < pw (k + 1) * (p * ev m) := by
    have : p * (ev m * pw (k + 1)) = pw (k + 1) * (p * ev m) := by grind
    omega
  exact Int.lt_of_mul_lt_mul_left h7 (Int.le_of_lt (pw_pos _))

theorem norm_len {m : List Int} {vs : List PV} {p b y1 : Int} (hm : Can m) (hne : m ≠ []) (hp : isP p b) (hy : lg m (m.length - 1) = y1) (h : y1 * p < 65536) (hv : Num vs (p * ev m)) : vs.length = m.length := by
  have hpos : m.length ≠ 0 := by simpa using hne
  have hpp := hp.pos
  have h1 : ev m = ev (m.take (m.length - 1)) + pw (m.length - 1) * y1 := by
    have := ev_tk m (m.length - 1)
    rw [ev_tk_all (by omega), hy] at this
    exact this
  have h2 := tk_bound hm.1 (m.length - 1)
  have h3 := pw_pos (m.length - 1)
  have hy1 := hm.1.lg (m.length - 1)
  rw [hy] at hy1
  have h4 : (y1 + 1) * p ≤ 65536 := by
    have hc := hp.cases
    rcases hc with h | h | h | h | h | h | h | h | h | h | h | h | h | h | h | h <;> (subst h; omega)
  have h5 : ev m < pw (m.length - 1) * (y1 + 1) := by rw [Int.mul_add]; omega
  have h6 : p * ev m < p * (pw (m.length - 1) * (y1 + 1)) := Int.mul_lt_mul_of_pos_left h5 (by omega)
  have h7 : p * (pw (m.length - 1) * (y1 + 1)) = pw (m.length - 1) * ((y1 + 1) * p) := by grind
  have h8 : pw (m.length - 1) * ((y1 + 1) * p) ≤ pw (m.length - 1) * 65536 := Int.mul_le_mul_of_nonneg_left h4 (Int.le_of_lt h3)
  have h9 : pw m.length = pw (m.length - 1) * 65536 := by
    obtain ⟨k, hk⟩ : ∃ k, m.length = k + 1 := ⟨m.length - 1, by omega⟩
    rw [hk]; simp only [pw, Nat.add_sub_cancel]; omega
  have ha := hv.len (k := m.length) (by omega)
  have hb := hv.lt
  have hc := hm.low hne
  have hd : 1 * ev m ≤ p * ev m := Int.mul_le_mul_of_nonneg_right hpp.1 (by omega)
  rcases Nat.lt_or_ge vs.length m.length with hh | hh
  · have := pw_le (m := vs.length) (n := m.length - 1) (by omega)
    omega
  · omega

theorem c_spec_l1DivLimbs : Callable Tryz.prog 143 := ⟨_, Tryz.func143, rfl, by kernel_rfl⟩
theorem d_spec_l1DivLimbs {a b q r : List PV} {x y : Int} (ha : Num a x) (hb : Num b y) (hy : 0 < y) (hl : a.length ≤ 100000 ∧ b.length ≤ 100000) (hq : Num q (x / y)) (hr : Num r (x % y)) : Does Tryz.prog 143 [.sl a, .sl b] (.tup [.row q 1 .free, .row r 1 .free]) [] := by
  refine does_of hT hM Tryz.func143 rfl (D := []) (by kernel_rfl) rfl rfl rfl (fun A K hA hK => ?_)
  have hx0 := ha.nonneg
  have hcmp := d_spec_l1Cmp ha hb (by omega)
  have hneg : cmpI x y < 0 ↔ x < y := by unfold cmpI; (repeat' split) <;> omega
  generalize cmpI x y = C at hcmp hneg
  obtain ⟨l, hes, h1, h2⟩ := id ha
  obtain ⟨m, hes', h3, h4⟩ := id hb
  have hlen : a.length = l.length := by simp [hes]
  have hlen' : b.length = m.length := by simp [hes']
  have hne : m ≠ [] := by rintro rfl; simp [ev] at h4; omega
  have hpos : m.length ≠ 0 := by simpa using hne
  cbv
  refine Ar.call_ hA c_spec_l1Cut (d_spec_l1Cut hes h1.1 (by omega) (by rw [h2]; exact ha)) rfl ?_
  cbv
  refine Ar.callI hA c_spec_l1Cmp hcmp rfl (fun c0 hc0 => ?_)
  cbv
  refine Ar.lss_ hA (fun h5 => ?_) (fun h5 => ?_)
  · cbv
    have hxy : x < y := hneg.1 (by omega)
    rw [Int.ediv_eq_zero_of_lt hx0 hxy] at hq
    rw [Int.emod_eq_of_lt hx0 hxy] at hr
    obtain rfl : r = a := hr.inj ha
    obtain rfl : q = [] := hq.zero.2 rfl
    exact hK _ _ rfl rfl
  · cbv
    have hxy : y ≤ x := by have := mt hneg.2 (by omega); omega
    have hll : m.length ≤ l.length := by
      rcases Nat.lt_or_ge l.length m.length with h | h
      · have := h1.lt h3 h; omega
      · exact h
    refine Ar.len_ hA (fun n hn hn' => ?_)
    cbv
    refine Ar.eql_ hA (fun h6 => ?_) (fun h6 => ?_)
    · cbv
      obtain ⟨d, rfl⟩ : ∃ d, m = [d] := by
        match m, (show m.length = 1 by omega) with
        | [d], _ => exact ⟨d, rfl⟩
      rw [ev_one] at h4
      have hd := Lim.one.1 h3.1
      obtain rfl : d = y := h4
      have hb0 : ∀ k, k = 0 → b[k]? = some (i64 d) := fun k hk => by rw [hk, hes']; rfl
      repeat' (first
        | (refine Ar.nn_ hA (by omega) ?_; cbv)
        | (refine Ar.toN_ hA (fun _ _ => ?_); cbv)
        | (refine Ar.idx_ hA (x := i64 d) (hb0 _ (by omega)) ?_; cbv))
      refine Ar.call_ hA c_spec_l1Short (d_spec_l1Short hes h1.1 (by omega) ⟨hy, hd.2⟩ (by rw [h2]; exact hq) (by rw [h2]; exact hr)) rfl ?_
      cbv
      exact hK _ _ rfl rfl
    · cbv
      obtain ⟨y1, hy1⟩ : ∃ t, lg m (m.length - 1) = t := ⟨_, rfl⟩
      have hy1b := h3.1.lg (m.length - 1)
      have hy1p : y1 ≠ 0 := by
        refine h3.2 _ ?_
        rw [List.getLast?_eq_getElem?, ← hy1]
        exact lg_get (by omega)
      have hb1 : ∀ k, k = m.length - 1 → b[k]? = some (i64 y1) := fun k hk => by rw [hk, hes', List.getElem?_map, lg_get (by omega), hy1]; rfl
      rw [hy1] at hy1b
      refine Ar.loop_ hA (α := Int) (fun x => (16 - x).toNat) (fun i => isP (2 ^ i.toNat) i ∧ y1 * 2 ^ i.toNat < 65536) 90 (fun i => [(0, .own 13 none), (1, .pv (.sl b) []), (6, .pv (i64 i) [])]) (fun _ => [(13, some (.row a 1 .free false))]) 0 (by refine ⟨?_, ⟨?_, ?_, ?_, trivial⟩, ?_, trivial⟩ <;> cbv) ⟨⟨by omega, by omega, rfl⟩, by simp; omega⟩ ?_
      rintro i st f ⟨hp, hyp⟩
      obtain ⟨p, hpe⟩ : ∃ p : Int, p = 2 ^ i.toNat := ⟨_, rfl⟩
      rw [← hpe] at hp hyp
      have hpp := hp.pos
      have hi0 := hp.1
      have hi1 := hp.2.1
      have hyp1 : 1 * p ≤ y1 * p := Int.mul_le_mul_of_nonneg_right (by omega) (by omega)
      cbv
      refine Ar.len_ hA (fun n2 hn2 hn2' => ?_)
      cbv
      refine Ar.sub_ hA (by omega) (fun n3 hn3 => ?_)
      cbv
      repeat' (first
        | (refine Ar.nn_ hA (by omega) ?_; cbv)
        | (refine Ar.toN_ hA (fun _ _ => ?_); cbv)
        | (refine Ar.idx_ hA (x := i64 y1) (hb1 _ (by omega)) ?_; cbv))
      refine Ar.convU hA (fun i' hi' => ?_)
      cbv
      have hii : i' = i := by omega
      refine Ar.nn_ hA (by omega) ?_
      cbv
      refine Ar.shl_ hA (b := i') (p := p) (by rw [hii]; exact hpe) (by omega) (by omega) (fun t ht => ?_)
      cbv
      refine Ar.lss_ hA (fun h7 => ?_) (fun h7 => ?_)
      · cbv
        refine Ar.add_ hA (by omega) (fun j hj => ?_)
        cbv
        have e : (2 : Int) ^ j.toNat = p * 2 := by rw [hpe, show j.toNat = i.toNat + 1 by omega, Int.pow_succ]
        have hi14 : i ≤ 14 := by
          rcases Int.lt_or_le i 15 with h | h
          · omega
          · obtain rfl : i = 15 := by omega
            have : p = 32768 := hpe
            omega
        refine ⟨j, by omega, ⟨⟨by omega, by omega, rfl⟩, by rw [e, ← Int.mul_assoc]; omega⟩, rfl, ⟨rfl, rfl, rfl, trivial⟩, rfl, trivial⟩
      · cbv
        have hV : 0 < p * y := Int.mul_pos (by omega) hy
        have hS : 0 ≤ p * x := Int.mul_nonneg (by omega) hx0
        have hX : p * x < pw (l.length + 1) := by
          have := h1.1.bound.2
          have h8 : p * x < p * pw l.length := Int.mul_lt_mul_of_pos_left (by omega) (by omega)
          have h9 : p * pw l.length ≤ 65536 * pw l.length := Int.mul_le_mul_of_nonneg_right (by omega) (Int.le_of_lt (pw_pos _))
          simp only [pw]; omega
        have hY : p * y < pw (m.length + 1) := by
          have := h3.1.bound.2
          have h8 : p * y < p * pw m.length := Int.mul_lt_mul_of_pos_left (by omega) (by omega)
          have h9 : p * pw m.length ≤ 65536 * pw m.length := Int.mul_le_mul_of_nonneg_right (by omega) (Int.le_of_lt (pw_pos _))
          simp only [pw]; omega
        obtain ⟨us, hus⟩ := Pad.ex (k := l.length + 1) ⟨hS, hX⟩
        obtain ⟨vp, hvp⟩ := Pad.ex (k := m.length + 1) ⟨Int.le_of_lt hV, hY⟩
        obtain ⟨vs, hvs⟩ := Num.ex (Int.le_of_lt hV)
        refine Ar.call_ hA c_spec_l1Up (d_spec_l1Up hes h1.1 (by omega) hp (by rw [h2]; exact hus)) rfl ?_
        cbv
        refine Ar.call_ hA c_spec_l1Up (d_spec_l1Up hes' h3.1 (by omega) hp (by rw [h4]; exact hvp)) rfl ?_
        cbv
        obtain ⟨vl, hv1, hv2, hv3, hv4⟩ := hvp
        refine Ar.call_ hA c_spec_l1Cut (d_spec_l1Cut hv1 hv2 (by omega) (by rw [hv4]; exact hvs)) rfl ?_
        cbv
        have hvn := norm_len h3 hne hp hy1 hyp (by rw [h4]; exact hvs)
        obtain ⟨v, hve, hvc, hvv⟩ := id hvs
        have hvl : v.length = m.length := by rw [← hvn, hve]; simp
        obtain ⟨u0, hu1, hu2, hu3, hu4⟩ := id hus
        have hinit := div_init (k := l.length - m.length) h1.1 h3 hne (by omega : 0 < p) hu2 (by rw [hu4, h2]) (by omega) (by omega)
        rw [h4] at hinit
        refine Ar.len_ hA (fun n4 hn4 hn4' => ?_)
        cbv
        refine Ar.len_ hA (fun n5 hn5 hn5' => ?_)
        cbv
        refine Ar.sub_ hA (by omega) (fun n6 hn6 => ?_)
        cbv
        refine Ar.add_ hA (by omega) (fun n7 hn7 => ?_)
        cbv
        refine Ar.nn_ hA (by omega) ?_
        cbv
        refine Ar.toN_ hA (fun zz hzz => ?_)
        cbv
        refine Ar.fits_ hA (by omega) ?_
        cbv
        refine Ar.rep_ hA (fun o0 ho0 => ?_)
        cbv
        refine Ar.len_ hA (fun n8 hn8 hn8' => ?_)
        cbv
        refine Ar.len_ hA (fun n9 hn9 hn9' => ?_)
        cbv
        refine Ar.sub_ hA (by omega) (fun j0 hj0 => ?_)
        cbv
        refine Ar.loop_ hA (α := Int × List PV × List PV) (fun x => (x.1 + 1).toNat) (fun s => -1 ≤ s.1 ∧ s.1 < n7 ∧ ∃ u o : List Int, s.2.1 = u.map i64 ∧ s.2.2 = o.map i64 ∧ u.length = l.length + 1 ∧ Lim u ∧ o.length = zz ∧ Lim o ∧ ev (u.drop (s.1 + 1).toNat) < ev v ∧ ev u + pw (s.1 + 1).toNat * (ev v * ev (o.drop (s.1 + 1).toNat)) = p * x) 90 (fun s => [(0, .own 13 none), (1, .pv (.sl b) []), (6, .pv (i64 i) []), (7, .own 43 none), (8, .own 47 none), (9, .own 54 none), (10, .pv (i64 s.1) [])]) (fun s => [(13, some (.row a 1 .free false)), (43, some (.row s.2.1 1 .free false)), (47, some (.row vs 1 .free false)), (54, some (.row s.2.2 1 .free false))]) (j0, us, o0) (by refine ⟨?_, ⟨?_, ?_, ?_, ?_, ?_, ?_, ?_, trivial⟩, ?_, ?_, ?_, ?_, trivial⟩ <;> cbv) ⟨by show -1 ≤ j0; omega, by show j0 < n7; omega, u0, List.replicate zz 0, hu1, by simp [ho0], hu3, hu2, by simp, Lim.rep _, by show ev (u0.drop (j0 + 1).toNat) < _; rw [show (j0 + 1).toNat = l.length - m.length + 1 by omega, hvv]; exact hinit, by show ev u0 + pw (j0 + 1).toNat * (ev v * ev ((List.replicate zz (0 : Int)).drop (j0 + 1).toNat)) = _; rw [List.drop_of_length_le (by simp; omega), ev_nil, Int.mul_zero, Int.mul_zero, hu4, Int.add_zero]⟩ ?_
        rintro ⟨j, e, eo⟩ st f ⟨g1, g2, u, o, g3, g4, g5, g6, g7, g8, g9, g10⟩
        simp only at g1 g2 g3 g4 g9 g10
        have hel : e.length = u.length := by rw [g3]; simp
        have heo : eo.length = o.length := by rw [g4]; simp
        cbv
        refine Ar.geq_ hA (fun h8 => ?_) (fun h8 => ?_)
        · cbv
          have ej : (j + 1).toNat = j.toNat + 1 := by omega
          rw [ej] at g9 g10
          obtain ⟨w, z, w1, w2, w3, w4, w5, w6, w7, w8⟩ := div_win (j := j.toNat) g6 hvc.1 hvl (by omega) g9
          obtain ⟨pre, hpre⟩ : ∃ pre, pre = u.take j.toNat := ⟨_, rfl⟩
          have hpl : Lim pre := by rw [hpre]; exact g6.take _
          rw [← hpre] at w4 w5 w8
          have hsum : u.length = pre.length + w.length + z.length := by rw [w4]; simp; omega
          rw [w4] at g3
          have k := kn_lists w1 hvc (by rw [w3, hvl]) rfl (by omega) w7
          obtain ⟨i1, i2, i3, i4⟩ := k.init
          obtain ⟨G, hG⟩ : ∃ G, G = gq (lg v (v.length - 1)) (lg v (v.length - 2)) (lg w (v.length - 2)) ((lg w v.length * 65536 + lg w (v.length - 1)) / lg v (v.length - 1)).toNat ((lg w v.length * 65536 + lg w (v.length - 1)) / lg v (v.length - 1)) ((lg w v.length * 65536 + lg w (v.length - 1)) % lg v (v.length - 1)) := ⟨_, rfl⟩
          obtain ⟨G1, G2, G3⟩ := gq_ok k _ _ _ rfl i2.1 i3 i1 i4
          rw [← hG] at G1 G2 G3
          clear k i1 i2 i3 i4
          have hVk : 0 < ev v ∧ ev v < pw w.length := by
            have := hvc.1.bound.2
            have := pw_le (m := v.length) (n := w.length) (by omega)
            omega
          obtain ⟨v0, hv0⟩ : ∃ v0, o[j.toNat]? = some v0 := ⟨o[j.toNat]'(by omega), List.getElem?_eq_getElem _⟩
          have hov : ∀ k, k = j.toNat → eo[k]? = some (i64 v0) := fun k hk => by rw [hk, g4, List.getElem?_map, hv0]; rfl
          have next : ∀ (w' : List Int) (q : Int) (e' eo' : List PV), e' = (pre ++ (w' ++ z)).map i64 → eo' = eo.set j.toNat (i64 q) → Lim w' → w'.length = w.length → (0 ≤ q ∧ q < 65536) → ev w' = ev w - q * ev v → ev w' < ev v → ∀ j' : Int, j' = j - 1 → ∃ u o : List Int, e' = u.map i64 ∧ eo' = o.map i64 ∧ u.length = l.length + 1 ∧ Lim u ∧ o.length = zz ∧ Lim o ∧ ev (u.drop (j' + 1).toNat) < ev v ∧ ev u + pw (j' + 1).toNat * (ev v * ev (o.drop (j' + 1).toNat)) = p * x := by
            intro w' q e' eo' he' heo' a1 a2 a3 a4 a5 j' hj'
            rw [w8] at g10
            obtain ⟨d1, d2, d3, d4, d5⟩ := div_next hpl w5 w2 w6 a1 a2 a3 a4 a5 g8 hv0 g10
            have ej' : (j' + 1).toNat = j.toNat := by omega
            exact ⟨_, _, he', by rw [heo', g4, ← List.map_set], by rw [d2, ← w4]; exact g5, d1, by simp [g7], d4, by rw [ej']; exact d3, by rw [ej']; exact d5⟩
          refine Ar.callI hA c_spec_l1Guess (d_spec_l1Guess g3 hve (j := j) ⟨h8, w5.symm⟩ (by omega) w1 hvc (by omega) (by omega) w7 hG.symm) rfl (fun d hd => ?_)
          cbv
          subst hd
          rcases div_digit w1.bound.1 hVk G1 G2 G3 with ⟨c1, c2, c3⟩ | ⟨c1, c2, c3, c4, c5, c6⟩
          · obtain ⟨w', a1, a2, a3⟩ := pad_ex (k := w.length) (n := ev w - d * ev v) ⟨c2, by omega⟩
            obtain ⟨us2, hus2⟩ : ∃ t, t = (pre ++ (w' ++ z)).map i64 := ⟨_, rfl⟩
            refine Ar.call_ hA c_spec_l1Less (d_spec_l1Less (L := 0) g3 hve (j := j) ⟨h8, w5.symm⟩ (by omega) w1 hvc.1 (by omega) (by omega) ⟨a1, a2, by rw [a3, Int.mul_zero, Int.add_zero]⟩ hus2) rfl ?_
            cbv
            refine Ar.gtr_ hA (fun h => absurd h (by omega)) (fun _ => ?_)
            cbv
            repeat' (first
              | (refine Ar.nn_ hA (by omega) ?_; cbv)
              | (refine Ar.toN_ hA (fun _ _ => ?_); cbv)
              | (refine Ar.idx_ hA (x := i64 v0) (hov _ (by omega)) ?_; cbv))
            refine Ar.set_ hA (fun e1 he1 => ?_)
            obtain ⟨_, he1', _⟩ := set_get he1 (i := j.toNat) (by omega) (by omega)
            clear he1
            cbv
            refine Ar.sub_ hA (by omega) (fun j' hj' => ?_)
            cbv
            exact ⟨(j', us2, e1), by show (j' + 1).toNat < (j + 1).toNat; omega, ⟨by show -1 ≤ j'; omega, by show j' < n7; omega, next w' d us2 e1 hus2 he1' a1 a2 (by omega) a3 (by rw [a3]; omega) j' hj'⟩, rfl, ⟨rfl, rfl, rfl, rfl, rfl, rfl, rfl, trivial⟩, rfl, rfl, rfl, rfl, trivial⟩
          · obtain ⟨w', a1, a2, a3⟩ := pad_ex (k := w.length) (n := ev w - d * ev v + pw w.length) ⟨c5, c6⟩
            obtain ⟨us2, hus2⟩ : ∃ t, t = (pre ++ (w' ++ z)).map i64 := ⟨_, rfl⟩
            refine Ar.call_ hA c_spec_l1Less (d_spec_l1Less (L := 1) g3 hve (j := j) ⟨h8, w5.symm⟩ (by omega) w1 hvc.1 (by omega) (by omega) ⟨a1, a2, by rw [a3, Int.mul_one]⟩ hus2) rfl ?_
            cbv
            refine Ar.gtr_ hA (fun _ => ?_) (fun h => absurd h (by omega))
            cbv
            refine Ar.sub_ hA (by omega) (fun d' hd' => ?_)
            cbv
            rw [← hd'] at c3 c4
            obtain ⟨w3', b1, b2, b3⟩ := pad_ex (k := w.length) (n := ev w - d' * ev v) ⟨c3, by omega⟩
            have hdd : d' * ev v = d * ev v - ev v := by rw [hd', Int.sub_mul, Int.one_mul]
            obtain ⟨us3, hus3⟩ : ∃ t, t = (pre ++ (w3' ++ z)).map i64 := ⟨_, rfl⟩
            refine Ar.call_ hA c_spec_l1Back (d_spec_l1Back (L := 1) hus2 hve (j := j) ⟨h8, w5.symm⟩ (by omega) a1 hvc.1 (by omega) ⟨b1, by omega, by rw [b3, a3, a2, Int.mul_one]; omega⟩ hus3) rfl ?_
            cbv
            repeat' (first
              | (refine Ar.nn_ hA (by omega) ?_; cbv)
              | (refine Ar.toN_ hA (fun _ _ => ?_); cbv)
              | (refine Ar.idx_ hA (x := i64 v0) (hov _ (by omega)) ?_; cbv))
            refine Ar.set_ hA (fun e1 he1 => ?_)
            obtain ⟨_, he1', _⟩ := set_get he1 (i := j.toNat) (by omega) (by omega)
            clear he1
            cbv
            refine Ar.sub_ hA (by omega) (fun j' hj' => ?_)
            cbv
            exact ⟨(j', us3, e1), by show (j' + 1).toNat < (j + 1).toNat; omega, ⟨by show -1 ≤ j'; omega, by show j' < n7; omega, next w3' d' us3 e1 hus3 he1' b1 (by omega) (by omega) b3 (by rw [b3]; omega) j' hj'⟩, rfl, ⟨rfl, rfl, rfl, rfl, rfl, rfl, rfl, trivial⟩, rfl, rfl, rfl, rfl, trivial⟩
        · cbv
          rw [show (j + 1).toNat = 0 by omega] at g9 g10
          simp only [List.drop_zero] at g9 g10
          rw [hvv] at g9 g10
          have g11 : ev u + p * y * ev o = p * x := by simp only [pw] at g10; omega
          obtain ⟨z1, z2⟩ := div_end (p := p) (x := x) (y := y) (by omega) g11 g6.bound.1 g9
          rw [z1] at hq
          rw [← z2] at hr
          refine Ar.call_ hA c_spec_l1Cut (d_spec_l1Cut g4 g8 (by omega) hq) rfl ?_
          cbv
          obtain ⟨cu, hcu⟩ := Num.ex g6.bound.1
          refine Ar.call_ hA c_spec_l1Cut (d_spec_l1Cut g3 g6 (by omega) hcu) rfl ?_
          cbv
          obtain ⟨lu, y2, y3, y4⟩ := id hcu
          have hlu : lu.length ≤ l.length + 1 := by
            have := hcu.len (k := u.length) g6.bound.2
            rw [y2] at this; simp at this; omega
          refine Ar.call_ hA c_spec_l1Down (d_spec_l1Down y2 y3.1 (by omega) hp (by rw [y4]; exact hr)) rfl ?_
          cbv
          exact hK _ _ rfl rfl

end Go.VAI
