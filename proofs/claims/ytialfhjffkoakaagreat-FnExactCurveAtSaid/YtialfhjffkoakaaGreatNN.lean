/- Division of limbs, of the program's side: the whole. -/
import Derived.Test.YtialfhjffkoakaaGreatNM
namespace Go.VAI
open Go.Proofs
set_option maxRecDepth 100000
set_option maxHeartbeats 8000000

theorem c_impl_divLimbs : Callable Tryz.prog 148 := ⟨_, Tryz.func148, rfl, by kernel_rfl⟩
theorem d_impl_divLimbs {a b q r : List PV} {x y : Int} (ha : Num a x) (hb : Num b y) (hy : 0 < y) (hl : a.length ≤ 100000 ∧ b.length ≤ 100000) (hq : Num q (x / y)) (hr : Num r (x % y)) : Does Tryz.prog 148 [.sl a, .sl b] (divRS x y a b q r) [] := by
  refine does_of hT hM Tryz.func148 rfl (D := []) (by kernel_rfl) rfl rfl rfl (fun A K hA hK => ?_)
  have hx0 := ha.nonneg
  have hcmp := d_impl_compareLimbs ha hb (by omega)
  have hneg : cmpI x y < 0 ↔ x < y := by unfold cmpI; (repeat' split) <;> omega
  generalize cmpI x y = C at hcmp hneg
  obtain ⟨l, hes, h1, h2⟩ := id ha
  obtain ⟨m, hes', h3, h4⟩ := id hb
  have hlen : a.length = l.length := by simp [hes]
  have hlen' : b.length = m.length := by simp [hes']
  have hne : m ≠ [] := by rintro rfl; simp [ev] at h4; omega
  have hpos : m.length ≠ 0 := by simpa using hne
  unfold divRS at hK
  cbv
  refine Ar.len_ hA (fun n hn hn' => ?_)
  cbv
  refine Ar.callI hA c_impl_compareLimbs hcmp rfl (fun c0 hc0 => ?_)
  cbv
  refine Ar.lss_ hA (fun h5 => ?_) (fun h5 => ?_)
  · cbv
    have hxy : x < y := hneg.1 (by omega)
    rw [if_pos hxy] at hK
    exact hK _ _ rfl rfl
  · have hxy : y ≤ x := by have := mt hneg.2 (by omega); omega
    rw [if_neg (by omega)] at hK
    have hll : m.length ≤ l.length := by
      rcases Nat.lt_or_ge l.length m.length with h | h
      · have := h1.lt h3 h; omega
      · exact h
    cbv
    refine Ar.eql_ hA (fun h6 => ?_) (fun h6 => ?_)
    · obtain ⟨d, rfl⟩ : ∃ d, m = [d] := by
        match m, (show m.length = 1 by omega) with
        | [d], _ => exact ⟨d, rfl⟩
      rw [ev_one] at h4
      have hd := Lim.one.1 h3.1
      obtain rfl : d = y := h4
      have hb0 : ∀ k, k = 0 → b[k]? = some (i64 d) := fun k hk => by rw [hk, hes']; rfl
      obtain ⟨rest, hrest⟩ : ∃ rest, rest = x % d := ⟨_, rfl⟩
      have dS := d_impl_divSmall hes h1.1 (by omega) ⟨hy, hd.2⟩ (by rw [h2]; exact hq) (show rest = ev l % d by rw [h2]; exact hrest)
      have hrb : 0 ≤ rest ∧ rest < d := by rw [hrest]; exact ⟨Int.emod_nonneg _ (by omega), Int.emod_lt_of_pos _ (by omega)⟩
      rw [← hrest] at hr
      cbv
      repeat' (first
        | (refine Ar.nn_ hA (by omega) ?_; cbv)
        | (refine Ar.toN_ hA (fun _ _ => ?_); cbv)
        | (refine Ar.idx_ hA (x := i64 d) (hb0 _ (by omega)) ?_; cbv))
      refine Ar.call_ hA c_impl_divSmall dS rfl ?_
      cbv
      obtain ⟨e2, he2⟩ : ∃ e2, e2 = [i64 rest] := ⟨_, rfl⟩
      refine Ar.call_ hA c_impl_cut (d_impl_cut (l := [rest]) he2 (Lim.one.2 (by omega)) (by simp) (by rw [ev_one]; exact hr)) (by rw [he2]) ?_
      cbv
      exact hK _ _ rfl rfl
    · obtain ⟨y1, hy1⟩ : ∃ t, lg m (m.length - 1) = t := ⟨_, rfl⟩
      have hy1b := h3.1.lg (m.length - 1)
      have hy1p : y1 ≠ 0 := by
        refine h3.2 _ ?_
        rw [List.getLast?_eq_getElem?, ← hy1]
        exact lg_get (by omega)
      have hb1 : ∀ k, k = m.length - 1 → b[k]? = some (i64 y1) := fun k hk => by rw [hk, hes', List.getElem?_map, lg_get (by omega), hy1]; rfl
      rw [hy1] at hy1b
      cbv
      refine Ar.sub_ hA (by omega) (fun n3 hn3 => ?_)
      cbv
      repeat' (first
        | (refine Ar.nn_ hA (by omega) ?_; cbv)
        | (refine Ar.toN_ hA (fun _ _ => ?_); cbv)
        | (refine Ar.idx_ hA (x := i64 y1) (hb1 _ (by omega)) ?_; cbv))
      refine Ar.add_ hA (by omega) (fun t1 ht1 => ?_)
      cbv
      refine Ar.nz_ hA (by omega) ?_
      cbv
      refine Ar.quo_ hA (by omega) (fun p hp => ?_)
      rw [ht1] at hp
      obtain ⟨hpp, hyp⟩ := by_ok ⟨by omega, hy1b.2⟩ hp
      clear hp
      have hV : 0 < p * y := Int.mul_pos (by omega) hy
      have hS : 0 ≤ p * x := Int.mul_nonneg (by omega) hx0
      obtain ⟨c, hc⟩ := Num.ex hS
      obtain ⟨vs, hvs⟩ := Num.ex (Int.le_of_lt hV)
      obtain ⟨cp, hcp⟩ := Num.ex (show 0 ≤ p by omega)
      have hbp := big_pos hcp
      have hcpl : cp.length ≤ 1 := hcp.len (by simp only [pw]; omega)
      have dA := bigOf_num (g := false) (s := false) ha (by omega) rfl
      have dB := bigOf_num (g := false) (s := false) hb (by omega) rfl
      have dP := d_impl_BigOf (n := p) (by omega) hbp
      have dMA := d_impl_Big_mul (big_pos ha) hbp (by omega) (by rw [Int.mul_comm]; exact big_pos hc)
      have dMB := d_impl_Big_mul (big_pos hb) hbp (by omega) (by rw [Int.mul_comm]; exact big_pos hvs)
      have hcl : c.length ≤ l.length + 1 := by
        have := hcp.len_mul ha hc; omega
      have hcl2 : l.length ≤ c.length := by
        have := hc.len_le ha (by have := Int.mul_le_mul_of_nonneg_right hpp.1 hx0; omega)
        omega
      have hvn := norm_len' h3 hne hpp.1 hy1 hyp (by rw [h4]; exact hvs)
      obtain ⟨cl, hc1, hc2, hc3⟩ := id hc
      obtain ⟨v, hve, hvc, hvv⟩ := id hvs
      have hccl : c.length = cl.length := by simp [hc1]
      have hvl : v.length = m.length := by rw [← hvn, hve]; simp
      have hu2 : Lim (cl ++ [0]) := Lim.app.2 ⟨hc2.1, Lim.one.2 (by omega)⟩
      have hu4 : ev (cl ++ [0]) = p * x := by rw [ev_push]; omega
      have hinit : ev ((cl ++ [0]).drop (cl.length + 1 - m.length)) < p * y := by
        have := div_init (k := l.length - m.length) h1.1 h3 hne (by omega : 0 < p) hu2 (by rw [hu4, h2]) (by omega) (by simp; omega)
        rw [h4] at this
        rcases (show cl.length + 1 - m.length = l.length - m.length + 1 ∨ cl.length + 1 - m.length = l.length - m.length + 1 + 1 by omega) with h | h
        · rw [h]; exact this
        · rw [h]; have := drop_mono hu2 (l.length - m.length + 1); omega
      cbv
      refine Ar.call_ hA c_impl_bigOf dA rfl ?_
      cbv
      refine Ar.call_ hA c_impl_BigOf dP rfl ?_
      cbv
      refine Ar.call_ hA c_impl_Big_mul dMA rfl ?_
      cbv
      refine Ar.app_ hA (fun us hus => ?_)
      cbv
      have husl : us.length = cl.length + 1 := by rw [hus]; simp; omega
      have husm : us = (cl ++ [0]).map i64 := by rw [hus, hc1]; simp
      clear hus
      refine Ar.fitsL_ hA (by omega) ?_
      cbv
      refine Ar.call_ hA c_impl_bigOf dB rfl ?_
      cbv
      refine Ar.call_ hA c_impl_BigOf dP rfl ?_
      cbv
      refine Ar.call_ hA c_impl_Big_mul dMB rfl ?_
      cbv
      refine Ar.loop_ hA (α := Unit) (fun _ => 0) (fun _ => True) 260 (fun _ => [(0, .pv (.sl a) []), (6, .pv (i64 n) []), (9, .pv (i64 p) []), (10, .own 56 none), (11, .own 64 none)]) (fun _ => [(56, some (.row us 1 .free false)), (64, some (.row vs 1 .free false))]) () (by refine ⟨?_, ⟨?_, ?_, ?_, ?_, ?_, trivial⟩, ?_, ?_, trivial⟩ <;> cbv) trivial ?_
      intro _ st f _
      cbv
      refine Ar.len_ hA (fun n4 hn4 hn4' => ?_)
      cbv
      refine Ar.len_ hA (fun n5 hn5 hn5' => ?_)
      cbv
      refine Ar.add_ hA (by omega) (fun n6 hn6 => ?_)
      cbv
      refine Ar.lss_ hA (fun h => absurd h (by omega)) (fun _ => ?_)
      cbv
      refine Ar.len_ hA (fun n7 hn7 hn7' => ?_)
      cbv
      refine Ar.sub_ hA (by omega) (fun n8 hn8 => ?_)
      cbv
      refine Ar.nn_ hA (by omega) ?_
      cbv
      refine Ar.toN_ hA (fun zz hzz1 => ?_)
      cbv
      refine Ar.fits_ hA (by omega) ?_
      cbv
      refine Ar.rep_ hA (fun o0 ho0 => ?_)
      cbv
      refine Ar.len_ hA (fun n9 hn9 hn9' => ?_)
      cbv
      refine Ar.sub_ hA (by omega) (fun j1 hj1 => ?_)
      cbv
      refine Ar.sub_ hA (by omega) (fun j0 hj0 => ?_)
      cbv
      have hzz : zz = cl.length + 1 - v.length := by omega
      have hnv : n.toNat = v.length := by omega
      have hv2 : 2 ≤ v.length ∧ v.length ≤ 100000 := by omega
      have hclb : v.length ≤ cl.length ∧ cl.length ≤ 100001 := by omega
      have hn8' : n8.toNat + v.length = cl.length + 1 ∧ 0 ≤ n8 := by omega
      have hj0' : j0 = n8 - 1 := by omega
      rw [← hvl] at hinit
      clear hcmp hneg hes hes' h1 h2 h3 h4 hlen hlen' hne hpos hc0 h5 hxy hll h6 hy1 hy1b hy1p hb1 hn3 ht1 hyp hc hvs hcp hbp hcpl dA dB dP dMA dMB hcl hcl2 hvn hc1 hc2 hc3 hccl husl hn4 hn4' hn5 hn5' hn6 hn7 hn7' hn8 hzz1 hn9 hn9' hj1 hj0 ha hb hl hn'
      refine dl_main hA (n := n) (p := p) (n8 := n8) (j0 := j0) (S := p * x) (N := v.length) (L := cl.length) (Z := zz) (us := us) (vs := vs) (o0 := o0) (u0 := cl ++ [0]) (o00 := List.replicate zz 0) (v := v) ⟨hnv, hv2.1, by omega⟩ ⟨hclb.1, hclb.2⟩ hn8' hzz hj0' husm (by rw [ho0]; simp) (by simp) (by simp) hu2 (Lim.rep _) hve hvc rfl (by rw [show (j0 + 1).toNat = cl.length + 1 - v.length by omega, hvv]; exact hinit) (by rw [List.drop_of_length_le (by simp; omega), ev_nil, Int.mul_zero, Int.mul_zero, hu4, Int.add_zero]) (by refine ⟨?_, ⟨?_, ?_, ?_, ?_, ?_, ?_, trivial⟩, ?_, ?_, ?_, trivial⟩ <;> cbv) (fun e eo u o j σ1 g3 g4 g5 g6 g7 g8 g9 g10 hat => ?_)
      rw [hat.eq]
      clear hat hinit
      generalize σ1.slots = st1
      generalize σ1.files = fi1
      have hel : e.length = u.length := by rw [g3]; simp
      rw [hvv] at g9 g10
      have g11 : ev u + p * y * ev o = p * x := g10
      obtain ⟨z1, z2⟩ := div_end (p := p) (x := x) (y := y) (by omega) g11 g6.bound.1 g9
      rw [z1] at hq
      rw [← z2] at hr
      have hut : ev (u.take v.length) = ev u := by
        have a1 := ev_split u v.length (by omega)
        have a2 := (g6.take v.length).bound
        have a3 := (g6.drop v.length).bound
        have a4 := hvc.1.bound.2
        have a5 : pw v.length * ev (u.drop v.length) < pw v.length * 1 := by omega
        have := Int.lt_of_mul_lt_mul_left a5 (Int.le_of_lt (pw_pos _))
        rw [show ev (u.drop v.length) = 0 by omega] at a1
        omega
      obtain ⟨cu, hcu⟩ := Num.ex g6.bound.1
      obtain ⟨lu, y2, y3, y4⟩ := id hcu
      have hlu : lu.length ≤ cl.length + 1 := by
        have := hcu.len (k := u.length) g6.bound.2
        rw [y2] at this; simp at this; omega
      have hw := wid_i64 (l := u) (fl := true)
      have hw' := wid_i64 (l := u) (fl := false)
      rw [← g3] at hw hw'
      obtain ⟨rr, hrr⟩ : ∃ rr, rr = ev lu % p := ⟨_, rfl⟩
      have dD := d_impl_divSmall y2 y3.1 (by omega) ⟨by omega, by omega⟩ (by rw [y4]; exact hr) hrr
      cbv
      repeat' (first
        | (refine Ar.wid_ hA (by first | exact hw | exact hw') ?_; cbv)
        | (refine Ar.lenN_ hA (fun _ _ => ?_); cbv)
        | (refine Ar.nn_ hA (by omega) ?_; cbv)
        | (refine Ar.toN_ hA (fun _ _ => ?_); cbv)
        | (refine Ar.rng_ hA (by omega) ?_; cbv)
        | (refine Ar.subN_ hA (fun _ _ => ?_); cbv))
      refine Ar.call_ hA c_impl_cut (d_impl_cut (l := u.take v.length) (es := e.take v.length) (c := cu) (by rw [g3, List.map_take]) (g6.take _) (by simp; omega) (by rw [hut]; exact hcu)) (by subst hA; show [PV.sl ((e.drop 0).take _)] = _; rw [List.drop_zero]; congr 3; omega) ?_
      cbv
      refine Ar.call_ hA c_impl_divSmall dD rfl ?_
      cbv
      refine Ar.call_ hA c_impl_cut (d_impl_cut g4 g8 (by omega) hq) rfl ?_
      cbv
      exact hK _ _ rfl rfl

end Go.VAI
