/- Shifts of limbs; numbers of machine integers. -/
import Derived.Test.YtialfhjffkoakaaGreatNH
namespace Go.VAI
open Go.Proofs
set_option maxRecDepth 100000
set_option maxHeartbeats 8000000

theorem up_step {l o : List Int} {i : Nat} {p b x v w n : Int} (hp : isP p b) (hl : Lim l) (ho : Lim o) (hx : l[i]? = some x) (hv : o[i]? = some v) (hw : o[i + 1]? = some w) (he : ev o = p * ev (l.take i)) (hn : n = x * p) :
    (0 ≤ v ∧ v < p) ∧ Lim ((o.set i (v + n % 65536)).set (i + 1) (n / 65536)) ∧ ev ((o.set i (v + n % 65536)).set (i + 1) (n / 65536)) = p * ev (l.take (i + 1)) := by
  have hpp := hp.pos
  have h1 := tk_bound hl i
  have h2 : p * ev (l.take i) < p * pw i := Int.mul_lt_mul_of_pos_left h1.2 (by omega)
  have hv0 := ho.get hv
  have hw0 := ho.get hw
  have hvp : v < p := lim_lt ho hv (by rw [he]; exact h2)
  have h3 : p * pw i ≤ 32768 * pw i := Int.mul_le_mul_of_nonneg_right hpp.2 (Int.le_of_lt (pw_pos i))
  have h4 := pw_pos i
  have hw1 : w = 0 := by
    have : w < 1 := lim_lt ho hw (by rw [he]; simp only [pw]; omega)
    omega
  obtain ⟨a1, _, _, a4, a5, a6⟩ := up_arith hp (hl.get hx) ⟨hv0.1, hvp⟩ hn
  refine ⟨⟨hv0.1, hvp⟩, (ho.set ⟨by omega, a4⟩).set ⟨a5, a6⟩, ?_⟩
  rw [ev_set (x := w) (by rw [List.getElem?_set_ne (by omega)]; exact hw), ev_set hv, hw1, ev_take_succ hx, he, Int.mul_add]
  have e1 : pw i * n = pw i * (n % 65536) + pw (i + 1) * (n / 65536) := by
    have : n = 65536 * (n / 65536) + n % 65536 := by omega
    conv => lhs; rw [this, Int.mul_add]
    simp only [pw]
    grind
  have e2 : p * (pw i * x) = pw i * n := by rw [hn]; grind
  rw [e2, e1, show v + n % 65536 - v = n % 65536 by omega, Int.sub_zero]
  omega

theorem c_spec_l1Up : Callable Tryz.prog 156 := ⟨_, Tryz.func156, rfl, by kernel_rfl⟩
theorem d_spec_l1Up {a c : List PV} {l : List Int} {p b : Int} (hes : a = l.map i64) (hl : Lim l) (hb : l.length ≤ 400000) (hp : isP p b) (hc : Pad c (p * ev l) (l.length + 1)) : Does Tryz.prog 156 [.sl a, i64 b] (.row c 1 .free) [] := by
  refine does_of hT hM Tryz.func156 rfl (D := []) (by kernel_rfl) rfl rfl rfl (fun A K hA hK => ?_)
  have hlen : a.length = l.length := by simp [hes]
  have hb0 := hp.1
  have hb1 := hp.2.1
  cbv
  refine Ar.len_ hA (fun n hn hn' => ?_)
  cbv
  refine Ar.add_ hA (by omega) (fun n1 hn1 => ?_)
  cbv
  refine Ar.nn_ hA (by omega) ?_
  cbv
  refine Ar.toN_ hA (fun z hz => ?_)
  cbv
  refine Ar.fits_ hA (by omega) ?_
  cbv
  refine Ar.rep_ hA (fun o0 ho0 => ?_)
  cbv
  refine Ar.len_ hA (fun n2 hn2 hn2' => ?_)
  cbv
  refine Ar.loop_ hA (α := Int × List PV) (fun x => (n2 - x.1).toNat) (fun x => 0 ≤ x.1 ∧ x.1 ≤ n2 ∧ ∃ o : List Int, x.2 = o.map i64 ∧ o.length = l.length + 1 ∧ Lim o ∧ ev o = p * ev (l.take x.1.toNat)) 40 (fun x => [(1, .pv (i64 b) []), (5, .own 12 none), (13, .pv (.sl a) []), (14, .pv (i64 n2) []), (15, .pv (i64 x.1) [])]) (fun x => [(12, some (.row x.2 1 .free false))]) (0, o0) (by refine ⟨?_, ⟨?_, ?_, ?_, ?_, ?_, trivial⟩, ?_, trivial⟩ <;> cbv) ⟨by simp, by simp; omega, List.replicate z 0, by simp [ho0], by simp; omega, Lim.rep _, by simp [ev_rep, ev]⟩ ?_
  rintro ⟨i, e⟩ st f ⟨g1, g2, o, g4, g5, g6, g7⟩
  simp only at g1 g2 g4 g7
  cbv
  refine Ar.lss_ hA (fun h => ?_) (fun h => ?_)
  · cbv
    refine Ar.nn_ hA (by omega) ?_
    cbv
    refine Ar.toN_ hA (fun j hj => ?_)
    cbv
    obtain ⟨x, hx⟩ : ∃ p, l[j]? = some p := ⟨l[j]'(by omega), List.getElem?_eq_getElem _⟩
    refine Ar.idx_ hA (x := i64 x) (by rw [hes, List.getElem?_map, hx]; rfl) ?_
    cbv
    have hxb := hl.get hx
    obtain ⟨v, hv⟩ : ∃ v, o[j]? = some v := ⟨o[j]'(by omega), List.getElem?_eq_getElem _⟩
    obtain ⟨w, hw⟩ : ∃ v, o[j + 1]? = some v := ⟨o[j + 1]'(by omega), List.getElem?_eq_getElem _⟩
    rw [show i.toNat = j by omega] at g7
    obtain ⟨n, hn⟩ : ∃ n, n = x * p := ⟨_, rfl⟩
    obtain ⟨s0, s1, s2⟩ := up_step hp hl g6 hx hv hw g7 hn
    obtain ⟨a1, ⟨m, a2⟩, a3, a4, a5, a6⟩ := up_arith hp hxb s0 hn
    refine Ar.convU hA (fun b' hb' => ?_)
    cbv
    have hbb : b' = b := by omega
    refine Ar.nn_ hA (by omega) ?_
    cbv
    refine Ar.shl_ hA (b := b') (p := p) (by rw [hbb]; exact hp.2.2) (by omega) (by rw [← hn]; omega) (fun n' hn' => ?_)
    obtain rfl : n' = n := by rw [hn', hn]
    cbv
    have hv' : ∀ k, k = j → e[k]? = some (i64 v) := fun k hk => by rw [hk, g4, List.getElem?_map, hv]; rfl
    repeat' (first
      | (refine Ar.nn_ hA (by omega) ?_; cbv)
      | (refine Ar.toN_ hA (fun _ _ => ?_); cbv)
      | (refine Ar.idx_ hA (x := i64 v) (hv' _ (by omega)) ?_; cbv))
    refine Ar.nz_ hA (by omega) ?_
    cbv
    refine Ar.rem_ hA (by omega) (fun d hd => ?_)
    cbv
    refine Ar.or_ hA b.toNat m ⟨s0.1, a3⟩ (by rw [hd]; exact a2) (by omega) (fun d2 hd2 => ?_)
    cbv
    repeat' (first
      | (refine Ar.nn_ hA (by omega) ?_; cbv)
      | (refine Ar.toN_ hA (fun _ _ => ?_); cbv)
      | (refine Ar.idx_ hA (x := i64 v) (hv' _ (by omega)) ?_; cbv))
    refine Ar.set_ hA (fun e1 he1 => ?_)
    obtain ⟨_, he1', hl1⟩ := set_get he1 (i := j) (by omega) (by rw [g4]; simp; omega)
    clear he1
    cbv
    refine Ar.add_ hA (by omega) (fun i1 hi1 => ?_)
    cbv
    refine Ar.nz_ hA (by omega) ?_
    cbv
    refine Ar.quo_ hA (by omega) (fun q hq => ?_)
    cbv
    have hw' : ∀ k, k = j + 1 → e1[k]? = some (i64 w) := fun k hk => by rw [hk, he1', List.getElem?_set_ne (by omega), g4, List.getElem?_map, hw]; rfl
    repeat' (first
      | (refine Ar.nn_ hA (by omega) ?_; cbv)
      | (refine Ar.toN_ hA (fun _ _ => ?_); cbv)
      | (refine Ar.idx_ hA (x := i64 w) (hw' _ (by omega)) ?_; cbv))
    refine Ar.set_ hA (fun e2 he2 => ?_)
    obtain ⟨_, he2', _⟩ := set_get he2 (i := j + 1) (by omega) (by rw [hl1, g4]; simp; omega)
    clear he2
    cbv
    refine Ar.add_ hA (by omega) (fun i' hi' => ?_)
    cbv
    rw [← hd, ← hd2, ← hq] at s1 s2
    exact ⟨(i', e2), by show (n2 - i').toNat < (n2 - i).toNat; omega, ⟨by show 0 ≤ i'; omega, by show i' ≤ n2; omega, (o.set j d2).set (j + 1) q, by show e2 = _; rw [he2', he1', g4, List.map_set, List.map_set], by simp [g5], s1, by show ev _ = p * ev (l.take i'.toNat); rw [show i'.toNat = j + 1 by omega]; exact s2⟩, rfl, ⟨rfl, rfl, rfl, rfl, rfl, trivial⟩, rfl, trivial⟩
  · cbv
    have : Pad e (p * ev l) (l.length + 1) := ⟨o, g4, g6, g5, by rw [g7, ev_tk_all (by omega)]⟩
    exact hK _ _ (by rw [this.inj hc]) rfl

theorem down_arith {p b x y t s d : Int} (hp : isP p b) (hx : 0 ≤ x ∧ x < 65536) (hy : 0 ≤ y ∧ y < 65536) (ht : t = x + y * 65536) (hs : s = t / p) (hd : d = s % 65536) : p * d = x - x % p + 65536 * (y % p) ∧ 0 ≤ s ∧ 0 ≤ t ∧ t ≤ 4294967295 := by
  have hc := hp.cases
  clear hp
  subst ht hs hd
  rcases hc with h | h | h | h | h | h | h | h | h | h | h | h | h | h | h | h <;> (subst h; omega)

theorem down_step {l o : List Int} {i : Nat} {p b x y v d : Int} (hp : isP p b) (hl : Lim l) (ho : Lim o) (hx : lg l i = x) (hy : lg l (i + 1) = y) (hv : o[i]? = some v) (he : p * ev o + lg l 0 % p = ev (l.take i) + pw i * (lg l i % p)) (hd : p * d = x - x % p + 65536 * (y % p)) :
    p * ev (o.set i d) + lg l 0 % p = ev (l.take (i + 1)) + pw (i + 1) * (lg l (i + 1) % p) := by
  have hpp := hp.pos
  have h1 := tk_bound hl i
  have h4 := pw_pos i
  have h5 : 0 ≤ lg l 0 % p := Int.emod_nonneg _ (by omega)
  have h6 : lg l i % p < p := Int.emod_lt_of_pos _ (by omega)
  have h7 : pw i * (lg l i % p + 1) ≤ pw i * p := Int.mul_le_mul_of_nonneg_left (by omega) (by omega)
  have h8 : pw i * (lg l i % p + 1) = pw i * (lg l i % p) + pw i := by rw [Int.mul_add]; omega
  have h9 : p * ev o < p * pw i := by rw [Int.mul_comm p (pw i)]; omega
  have h10 : ev o < pw i := Int.lt_of_mul_lt_mul_left h9 (by omega)
  have hv1 : v = 0 := by
    have := (ho.get hv).1
    have : v < 1 := lim_lt ho hv (by omega)
    omega
  rw [ev_set hv, hv1, Int.sub_zero, ev_tk, hx, hy, Int.mul_add]
  rw [hx] at he
  have e1 : p * (pw i * d) = pw i * (p * d) := by grind
  have e2 : pw i * (x - x % p + 65536 * (y % p)) = pw i * x - pw i * (x % p) + pw (i + 1) * (y % p) := by simp only [pw]; grind
  rw [e1, hd, e2]
  omega

theorem c_spec_l1Down : Callable Tryz.prog 160 := ⟨_, Tryz.func160, rfl, by kernel_rfl⟩
theorem d_spec_l1Down {a c : List PV} {l : List Int} {p b : Int} (hes : a = l.map i64) (hl : Lim l) (hb : l.length ≤ 400000) (hp : isP p b) (hc : Num c (ev l / p)) : Does Tryz.prog 160 [.sl a, i64 b] (.row c 1 .free) [] := by
  refine does_of hT hM Tryz.func160 rfl (D := []) (by kernel_rfl) rfl rfl rfl (fun A K hA hK => ?_)
  have hlen : a.length = l.length := by simp [hes]
  have hb0 := hp.1
  have hb1 := hp.2.1
  have hpp := hp.pos
  cbv
  refine Ar.len_ hA (fun n hn hn' => ?_)
  cbv
  refine Ar.nn_ hA (by omega) ?_
  cbv
  refine Ar.toN_ hA (fun z hz => ?_)
  cbv
  refine Ar.fits_ hA (by omega) ?_
  cbv
  refine Ar.rep_ hA (fun o0 ho0 => ?_)
  cbv
  refine Ar.len_ hA (fun n2 hn2 hn2' => ?_)
  cbv
  refine Ar.loop_ hA (α := Int × List PV) (fun x => (n2 - x.1).toNat) (fun x => 0 ≤ x.1 ∧ x.1 ≤ n2 ∧ ∃ o : List Int, x.2 = o.map i64 ∧ o.length = l.length ∧ Lim o ∧ p * ev o + lg l 0 % p = ev (l.take x.1.toNat) + pw x.1.toNat * (lg l x.1.toNat % p)) 35 (fun x => [(0, .pv (.sl a) []), (1, .pv (i64 b) []), (5, .own 9 none), (11, .pv (i64 n2) []), (12, .pv (i64 x.1) [])]) (fun x => [(9, some (.row x.2 1 .free false))]) (0, o0) (by refine ⟨?_, ⟨?_, ?_, ?_, ?_, ?_, trivial⟩, ?_, trivial⟩ <;> cbv) ⟨by simp, by simp; omega, List.replicate z 0, by simp [ho0], by simp; omega, Lim.rep _, by simp [ev_rep, ev, pw]⟩ ?_
  rintro ⟨i, e⟩ st f ⟨g1, g2, o, g4, g5, g6, g7⟩
  simp only at g1 g2 g4 g7
  cbv
  refine Ar.lss_ hA (fun h => ?_) (fun h => ?_)
  · cbv
    have hxl := lg_get (l := l) (i := i.toNat) (by omega)
    obtain ⟨x, hx⟩ : ∃ x, lg l i.toNat = x := ⟨_, rfl⟩
    obtain ⟨y, hy⟩ : ∃ y, lg l (i.toNat + 1) = y := ⟨_, rfl⟩
    have hxb := hl.lg i.toNat
    have hyb := hl.lg (i.toNat + 1)
    rw [hx] at hxb hxl
    rw [hy] at hyb
    obtain ⟨v, hv⟩ : ∃ v, o[i.toNat]? = some v := ⟨o[i.toNat]'(by omega), List.getElem?_eq_getElem _⟩
    obtain ⟨t, ht⟩ : ∃ t, t = x + y * 65536 := ⟨_, rfl⟩
    obtain ⟨q, hq⟩ : ∃ q, q = t / p := ⟨_, rfl⟩
    obtain ⟨d, hd⟩ : ∃ d, d = q % 65536 := ⟨_, rfl⟩
    obtain ⟨k1, k2, k3, k4⟩ := down_arith hp hxb hyb ht hq hd
    have k5 := down_step hp hl g6 hx hy hv g7 k1
    have hxe : ∀ k, k = i.toNat → a[k]? = some (i64 x) := fun k hk => by rw [hk, hes, List.getElem?_map, hxl]; rfl
    have hve : ∀ k, k = i.toNat → e[k]? = some (i64 v) := fun k hk => by rw [hk, g4, List.getElem?_map, hv]; rfl
    repeat' (first
      | (refine Ar.nn_ hA (by omega) ?_; cbv)
      | (refine Ar.toN_ hA (fun _ _ => ?_); cbv)
      | (refine Ar.idx_ hA (x := i64 x) (hxe _ (by omega)) ?_; cbv)
      | (refine Ar.idx_ hA (x := i64 v) (hve _ (by omega)) ?_; cbv))
    refine Ar.add_ hA (by omega) (fun i1 hi1 => ?_)
    cbv
    refine Ar.callI hA c_spec_l1Limb (d_spec_l1Limb hes (by omega)) rfl (fun y' hy' => ?_)
    cbv
    rw [show i1.toNat = i.toNat + 1 by omega, hy] at hy'
    refine Ar.nn_ hA (by omega) ?_
    cbv
    refine Ar.shl_ hA (p := 65536) rfl (by omega) (by omega) (fun y2 hy2 => ?_)
    cbv
    repeat' (first
      | (refine Ar.nn_ hA (by omega) ?_; cbv)
      | (refine Ar.toN_ hA (fun _ _ => ?_); cbv)
      | (refine Ar.idx_ hA (x := i64 x) (hxe _ (by omega)) ?_; cbv)
      | (refine Ar.idx_ hA (x := i64 v) (hve _ (by omega)) ?_; cbv))
    refine Ar.or_ hA 16 y'.toNat (by omega) (by omega) (by omega) (fun t' ht' => ?_)
    cbv
    refine Ar.convU hA (fun b' hb' => ?_)
    cbv
    have hbb : b' = b := by omega
    refine Ar.nn_ hA (by omega) ?_
    cbv
    refine Ar.shr_ hA (b := b') (p := p) (by rw [hbb]; exact hp.2.2) (by omega) (fun q' hq' => ?_)
    have htt : t' = t := by omega
    rw [htt, ← hq] at hq'
    cbv
    refine Ar.nz_ hA (by omega) ?_
    cbv
    refine Ar.rem_ hA (by omega) (fun d' hd' => ?_)
    rw [hq', ← hd] at hd'
    cbv
    repeat' (first
      | (refine Ar.nn_ hA (by omega) ?_; cbv)
      | (refine Ar.toN_ hA (fun _ _ => ?_); cbv)
      | (refine Ar.idx_ hA (x := i64 x) (hxe _ (by omega)) ?_; cbv)
      | (refine Ar.idx_ hA (x := i64 v) (hve _ (by omega)) ?_; cbv))
    refine Ar.set_ hA (fun e1 he1 => ?_)
    obtain ⟨_, he1', hl1⟩ := set_get he1 (i := i.toNat) (by omega) (by rw [g4]; simp; omega)
    clear he1
    cbv
    refine Ar.add_ hA (by omega) (fun i' hi' => ?_)
    cbv
    exact ⟨(i', e1), by show (n2 - i').toNat < (n2 - i).toNat; omega, ⟨by show 0 ≤ i'; omega, by show i' ≤ n2; omega, o.set i.toNat d, by show e1 = _; rw [he1', g4, hd', List.map_set], by simp [g5], g6.set (by omega), by show p * ev _ + _ = ev (l.take i'.toNat) + _; rw [show i'.toNat = i.toNat + 1 by omega]; exact k5⟩, rfl, ⟨rfl, rfl, rfl, rfl, rfl, trivial⟩, rfl, trivial⟩
  · cbv
    rw [ev_tk_all (by omega), lg_none (l := l) (i := i.toNat) (by omega), Int.zero_emod, Int.mul_zero, Int.add_zero] at g7
    have h5 : 0 ≤ lg l 0 % p := Int.emod_nonneg _ (by omega)
    have h6 : lg l 0 % p < p := Int.emod_lt_of_pos _ (by omega)
    have h7 := (div_unique (A := ev l) (q := ev o) (B := p) (by rw [← g7, Int.mul_comm]) h5 h6).1
    rw [h7] at hc
    refine Ar.call_ hA c_spec_l1Cut (d_spec_l1Cut g4 g6 (by omega) hc) rfl ?_
    cbv
    exact hK _ _ rfl rfl

/-! ### Numbers of machine integers -/

theorem pw4 {k : Nat} (h : pw k ≤ 9223372036854775808) : k ≤ 3 := by
  rcases Nat.lt_or_ge k 4 with hk | hk
  · omega
  · have := pw_le hk
    have e : pw 4 = 18446744073709551616 := by simp [pw]
    omega
theorem of_step {o : List Int} {k : Nat} {s n : Int} (ho : Lim o) (hk : o.length = k) (hs : 0 < s) (hn : n ≤ 9223372036854775808) (he : ev o + pw k * s = n) :
    k ≤ 3 ∧ Lim (o ++ [s % 65536]) ∧ ev (o ++ [s % 65536]) + pw (k + 1) * (s / 65536) = n ∧ (s / 65536 = 0 → pw k ≤ ev (o ++ [s % 65536])) := by
  have h0 := ho.bound
  have h1 := pw_pos k
  have h2 : pw k * 1 ≤ pw k * s := Int.mul_le_mul_of_nonneg_left (by omega) (by omega)
  refine ⟨pw4 (by omega), Lim.app.2 ⟨ho, Lim.one.2 (by omega)⟩, ?_, fun h => ?_⟩
  · rw [ev_push, hk, ← he]
    have : s = 65536 * (s / 65536) + s % 65536 := by omega
    conv => rhs; rw [this, Int.mul_add]
    simp only [pw]
    grind
  · rw [ev_push, hk, show s % 65536 = s by omega]
    omega

theorem c_impl_BigOf : Callable Tryz.prog 101 := ⟨_, Tryz.func101, rfl, by kernel_rfl⟩
theorem d_impl_BigOf {n : Int} {s : Bool} {c : List PV} (hn : -9223372036854775808 ≤ n ∧ n ≤ 9223372036854775807) (hc : Big s c n) : Does Tryz.prog 101 [i64 n] (.ag [.pv (bl s), .row c 1 .free]) [] := by
  refine does_of hT hM Tryz.func101 rfl (D := []) (by kernel_rfl) rfl rfl rfl (fun A K hA hK => ?_)
  have hs := hc.2
  have hab : iabs n = if n < 0 then -n else n := rfl
  have hc1 := hc.1
  generalize iabs n = N at hc1 hab
  cbv
  refine Ar.lss_ hA (fun h0 => ?_) (fun h0 => ?_)
  all_goals
    cbv
    refine Ar.convU hA (fun u hu => ?_)
    cbv
  · refine Ar.negU hA (fun u' hu' => ?_)
    rw [if_pos h0] at hab
    cbv
    refine Ar.loop_ hA (α := Int × List PV) (fun x => x.1.toNat) (fun x => 0 ≤ x.1 ∧ x.1 ≤ 9223372036854775808 ∧ ∃ o : List Int, x.2 = o.map i64 ∧ Lim o ∧ ev o + pw o.length * x.1 = N ∧ (x.1 = 0 → o ≠ [] → pw (o.length - 1) ≤ ev o)) 27 (fun x => [(2, .ref 2 0), (3, .pv (bl true) []), (4, .pv (.val (.int .u64 x.1)) []), (5, .own 13 none)]) (fun x => [(2, some (.cell [.pv (bl false) [], .pv (.val (.slice none 0 0)) []])), (13, some (.row x.2 1 .free false))]) (u', []) (by refine ⟨?_, ⟨?_, ?_, ?_, ?_, trivial⟩, ?_, ?_, trivial⟩ <;> cbv) ⟨by show 0 ≤ u'; omega, by show u' ≤ _; omega, [], rfl, Lim.nil, by simp [ev, pw]; omega, fun _ h => absurd rfl h⟩ ?_
    rintro ⟨x, e⟩ st f ⟨g1, g2, o, g3, g4, g5, g6⟩
    simp only at g1 g2 g3 g5 g6
    cbv
    refine Ar.gtr_ hA (fun h => ?_) (fun h => ?_)
    · cbv
      obtain ⟨k1, k2, k3, k4⟩ := of_step g4 rfl h (by omega) g5
      have hel : e.length ≤ 3 := by rw [g3]; simpa using k1
      refine Ar.nz_ hA (by omega) ?_
      cbv
      refine Ar.remk hA (by omega) (fun d hd => ?_)
      cbv
      refine Ar.conv64_ hA (by omega) ?_
      cbv
      refine Ar.app_ hA (fun r' hr' => ?_)
      cbv
      refine Ar.fitsL_ hA (by rw [hr']; simp; omega) ?_
      cbv
      refine Ar.nz_ hA (by omega) ?_
      cbv
      refine Ar.quoU hA (by omega) (fun q hq => ?_)
      cbv
      rw [← hd, ← hq] at k3
      rw [← hd] at k2 k4
      rw [← hq] at k4
      exact ⟨(q, r'), by show q.toNat < x.toNat; omega, ⟨by show 0 ≤ q; omega, by show q ≤ _; omega, o ++ [d], by show r' = _; rw [hr', g3]; simp, k2, by show ev _ + pw _ * q = N; simpa using k3, fun h _ => by have := k4 h; simpa using this⟩, rfl, ⟨rfl, rfl, rfl, rfl, trivial⟩, rfl, rfl, trivial⟩
    · cbv
      have hx0 : x = 0 := by omega
      rw [hx0, Int.mul_zero, Int.add_zero] at g5
      have hcan := Num.of (can_of_ge g4 (fun hne => g6 hx0 hne)) g5
      rw [← g3] at hcan
      obtain rfl := hcan.inj hc1
      exact hK _ _ (by rw [hs]; simp [h0]) rfl
  · rw [if_neg (by omega)] at hab
    refine Ar.loop_ hA (α := Int × List PV) (fun x => x.1.toNat) (fun x => 0 ≤ x.1 ∧ x.1 ≤ 9223372036854775808 ∧ ∃ o : List Int, x.2 = o.map i64 ∧ Lim o ∧ ev o + pw o.length * x.1 = N ∧ (x.1 = 0 → o ≠ [] → pw (o.length - 1) ≤ ev o)) 27 (fun x => [(2, .ref 2 0), (3, .pv (bl false) []), (4, .pv (.val (.int .u64 x.1)) []), (5, .own 13 none)]) (fun x => [(2, some (.cell [.pv (bl false) [], .pv (.val (.slice none 0 0)) []])), (13, some (.row x.2 1 .free false))]) (u, []) (by refine ⟨?_, ⟨?_, ?_, ?_, ?_, trivial⟩, ?_, ?_, trivial⟩ <;> cbv) ⟨by show 0 ≤ u; omega, by show u ≤ _; omega, [], rfl, Lim.nil, by simp [ev, pw]; omega, fun _ h => absurd rfl h⟩ ?_
    rintro ⟨x, e⟩ st f ⟨g1, g2, o, g3, g4, g5, g6⟩
    simp only at g1 g2 g3 g5 g6
    cbv
    refine Ar.gtr_ hA (fun h => ?_) (fun h => ?_)
    · cbv
      obtain ⟨k1, k2, k3, k4⟩ := of_step g4 rfl h (by omega) g5
      have hel : e.length ≤ 3 := by rw [g3]; simpa using k1
      refine Ar.nz_ hA (by omega) ?_
      cbv
      refine Ar.remk hA (by omega) (fun d hd => ?_)
      cbv
      refine Ar.conv64_ hA (by omega) ?_
      cbv
      refine Ar.app_ hA (fun r' hr' => ?_)
      cbv
      refine Ar.fitsL_ hA (by rw [hr']; simp; omega) ?_
      cbv
      refine Ar.nz_ hA (by omega) ?_
      cbv
      refine Ar.quoU hA (by omega) (fun q hq => ?_)
      cbv
      rw [← hd, ← hq] at k3
      rw [← hd] at k2 k4
      rw [← hq] at k4
      exact ⟨(q, r'), by show q.toNat < x.toNat; omega, ⟨by show 0 ≤ q; omega, by show q ≤ _; omega, o ++ [d], by show r' = _; rw [hr', g3]; simp, k2, by show ev _ + pw _ * q = N; simpa using k3, fun h _ => by have := k4 h; simpa using this⟩, rfl, ⟨rfl, rfl, rfl, rfl, trivial⟩, rfl, rfl, trivial⟩
    · cbv
      have hx0 : x = 0 := by omega
      rw [hx0, Int.mul_zero, Int.add_zero] at g5
      have hcan := Num.of (can_of_ge g4 (fun hne => g6 hx0 hne)) g5
      rw [← g3] at hcan
      obtain rfl := hcan.inj hc1
      exact hK _ _ (by rw [hs]; simp [h0]) rfl

theorem tm_neg {m : Int} (h : m < 0) : m.tmod 65536 = -((-m) % 65536) ∧ m.tdiv 65536 = -((-m) / 65536) := by
  have e : m = -(-m) := by omega
  constructor
  · conv => lhs; rw [e]
    rw [Int.neg_tmod, Int.tmod_eq_emod_of_nonneg (by omega)]
  · conv => lhs; rw [e]
    rw [Int.neg_tdiv, Int.tdiv_eq_ediv_of_nonneg (by omega)]

theorem c_spec_BigOf : Callable Tryz.prog 98 := ⟨_, Tryz.func98, rfl, by kernel_rfl⟩
theorem d_spec_BigOf {n : Int} {s : Bool} {c : List PV} (hn : -9223372036854775808 ≤ n ∧ n ≤ 9223372036854775807) (hc : Big s c n) : Does Tryz.prog 98 [i64 n] (.ag [.pv (bl s), .row c 1 .free]) [] := by
  refine does_of hT hM Tryz.func98 rfl (D := []) (by kernel_rfl) rfl rfl rfl (fun A K hA hK => ?_)
  have hs := hc.2
  have hab : iabs n = if n < 0 then -n else n := rfl
  have hc1 := hc.1
  generalize iabs n = N at hc1 hab
  have hN : 0 ≤ N ∧ N ≤ 9223372036854775808 := by split at hab <;> omega
  cbv
  refine Ar.loop_ hA (α := Int × List PV) (fun x => (iabs x.1).toNat) (fun x => (0 ≤ x.1 ∧ x.1 ≤ 9223372036854775807 ∨ x.1 < 0 ∧ -9223372036854775808 ≤ x.1) ∧ ∃ o : List Int, x.2 = o.map i64 ∧ Lim o ∧ ev o + pw o.length * iabs x.1 = N ∧ (x.1 = 0 → o ≠ [] → pw (o.length - 1) ≤ ev o)) 25 (fun x => [(0, .pv (i64 n) []), (2, .ref 2 0), (3, .own 3 none), (4, .pv (i64 x.1) [])]) (fun x => [(2, some (.cell [.pv (bl false) [], .pv (.val (.slice none 0 0)) []])), (3, some (.row x.2 1 .free false))]) (n, []) (by refine ⟨?_, ⟨?_, ?_, ?_, ?_, trivial⟩, ?_, ?_, trivial⟩ <;> cbv) ⟨by show 0 ≤ n ∧ _ ∨ _; omega, [], rfl, Lim.nil, by simp [ev, pw]; unfold iabs; omega, fun _ h => absurd rfl h⟩ ?_
  rintro ⟨x, e⟩ st f ⟨g1, o, g3, g4, g5, g6⟩
  simp only at g1 g3 g5 g6
  cbv
  refine Ar.neq_ hA (fun h => ?_) (fun h => ?_)
  · have hx : 0 < iabs x := by unfold iabs; split <;> omega
    obtain ⟨k1, k2, k3, k4⟩ := of_step g4 rfl hx hN.2 g5
    have fin : ∀ x' d e', iabs x' = iabs x / 65536 → d = iabs x % 65536 → e' = e ++ [i64 d] → ∃ o : List Int, e' = o.map i64 ∧ Lim o ∧ ev o + pw o.length * iabs x' = N ∧ (x' = 0 → o ≠ [] → pw (o.length - 1) ≤ ev o) := by
      intro x' d e' hx' hd he'
      refine ⟨o ++ [d], by rw [he', g3]; simp, by rw [hd]; exact k2, by rw [hd, hx']; simpa using k3, fun h _ => ?_⟩
      have : iabs x / 65536 = 0 := by rw [← hx', h]; rfl
      have := k4 this
      rw [hd]; simpa using this
    have hel : e.length ≤ 3 := by rw [g3]; simpa using k1
    rcases g1 with hp | hp
    · have ex : iabs x = x := by unfold iabs; rw [if_neg (by omega)]
      rw [ex] at fin
      cbv
      refine Ar.nz_ hA (by omega) ?_
      cbv
      refine Ar.rem_ hA (by omega) (fun d hd => ?_)
      cbv
      refine Ar.lss_ hA (fun h => absurd h (by omega)) (fun h => ?_)
      cbv
      refine Ar.app_ hA (fun r' hr' => ?_)
      cbv
      refine Ar.fitsL_ hA (by rw [hr']; simp; omega) ?_
      cbv
      refine Ar.nz_ hA (by omega) ?_
      cbv
      refine Ar.quo_ hA (by omega) (fun q hq => ?_)
      cbv
      exact ⟨(q, r'), by show (iabs q).toNat < (iabs x).toNat; unfold iabs; (repeat' split) <;> omega, ⟨by show 0 ≤ q ∧ _ ∨ _; omega, fin q d r' (by unfold iabs; rw [if_neg (by omega), hq]) hd hr'⟩, rfl, ⟨rfl, rfl, rfl, rfl, trivial⟩, rfl, rfl, trivial⟩
    · have ex : iabs x = -x := by unfold iabs; rw [if_pos (by omega)]
      obtain ⟨t1, t2⟩ := tm_neg hp.1
      rw [ex] at fin
      cbv
      refine Ar.nz_ hA (by omega) ?_
      cbv
      refine Ar.trem_ hA (fun d hd => ?_)
      rw [t1] at hd
      cbv
      refine Ar.lss_ hA (fun h => ?_) (fun h => ?_)
      · cbv
        refine Ar.neg_ hA (by omega) (fun d' hd' => ?_)
        cbv
        refine Ar.app_ hA (fun r' hr' => ?_)
        cbv
        refine Ar.fitsL_ hA (by rw [hr']; simp; omega) ?_
        cbv
        refine Ar.nz_ hA (by omega) ?_
        cbv
        refine Ar.tquo_ hA (by omega) (fun q hq => ?_)
        rw [t2] at hq
        cbv
        exact ⟨(q, r'), by show (iabs q).toNat < (iabs x).toNat; unfold iabs; (repeat' split) <;> omega, ⟨by show 0 ≤ q ∧ _ ∨ _; omega, fin q d' r' (by unfold iabs; split <;> omega) (by omega) hr'⟩, rfl, ⟨rfl, rfl, rfl, rfl, trivial⟩, rfl, rfl, trivial⟩
      · cbv
        refine Ar.app_ hA (fun r' hr' => ?_)
        cbv
        refine Ar.fitsL_ hA (by rw [hr']; simp; omega) ?_
        cbv
        refine Ar.nz_ hA (by omega) ?_
        cbv
        refine Ar.tquo_ hA (by omega) (fun q hq => ?_)
        rw [t2] at hq
        cbv
        exact ⟨(q, r'), by show (iabs q).toNat < (iabs x).toNat; unfold iabs; (repeat' split) <;> omega, ⟨by show 0 ≤ q ∧ _ ∨ _; omega, fin q d r' (by unfold iabs; split <;> omega) (by omega) hr'⟩, rfl, ⟨rfl, rfl, rfl, rfl, trivial⟩, rfl, rfl, trivial⟩
  · cbv
    have hx0 : iabs x = 0 := by unfold iabs; split <;> omega
    rw [hx0, Int.mul_zero, Int.add_zero] at g5
    have hcan := Num.of (can_of_ge g4 (fun hne => g6 h hne)) g5
    rw [← g3] at hcan
    have hel : e.length ≤ 1000000 := by
      have := hcan.len (k := 4) (by simp [pw]; omega)
      omega
    obtain rfl := hcan.inj hc1
    have hsg : ∀ b, b = decide (n < 0) → s = (b && decide (0 < N)) := fun b hb => by
      rw [hs, hb, Bool.eq_iff_iff]; simp; omega
    refine Ar.lss_ hA (fun h => ?_) (fun h => ?_)
    all_goals
      cbv
      refine Ar.call_ hA c_spec_l1Make (l1Make_num hc1 hel (hsg _ (by simp; omega))) rfl ?_
      cbv
      exact hK _ _ rfl rfl

end Go.VAI
