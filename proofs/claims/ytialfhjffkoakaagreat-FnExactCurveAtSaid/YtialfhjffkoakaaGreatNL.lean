/- Division of limbs, of the program's side. -/
import Derived.Test.YtialfhjffkoakaaGreatNK
namespace Go.VAI
open Go.Proofs
set_option maxRecDepth 100000
set_option maxHeartbeats 8000000

theorem big_pos {a : List PV} {x : Int} (h : Num a x) : Big false a x := by
  have h0 := h.nonneg
  have e : iabs x = x := by unfold iabs; rw [if_neg (by omega)]
  exact ⟨by rw [e]; exact h, by simp; omega⟩
theorem Big.pos {a : List PV} {x : Int} {s : Bool} (h : Big s a x) (h0 : 0 ≤ x) : s = false ∧ Num a x := by
  have e : iabs x = x := by unfold iabs; rw [if_neg (by omega)]
  exact ⟨by rw [h.2]; simp; omega, by have := h.1; rwa [e] at this⟩
theorem drop_mono {u : List Int} (h : Lim u) (i : Nat) : ev (u.drop (i + 1)) ≤ ev (u.drop i) := by
  rcases Nat.lt_or_ge i u.length with hi | hi
  · rw [ev_drop (lg_get hi)]
    have h1 := (h.drop (i + 1)).bound
    have h2 := h.lg i
    omega
  · rw [List.drop_of_length_le (by omega), List.drop_of_length_le (by omega)]; omega
theorem by_ok {y1 p : Int} (hy : 0 < y1 ∧ y1 < 65536) (hp : p = 65536 / (y1 + 1)) : (1 ≤ p ∧ p ≤ 32768) ∧ (y1 + 1) * p ≤ 65536 := by
  have h1 := Int.mul_ediv_self_le (x := 65536) (k := y1 + 1) (by omega)
  rw [← hp] at h1
  have h2 : 1 ≤ p := by rw [hp]; exact Int.le_ediv_of_mul_le (by omega) (by omega)
  have h3 : 2 * p ≤ (y1 + 1) * p := Int.mul_le_mul_of_nonneg_right (by omega) (by omega)
  exact ⟨⟨h2, by omega⟩, h1⟩
theorem norm_len' {m : List Int} {vs : List PV} {p y1 : Int} (hm : Can m) (hne : m ≠ []) (hpp : 1 ≤ p) (hy : lg m (m.length - 1) = y1) (h4 : (y1 + 1) * p ≤ 65536) (hv : Num vs (p * ev m)) : vs.length = m.length := by
  have hpos : m.length ≠ 0 := by simpa using hne
  have h1 : ev m = ev (m.take (m.length - 1)) + pw (m.length - 1) * y1 := by
    have := ev_tk m (m.length - 1)
    rw [ev_tk_all (by omega), hy] at this
    exact this
  have h2 := tk_bound hm.1 (m.length - 1)
  have h3 := pw_pos (m.length - 1)
  have h5 : ev m < pw (m.length - 1) * (y1 + 1) := by rw [Int.mul_add]; omega
  have h6 : p * ev m < p * (pw (m.length - 1) * (y1 + 1)) := Int.mul_lt_mul_of_pos_left h5 (by omega)
  have h7 : p * (pw (m.length - 1) * (y1 + 1)) = pw (m.length - 1) * ((y1 + 1) * p) := by grind
  have h8 : pw (m.length - 1) * ((y1 + 1) * p) ≤ pw (m.length - 1) * 65536 := Int.mul_le_mul_of_nonneg_left h4 (Int.le_of_lt h3)
  have h9 : pw m.length = pw (m.length - 1) * 65536 := by
    obtain ⟨k, hk⟩ : ∃ k, m.length = k + 1 := ⟨m.length - 1, by omega⟩
    rw [hk]; simp only [pw, Nat.add_sub_cancel]; omega
  have ha := hv.len (k := m.length) (by omega)
  have hb := hv.lt
  have hc := hm.low hne
  have hd : 1 * ev m ≤ p * ev m := Int.mul_le_mul_of_nonneg_right hpp (by omega)
  rcases Nat.lt_or_ge vs.length m.length with hh | hh
  · have := pw_le (m := vs.length) (n := m.length - 1) (by omega)
    omega
  · omega

/-- What divLimbs hands back. -/
def divRS (x y : Int) (a b q r : List PV) : RS :=
  if x < y then .tup [.row [] 1 .free, .pv (.sl a)] else .tup [.pv (.sl q), .pv (.sl r)]

/-- The bodies of the loops of a code, from the outer to the inner ones. -/
def loops : Code → List Code
  | .seq a b => loops a ++ loops b
  | .cond _ a b => loops a ++ loops b
  | .block _ c => loops c
  | .loop c => c :: loops c
  | _ => []
def lp (fn : Func) (k : Nat) : Code := (loops (fn.body.getD .skip)).getD k .skip

theorem dl_guess {A : Ar} (hA : stdA Tryz.prog = A) {σ : St} {K : Ex → St → Prop} {n p j t U V P v0 z1 z2 u0 x2 q0 r0 : Int} {N : Nat} {e eo vs : List PV} (k : KN U V P t v0 z1 z2 u0 x2) (hn : n.toNat = N ∧ 2 ≤ N ∧ n ≤ 100000) (hj : 0 ≤ j ∧ j ≤ 100001)
    (f1 : ∀ q, q = N - 1 → vs[q]? = some (i64 z1)) (f2 : ∀ q, q = N - 2 → vs[q]? = some (i64 z2)) (g2 : ∀ q, q = j.toNat + (N - 2) → e[q]? = some (i64 x2)) (h0 : 0 ≤ q0) (h1 : 0 ≤ r0) (h2 : q0 * z1 + r0 = t) (h3 : U < (q0 + 1) * V)
    (hσ : At 260 [(6, .pv (i64 n) []), (9, .pv (i64 p) []), (10, .own 56 none), (11, .own 64 none), (12, .own 79 none), (13, .pv (i64 j) []), (15, .pv (i64 q0) []), (16, .pv (i64 r0) [])] [(56, some (.row e 1 .free false)), (64, some (.row vs 1 .free false)), (79, some (.row eo 1 .free false))] σ)
    (hK : ∀ q σ', (0 ≤ q ∧ q < 65536) → U < (q + 1) * V → q * V ≤ U + V → At 260 [(6, .pv (i64 n) []), (9, .pv (i64 p) []), (10, .own 56 none), (11, .own 64 none), (12, .own 79 none), (13, .pv (i64 j) []), (15, .pv (i64 q) [])] [(56, some (.row e 1 .free false)), (64, some (.row vs 1 .free false)), (79, some (.row eo 1 .free false))] σ' → K (.exit 4) σ') :
    A.loop (fun σ' k => awp A [] (lp Tryz.f148 2) k σ') σ K := by
  refine Ar.loop_ hA (α := Int × Int) (fun x => x.1.toNat) (fun x => 0 ≤ x.1 ∧ 0 ≤ x.2 ∧ x.1 * z1 + x.2 = t ∧ U < (x.1 + 1) * V) 260 (fun x => [(6, .pv (i64 n) []), (9, .pv (i64 p) []), (10, .own 56 none), (11, .own 64 none), (12, .own 79 none), (13, .pv (i64 j) []), (15, .pv (i64 x.1) []), (16, .pv (i64 x.2) [])]) (fun _ => [(56, some (.row e 1 .free false)), (64, some (.row vs 1 .free false)), (79, some (.row eo 1 .free false))]) (q0, r0) hσ ⟨h0, h1, h2, h3⟩ ?_
  clear h0 h1 h2 h3 hσ
  rintro ⟨q, r⟩ st f ⟨c1, c2, c3, c4⟩
  simp only at c1 c2 c3 c4
  obtain ⟨m1, m2, m3, m4⟩ := k.mul c1 c2 c3
  have hy1b := k.hv1
  have hx2b := k.hu2
  cbv
  refine Ar.geq_ hA (fun c5 => ?_) (fun c5 => ?_)
  · cbv
    obtain ⟨n1, n2, n3⟩ := k.dec c1 c2 c3 (.inl c5)
    refine Ar.sub_ hA (by omega) (fun q' hq' => ?_)
    cbv
    repeat' (first
      | (refine Ar.sub_ hA (by omega) (fun _ _ => ?_); cbv)
      | (refine Ar.nn_ hA (by omega) ?_; cbv)
      | (refine Ar.toN_ hA (fun _ _ => ?_); cbv)
      | (refine Ar.idx_ hA (x := i64 z1) (f1 _ (by omega)) ?_; cbv))
    refine Ar.add_ hA (by omega) (fun r' hr' => ?_)
    cbv
    rw [← hq'] at n2 n3
    rw [← hr'] at n3
    exact ⟨(q', r'), by show q'.toNat < q.toNat; omega, ⟨by show 0 ≤ q'; omega, by show 0 ≤ r'; omega, n3, n2⟩, rfl, ⟨rfl, rfl, rfl, rfl, rfl, rfl, rfl, rfl, trivial⟩, rfl, rfl, rfl, trivial⟩
  · cbv
    refine Ar.lss_ hA (fun c6 => ?_) (fun c6 => ?_)
    · cbv
      refine Ar.sub_ hA (by omega) (fun a1 ha1 => ?_)
      cbv
      refine Ar.nn_ hA (by omega) ?_
      cbv
      refine Ar.toN_ hA (fun a2 ha2 => ?_)
      cbv
      refine Ar.idx_ hA (x := i64 z2) (f2 _ (by omega)) ?_
      cbv
      refine Ar.idx_ hA (x := i64 z2) (f2 _ (by omega)) ?_
      cbv
      refine Ar.mul_ hA ⟨Int.le_trans (by decide) m3, Int.le_trans m4 (by decide)⟩ (fun a3 ha3 => ?_)
      cbv
      refine Ar.mul_ hA (by omega) (fun a4 ha4 => ?_)
      cbv
      refine Ar.add_ hA (by omega) (fun a5 ha5 => ?_)
      cbv
      refine Ar.sub_ hA (by omega) (fun a6 ha6 => ?_)
      cbv
      refine Ar.nn_ hA (by omega) ?_
      cbv
      refine Ar.toN_ hA (fun a7 ha7 => ?_)
      cbv
      refine Ar.idx_ hA (x := i64 x2) (g2 _ (by omega)) ?_
      cbv
      refine Ar.idx_ hA (x := i64 x2) (g2 _ (by omega)) ?_
      cbv
      refine Ar.add_ hA (by omega) (fun a8 ha8 => ?_)
      cbv
      refine Ar.gtr_ hA (fun c7 => ?_) (fun c7 => ?_)
      · cbv
        obtain ⟨n1, n2, n3⟩ := k.dec c1 c2 c3 (.inr (by rw [← ha3, show r * 65536 + x2 = a8 by omega]; exact c7))
        refine Ar.sub_ hA (by omega) (fun q' hq' => ?_)
        cbv
        repeat' (first
          | (refine Ar.sub_ hA (by omega) (fun _ _ => ?_); cbv)
          | (refine Ar.nn_ hA (by omega) ?_; cbv)
          | (refine Ar.toN_ hA (fun _ _ => ?_); cbv)
          | (refine Ar.idx_ hA (x := i64 z1) (f1 _ (by omega)) ?_; cbv))
        refine Ar.add_ hA (by omega) (fun r' hr' => ?_)
        cbv
        rw [← hq'] at n2 n3
        rw [← hr'] at n3
        exact ⟨(q', r'), by show q'.toNat < q.toNat; omega, ⟨by show 0 ≤ q'; omega, by show 0 ≤ r'; omega, n3, n2⟩, rfl, ⟨rfl, rfl, rfl, rfl, rfl, rfl, rfl, rfl, trivial⟩, rfl, rfl, rfl, trivial⟩
      · cbv
        obtain ⟨n1, n2⟩ := k.exit c1 c3 (.inr ⟨c5, by rw [← ha3, show r * 65536 + x2 = a8 by omega]; exact c7⟩)
        exact hK q _ ⟨c1, n1⟩ c4 n2 (by refine ⟨?_, ⟨?_, ?_, ?_, ?_, ?_, ?_, ?_, trivial⟩, ?_, ?_, ?_, trivial⟩ <;> rfl)
    · cbv
      obtain ⟨n1, n2⟩ := k.exit c1 c3 (.inl c6)
      exact hK q _ ⟨c1, n1⟩ c4 n2 (by refine ⟨?_, ⟨?_, ?_, ?_, ?_, ?_, ?_, ?_, trivial⟩, ?_, ?_, ?_, trivial⟩ <;> rfl)

theorem dl_off {A : Ar} (hA : stdA Tryz.prog = A) {σ : St} {K : Ex → St → Prop} {n p j d : Int} {N : Nat} {e eo vs : List PV} {pre w z v : List Int} (hn : n.toNat = N ∧ n ≤ 100000 ∧ 0 ≤ n) (hj : 0 ≤ j ∧ j ≤ 100001 ∧ j.toNat = pre.length)
    (he : e = (pre ++ (w ++ z)).map i64) (hv : vs = v.map i64) (hw : Lim w) (hvl : Lim v) (hwN : w.length = N + 1) (hvN : v.length = N) (hd : 0 ≤ d ∧ d < 65536)
    (hσ : At 260 [(6, .pv (i64 n) []), (9, .pv (i64 p) []), (10, .own 56 none), (11, .own 64 none), (12, .own 79 none), (13, .pv (i64 j) []), (15, .pv (i64 d) []), (17, .pv (i64 0) []), (153, .pv (i64 n) []), (154, .pv (i64 0) [])] [(56, some (.row e 1 .free false)), (64, some (.row vs 1 .free false)), (79, some (.row eo 1 .free false))] σ)
    (hK : ∀ (c : Int) (e' : List PV) (o : List Int) (σ' : St), (0 ≤ c ∧ c ≤ d + 1) → e' = (pre ++ (o ++ z)).map i64 → o.length = N + 1 → Lim o → ev o = ev w - d * ev v + pw N * c → At 260 [(6, .pv (i64 n) []), (9, .pv (i64 p) []), (10, .own 56 none), (11, .own 64 none), (12, .own 79 none), (13, .pv (i64 j) []), (15, .pv (i64 d) []), (17, .pv (i64 c) [])] [(56, some (.row e' 1 .free false)), (64, some (.row vs 1 .free false)), (79, some (.row eo 1 .free false))] σ' → K (.exit 6) σ') :
    A.loop (fun σ' k => awp A [] (lp Tryz.f148 3) k σ') σ K := by
  refine Ar.loop_ hA (α := Int × Int × List PV) (fun x => (n - x.1).toNat) (fun x => 0 ≤ x.1 ∧ x.1 ≤ n ∧ (0 ≤ x.2.1 ∧ x.2.1 ≤ d + 1) ∧ ∃ o : List Int, x.2.2 = (pre ++ (o ++ z)).map i64 ∧ o.length = N + 1 ∧ Lim o ∧ ev o = ev w - d * ev (v.take x.1.toNat) + pw x.1.toNat * x.2.1) 260 (fun x => [(6, .pv (i64 n) []), (9, .pv (i64 p) []), (10, .own 56 none), (11, .own 64 none), (12, .own 79 none), (13, .pv (i64 j) []), (15, .pv (i64 d) []), (17, .pv (i64 x.2.1) []), (153, .pv (i64 n) []), (154, .pv (i64 x.1) [])]) (fun x => [(56, some (.row x.2.2 1 .free false)), (64, some (.row vs 1 .free false)), (79, some (.row eo 1 .free false))]) (0, 0, e) hσ ⟨by simp, by simp; omega, by simp; omega, w, he, hwN, hw, by simp [ev]⟩ ?_
  clear he hσ e
  rintro ⟨i, c, e⟩ st f ⟨s1, s2, s3, ow, s4, s5, s6, s7⟩
  simp only at s1 s2 s3 s4 s7
  have hel : e.length = pre.length + ow.length + z.length := by rw [s4]; simp; omega
  cbv
  refine Ar.lss_ hA (fun h9 => ?_) (fun h9 => ?_)
  · obtain ⟨x, hx⟩ : ∃ x, ow[i.toNat]? = some x := ⟨ow[i.toNat]'(by omega), List.getElem?_eq_getElem _⟩
    obtain ⟨b1, b2, b3⟩ := off_bound s6 hvl hx ⟨hd.1, by omega⟩
    have hvi : v[i.toNat]? = some (lg v i.toNat) := lg_get (by omega)
    obtain ⟨y, hy⟩ : ∃ y, y = lg v i.toNat := ⟨_, rfl⟩
    have hstep := fun t d' c' (ht : t = x - d * y - c) hd' => off_step (t := t) (d := d') (c' := c') s6 hvl s7 hx ⟨hd.1, by omega⟩ s3 (by rw [← hy]; exact ht) hd'
    rw [← hy] at b2 b3 hvi
    have hxe : ∀ k, k = pre.length + i.toNat → e[k]? = some (i64 x) := fun k hk => by rw [s4, List.getElem?_map, hk, win_get (by omega), hx]; rfl
    have hye : ∀ k, k = i.toNat → vs[k]? = some (i64 y) := fun k hk => by rw [hv, List.getElem?_map, hk, hvi]; rfl
    have hse : ∀ d, e.set (pre.length + i.toNat) (i64 d) = (pre ++ (ow.set i.toNat d ++ z)).map i64 := fun d => by rw [s4, ← List.map_set, win_set (by omega)]
    clear hx hvi s4 s7 hy
    cbv
    refine Ar.add_ hA (by omega) (fun k hk => ?_)
    cbv
    repeat' (first
      | (refine Ar.nn_ hA (by omega) ?_; cbv)
      | (refine Ar.toN_ hA (fun _ _ => ?_); cbv)
      | (refine Ar.idx_ hA (x := i64 x) (hxe _ (by omega)) ?_; cbv)
      | (refine Ar.idx_ hA (x := i64 y) (hye _ (by omega)) ?_; cbv))
    refine Ar.mul_ hA ⟨Int.le_trans (by decide) b2, Int.le_trans b3 (by decide)⟩ (fun m0 hm0 => ?_)
    cbv
    rw [← hm0] at b2 b3
    repeat' (first
      | (refine Ar.nn_ hA (by omega) ?_; cbv)
      | (refine Ar.toN_ hA (fun _ _ => ?_); cbv)
      | (refine Ar.idx_ hA (x := i64 x) (hxe _ (by omega)) ?_; cbv)
      | (refine Ar.idx_ hA (x := i64 y) (hye _ (by omega)) ?_; cbv))
    refine Ar.sub_ hA (by omega) (fun t1 ht1 => ?_)
    cbv
    refine Ar.sub_ hA (by omega) (fun t ht => ?_)
    cbv
    refine Ar.lss_ hA (fun h0 => ?_) (fun h0 => ?_)
    · cbv
      refine Ar.neg_ hA (by omega) (fun a1 ha1 => ?_)
      cbv
      refine Ar.add_ hA (by omega) (fun a2 ha2 => ?_)
      cbv
      refine Ar.sub_ hA (by omega) (fun a3 ha3 => ?_)
      cbv
      refine Ar.nz_ hA (by omega) ?_
      cbv
      refine Ar.quo_ hA (by omega) (fun c' hc' => ?_)
      cbv
      refine Ar.mul_ hA (by omega) (fun a4 ha4 => ?_)
      cbv
      refine Ar.add_ hA (by omega) (fun d' hd' => ?_)
      cbv
      obtain ⟨r1, r2, r3⟩ := hstep t d' c' (by omega) (.inl ⟨h0, by rw [hc']; congr 1; omega, by omega⟩)
      refine Ar.add_ hA (by omega) (fun k2 hk2 => ?_)
      cbv
      repeat' (first
        | (refine Ar.nn_ hA (by omega) ?_; cbv)
        | (refine Ar.toN_ hA (fun _ _ => ?_); cbv)
        | (refine Ar.idx_ hA (x := i64 x) (hxe _ (by omega)) ?_; cbv))
      refine Ar.set_ hA (fun e1 he1 => ?_)
      obtain ⟨_, he1', _⟩ := set_get he1 (i := pre.length + i.toNat) (by omega) (by omega)
      clear he1
      cbv
      refine Ar.add_ hA (by omega) (fun i' hi' => ?_)
      cbv
      exact ⟨(i', c', e1), by show (n - i').toNat < (n - i).toNat; omega, ⟨by show 0 ≤ i'; omega, by show i' ≤ n; omega, r3, ow.set i.toNat d', by show e1 = _; rw [he1', hse], by simp [s5], r1, by show ev _ = ev w - d * ev (v.take i'.toNat) + pw i'.toNat * c'; rw [show i'.toNat = i.toNat + 1 by omega]; exact r2⟩, rfl, ⟨rfl, rfl, rfl, rfl, rfl, rfl, rfl, rfl, rfl, rfl, trivial⟩, rfl, rfl, rfl, trivial⟩
    · cbv
      obtain ⟨r1, r2, r3⟩ := hstep t t 0 (by omega) (.inr ⟨h0, rfl, rfl⟩)
      refine Ar.add_ hA (by omega) (fun k2 hk2 => ?_)
      cbv
      repeat' (first
        | (refine Ar.nn_ hA (by omega) ?_; cbv)
        | (refine Ar.toN_ hA (fun _ _ => ?_); cbv)
        | (refine Ar.idx_ hA (x := i64 x) (hxe _ (by omega)) ?_; cbv))
      refine Ar.set_ hA (fun e1 he1 => ?_)
      obtain ⟨_, he1', _⟩ := set_get he1 (i := pre.length + i.toNat) (by omega) (by omega)
      clear he1
      cbv
      refine Ar.add_ hA (by omega) (fun i' hi' => ?_)
      cbv
      exact ⟨(i', 0, e1), by show (n - i').toNat < (n - i).toNat; omega, ⟨by show 0 ≤ i'; omega, by show i' ≤ n; omega, r3, ow.set i.toNat t, by show e1 = _; rw [he1', hse], by simp [s5], r1, by show ev _ = ev w - d * ev (v.take i'.toNat) + pw i'.toNat * 0; rw [show i'.toNat = i.toNat + 1 by omega]; exact r2⟩, rfl, ⟨rfl, rfl, rfl, rfl, rfl, rfl, rfl, rfl, rfl, rfl, trivial⟩, rfl, rfl, rfl, trivial⟩
  · cbv
    have hiN : i.toNat = N := by omega
    rw [hiN, ev_tk_all (by omega)] at s7
    exact hK c e ow _ s3 s4 s5 s6 s7 (by refine ⟨?_, ⟨?_, ?_, ?_, ?_, ?_, ?_, ?_, ?_, trivial⟩, ?_, ?_, ?_, trivial⟩ <;> rfl)

theorem dl_back {A : Ar} (hA : stdA Tryz.prog = A) {σ : St} {K : Ex → St → Prop} {n p j d' tx : Int} {N : Nat} {e eo vs : List PV} {pre y0 z v : List Int} (hn : n.toNat = N ∧ n ≤ 100000 ∧ 0 ≤ n) (hj : 0 ≤ j ∧ j ≤ 100001 ∧ j.toNat = pre.length)
    (he : e = (pre ++ ((y0 ++ [tx]) ++ z)).map i64) (hv : vs = v.map i64) (hy0 : Lim y0) (hvl : Lim v) (hyN : y0.length = N) (hvN : v.length = N)
    (hσ : At 260 [(6, .pv (i64 n) []), (9, .pv (i64 p) []), (10, .own 56 none), (11, .own 64 none), (12, .own 79 none), (13, .pv (i64 j) []), (15, .pv (i64 d') []), (20, .pv (i64 0) []), (208, .pv (i64 n) []), (209, .pv (i64 0) [])] [(56, some (.row e 1 .free false)), (64, some (.row vs 1 .free false)), (79, some (.row eo 1 .free false))] σ)
    (hK : ∀ (c : Int) (e' : List PV) (y : List Int) (σ' : St), (0 ≤ c ∧ c ≤ 1) → e' = (pre ++ ((y ++ [tx]) ++ z)).map i64 → y.length = N → Lim y → ev y = ev y0 + ev v - pw N * c → At 260 [(6, .pv (i64 n) []), (9, .pv (i64 p) []), (10, .own 56 none), (11, .own 64 none), (12, .own 79 none), (13, .pv (i64 j) []), (15, .pv (i64 d') []), (20, .pv (i64 c) [])] [(56, some (.row e' 1 .free false)), (64, some (.row vs 1 .free false)), (79, some (.row eo 1 .free false))] σ' → K (.exit 8) σ') :
    A.loop (fun σ' k => awp A [] (lp Tryz.f148 4) k σ') σ K := by
  refine Ar.loop_ hA (α := Int × Int × List PV) (fun x => (n - x.1).toNat) (fun x => 0 ≤ x.1 ∧ x.1 ≤ n ∧ (0 ≤ x.2.1 ∧ x.2.1 ≤ 1) ∧ ∃ y : List Int, x.2.2 = (pre ++ ((y ++ [tx]) ++ z)).map i64 ∧ y.length = N ∧ Lim y ∧ ev y = ev y0 + ev (v.take x.1.toNat) - pw x.1.toNat * x.2.1) 260 (fun x => [(6, .pv (i64 n) []), (9, .pv (i64 p) []), (10, .own 56 none), (11, .own 64 none), (12, .own 79 none), (13, .pv (i64 j) []), (15, .pv (i64 d') []), (20, .pv (i64 x.2.1) []), (208, .pv (i64 n) []), (209, .pv (i64 x.1) [])]) (fun x => [(56, some (.row x.2.2 1 .free false)), (64, some (.row vs 1 .free false)), (79, some (.row eo 1 .free false))]) (0, 0, e) hσ ⟨by simp, by simp; omega, by simp, y0, he, hyN, hy0, by simp [ev]⟩ ?_
  clear he hσ e
  rintro ⟨i, c, e⟩ st f ⟨s1, s2, s3, y, s4, s5, s6, s7⟩
  simp only at s1 s2 s3 s4 s7
  have hel : e.length = pre.length + (N + 1) + z.length := by rw [s4]; simp; omega
  cbv
  refine Ar.lss_ hA (fun h9 => ?_) (fun h9 => ?_)
  · obtain ⟨x, hx⟩ : ∃ x, y[i.toNat]? = some x := ⟨y[i.toNat]'(by omega), List.getElem?_eq_getElem _⟩
    have hxb := s6.get hx
    have hvi : v[i.toNat]? = some (lg v i.toNat) := lg_get (by omega)
    obtain ⟨yv, hyv⟩ : ∃ y, y = lg v i.toNat := ⟨_, rfl⟩
    have hstep := fun t (ht : t = x + yv + c) => back_step (t := t) s6 hvl s7 hx s3 (by rw [← hyv]; exact ht)
    rw [← hyv] at hvi
    have hyb := hvl.get hvi
    have hxe : ∀ k, k = pre.length + i.toNat → e[k]? = some (i64 x) := fun k hk => by rw [s4, List.getElem?_map, hk, win_get (by simp; omega), List.getElem?_append_left (by omega), hx]; rfl
    have hye : ∀ k, k = i.toNat → vs[k]? = some (i64 yv) := fun k hk => by rw [hv, List.getElem?_map, hk, hvi]; rfl
    have hse : ∀ d, e.set (pre.length + i.toNat) (i64 d) = (pre ++ ((y.set i.toNat d ++ [tx]) ++ z)).map i64 := fun d => by rw [s4, ← List.map_set, win_set (by simp; omega), List.set_append_left _ _ (by omega)]
    clear hx hvi s4 s7 hyv
    cbv
    refine Ar.add_ hA (by omega) (fun k hk => ?_)
    cbv
    repeat' (first
      | (refine Ar.nn_ hA (by omega) ?_; cbv)
      | (refine Ar.toN_ hA (fun _ _ => ?_); cbv)
      | (refine Ar.idx_ hA (x := i64 x) (hxe _ (by omega)) ?_; cbv)
      | (refine Ar.idx_ hA (x := i64 yv) (hye _ (by omega)) ?_; cbv))
    refine Ar.add_ hA (by omega) (fun t1 ht1 => ?_)
    cbv
    refine Ar.add_ hA (by omega) (fun t ht => ?_)
    cbv
    obtain ⟨r1, r2, r3, r4⟩ := hstep t (by omega)
    refine Ar.add_ hA (by omega) (fun k2 hk2 => ?_)
    cbv
    refine Ar.nz_ hA (by omega) ?_
    cbv
    refine Ar.rem_ hA (by omega) (fun dd hdd => ?_)
    cbv
    repeat' (first
      | (refine Ar.nn_ hA (by omega) ?_; cbv)
      | (refine Ar.toN_ hA (fun _ _ => ?_); cbv)
      | (refine Ar.idx_ hA (x := i64 x) (hxe _ (by omega)) ?_; cbv))
    refine Ar.set_ hA (fun e1 he1 => ?_)
    obtain ⟨_, he1', _⟩ := set_get he1 (i := pre.length + i.toNat) (by omega) (by omega)
    clear he1
    cbv
    refine Ar.nz_ hA (by omega) ?_
    cbv
    refine Ar.quo_ hA (by omega) (fun c' hc' => ?_)
    cbv
    refine Ar.add_ hA (by omega) (fun i' hi' => ?_)
    cbv
    rw [← hdd] at r1 r2
    rw [← hc'] at r2 r3
    exact ⟨(i', c', e1), by show (n - i').toNat < (n - i).toNat; omega, ⟨by show 0 ≤ i'; omega, by show i' ≤ n; omega, r3, y.set i.toNat dd, by show e1 = _; rw [he1', hse], by simp [s5], r1, by show ev _ = ev y0 + ev (v.take i'.toNat) - pw i'.toNat * c'; rw [show i'.toNat = i.toNat + 1 by omega]; exact r2⟩, rfl, ⟨rfl, rfl, rfl, rfl, rfl, rfl, rfl, rfl, rfl, rfl, trivial⟩, rfl, rfl, rfl, trivial⟩
  · cbv
    have hiN : i.toNat = N := by omega
    rw [hiN, ev_tk_all (by omega)] at s7
    exact hK c e y _ s3 s4 s5 s6 s7 (by refine ⟨?_, ⟨?_, ?_, ?_, ?_, ?_, ?_, ?_, ?_, trivial⟩, ?_, ?_, ?_, trivial⟩ <;> rfl)

end Go.VAI
