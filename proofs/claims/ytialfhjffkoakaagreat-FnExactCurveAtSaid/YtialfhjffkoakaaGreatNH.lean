/- Division by one limb; shifts of limbs; numbers of machine integers. -/
import Derived.Test.YtialfhjffkoakaaGreatNG
namespace Go.VAI
open Go.Proofs
set_option maxRecDepth 100000
set_option maxHeartbeats 8000000

theorem short_step {l o : List Int} {i : Nat} {d rest x v t : Int} (ho : Lim o) (hd : 0 < d ∧ d < 65536) (hr : 0 ≤ rest ∧ rest < d) (hx : 0 ≤ x ∧ x < 65536) (hv : o[i]? = some v) (hl : l[i]? = some x)
    (he : ev (l.drop (i + 1)) = ev (o.drop (i + 1)) * d + rest) (ht : t = rest * 65536 + x) :
    (0 ≤ t ∧ t ≤ 4294967295) ∧ Lim (o.set i (t / d)) ∧ (0 ≤ t % d ∧ t % d < d) ∧ ev (l.drop i) = ev ((o.set i (t / d)).drop i) * d + t % d := by
  have h1 : i < o.length := (List.getElem?_eq_some_iff.1 hv).1
  have h0 : 0 ≤ t / d := Int.ediv_nonneg (by omega) (by omega)
  have h2 : t / d < 65536 := Int.ediv_lt_of_lt_mul (by omega) (by omega)
  refine ⟨by omega, ho.set ⟨h0, h2⟩, ⟨Int.emod_nonneg _ (by omega), Int.emod_lt_of_pos _ (by omega)⟩, ?_⟩
  have h3 : (o.set i (t / d))[i]? = some (t / d) := by rw [List.getElem?_set_self h1]
  have h4 : (o.set i (t / d)).drop (i + 1) = o.drop (i + 1) := by rw [List.drop_set]; simp
  rw [ev_drop hl, ev_drop h3, h4, he]
  have h5 := Int.mul_ediv_add_emod t d
  rw [Int.add_mul, Int.mul_assoc 65536]
  have h6 : d * (t / d) = t / d * d := Int.mul_comm _ _
  omega

theorem c_impl_divSmall : Callable Tryz.prog 165 := ⟨_, Tryz.func165, rfl, by kernel_rfl⟩
theorem d_impl_divSmall {a c : List PV} {l : List Int} {d r0 : Int} (hes : a = l.map i64) (hl : Lim l) (hb : l.length ≤ 400000) (hd : 0 < d ∧ d < 65536) (hc : Num c (ev l / d)) (hr0 : r0 = ev l % d) : Does Tryz.prog 165 [.sl a, i64 d] (.tup [.pv (.sl c), .pv (i64 r0)]) [] := by
  refine does_of hT hM Tryz.func165 rfl (D := []) (by kernel_rfl) rfl rfl rfl (fun A K hA hK => ?_)
  have hlen : a.length = l.length := by simp [hes]
  cbv
  refine Ar.len_ hA (fun n hn hn' => ?_)
  cbv
  refine Ar.nn_ hA (by omega) ?_
  cbv
  refine Ar.toN_ hA (fun z hz => ?_)
  cbv
  refine Ar.fits_ hA (by omega) ?_
  cbv
  refine Ar.rep_ hA (fun o0 ho0 => ?_)
  cbv
  refine Ar.len_ hA (fun n2 hn2 hn2' => ?_)
  cbv
  refine Ar.sub_ hA (by omega) (fun i0 hi0 => ?_)
  cbv
  refine Ar.loop_ hA (α := Int × Int × List PV) (fun x => (x.1 + 1).toNat) (fun x => -1 ≤ x.1 ∧ x.1 < n ∧ (0 ≤ x.2.1 ∧ x.2.1 < d) ∧ ∃ o : List Int, x.2.2 = o.map i64 ∧ o.length = l.length ∧ Lim o ∧ ev (l.drop (x.1 + 1).toNat) = ev (o.drop (x.1 + 1).toNat) * d + x.2.1) 38 (fun x => [(0, .pv (.sl a) []), (1, .pv (i64 d) []), (6, .own 11 none), (7, .pv (i64 x.2.1) []), (8, .pv (i64 x.1) [])]) (fun x => [(11, some (.row x.2.2 1 .free false))]) (i0, 0, o0) (by refine ⟨?_, ⟨?_, ?_, ?_, ?_, ?_, trivial⟩, ?_, trivial⟩ <;> cbv) ⟨by show -1 ≤ i0; omega, by show i0 < n; omega, by simp; omega, List.replicate z 0, by simp [ho0], by simp; omega, Lim.rep _, by simp only; rw [List.drop_of_length_le (by omega), List.drop_of_length_le (by simp; omega)]; simp [ev]⟩ ?_
  rintro ⟨i, rest, e⟩ st f ⟨g1, g2, g3, o, g4, g5, g6, g7⟩
  simp only at g1 g2 g3 g4 g7
  cbv
  refine Ar.geq_ hA (fun h => ?_) (fun h => ?_)
  · cbv
    refine Ar.mul_ hA (by omega) (fun t1 ht1 => ?_)
    cbv
    refine Ar.nn_ hA (by omega) ?_
    cbv
    refine Ar.toN_ hA (fun j hj => ?_)
    cbv
    obtain ⟨x, hx⟩ : ∃ p, l[j]? = some p := ⟨l[j]'(by omega), List.getElem?_eq_getElem _⟩
    refine Ar.idx_ hA (x := i64 x) (by rw [hes, List.getElem?_map, hx]; rfl) ?_
    cbv
    have hxb := hl.get hx
    refine Ar.add_ hA (by omega) (fun t ht => ?_)
    cbv
    obtain ⟨v, hv⟩ : ∃ v, o[i.toNat]? = some v := ⟨o[i.toNat]'(by omega), List.getElem?_eq_getElem _⟩
    have hv' : ∀ j, j = i.toNat → e[j]? = some (i64 v) := fun j hj => by rw [hj, g4, List.getElem?_map, hv]; rfl
    obtain ⟨s1, s2, s3, s4⟩ := short_step g6 hd g3 hxb hv (show l[i.toNat]? = some x by rw [show i.toNat = j by omega]; exact hx) (by rw [show i.toNat + 1 = (i + 1).toNat by omega]; exact g7) (by omega : t = rest * 65536 + x)
    refine Ar.nz_ hA (by omega) ?_
    cbv
    refine Ar.quo_ hA (by omega) (fun q hq => ?_)
    cbv
    repeat' (first
      | (refine Ar.nn_ hA (by omega) ?_; cbv)
      | (refine Ar.toN_ hA (fun _ _ => ?_); cbv)
      | (refine Ar.idx_ hA (x := i64 v) (hv' _ (by omega)) ?_; cbv))
    refine Ar.set_ hA (fun e1 he1 => ?_)
    obtain ⟨_, he1', _⟩ := set_get he1 (i := i.toNat) (by omega) (by rw [g4]; simp; omega)
    clear he1
    cbv
    refine Ar.nz_ hA (by omega) ?_
    cbv
    refine Ar.rem_ hA (by omega) (fun r hr => ?_)
    cbv
    refine Ar.sub_ hA (by omega) (fun i' hi' => ?_)
    cbv
    rw [← hq] at s2 s4
    rw [← hr] at s3 s4
    exact ⟨(i', r, e1), by show (i' + 1).toNat < (i + 1).toNat; omega, ⟨by show -1 ≤ i'; omega, by show i' < n; omega, s3, o.set i.toNat q, by show e1 = _; rw [he1', g4, List.map_set], by simp [g5], s2, by show ev (l.drop (i' + 1).toNat) = ev ((o.set i.toNat q).drop (i' + 1).toNat) * d + r; rw [show (i' + 1).toNat = i.toNat by omega]; exact s4⟩, rfl, ⟨rfl, rfl, rfl, rfl, rfl, trivial⟩, rfl, trivial⟩
  · rw [show (i + 1).toNat = 0 by omega, List.drop_zero, List.drop_zero] at g7
    obtain ⟨q1, q2⟩ := div_unique g7 g3.1 g3.2
    rw [q1] at hc
    cbv
    refine Ar.call_ hA c_impl_cut (d_impl_cut g4 g6 (by omega) hc) rfl ?_
    cbv
    exact hK _ _ (by rw [hr0, q2]) rfl

theorem c_spec_l1Short : Callable Tryz.prog 155 := ⟨_, Tryz.func155, rfl, by kernel_rfl⟩
theorem d_spec_l1Short {a c c2 : List PV} {l : List Int} {d : Int} (hes : a = l.map i64) (hl : Lim l) (hb : l.length ≤ 400000) (hd : 0 < d ∧ d < 65536) (hc : Num c (ev l / d)) (hc2 : Num c2 (ev l % d)) : Does Tryz.prog 155 [.sl a, i64 d] (.tup [.row c 1 .free, .row c2 1 .free]) [] := by
  refine does_of hT hM Tryz.func155 rfl (D := []) (by kernel_rfl) rfl rfl rfl (fun A K hA hK => ?_)
  have hlen : a.length = l.length := by simp [hes]
  cbv
  refine Ar.len_ hA (fun n hn hn' => ?_)
  cbv
  refine Ar.nn_ hA (by omega) ?_
  cbv
  refine Ar.toN_ hA (fun z hz => ?_)
  cbv
  refine Ar.fits_ hA (by omega) ?_
  cbv
  refine Ar.rep_ hA (fun o0 ho0 => ?_)
  cbv
  refine Ar.len_ hA (fun n2 hn2 hn2' => ?_)
  cbv
  refine Ar.sub_ hA (by omega) (fun i0 hi0 => ?_)
  cbv
  refine Ar.loop_ hA (α := Int × Int × List PV) (fun x => (x.1 + 1).toNat) (fun x => -1 ≤ x.1 ∧ x.1 < n ∧ (0 ≤ x.2.1 ∧ x.2.1 < d) ∧ ∃ o : List Int, x.2.2 = o.map i64 ∧ o.length = l.length ∧ Lim o ∧ ev (l.drop (x.1 + 1).toNat) = ev (o.drop (x.1 + 1).toNat) * d + x.2.1) 41 (fun x => [(0, .pv (.sl a) []), (1, .pv (i64 d) []), (6, .own 12 none), (7, .pv (i64 x.2.1) []), (8, .pv (i64 x.1) [])]) (fun x => [(12, some (.row x.2.2 1 .free false))]) (i0, 0, o0) (by refine ⟨?_, ⟨?_, ?_, ?_, ?_, ?_, trivial⟩, ?_, trivial⟩ <;> cbv) ⟨by show -1 ≤ i0; omega, by show i0 < n; omega, by simp; omega, List.replicate z 0, by simp [ho0], by simp; omega, Lim.rep _, by simp only; rw [List.drop_of_length_le (by omega), List.drop_of_length_le (by simp; omega)]; simp [ev]⟩ ?_
  rintro ⟨i, rest, e⟩ st f ⟨g1, g2, g3, o, g4, g5, g6, g7⟩
  simp only at g1 g2 g3 g4 g7
  cbv
  refine Ar.geq_ hA (fun h => ?_) (fun h => ?_)
  · cbv
    refine Ar.mul_ hA (by omega) (fun t1 ht1 => ?_)
    cbv
    refine Ar.nn_ hA (by omega) ?_
    cbv
    refine Ar.toN_ hA (fun j hj => ?_)
    cbv
    obtain ⟨x, hx⟩ : ∃ p, l[j]? = some p := ⟨l[j]'(by omega), List.getElem?_eq_getElem _⟩
    refine Ar.idx_ hA (x := i64 x) (by rw [hes, List.getElem?_map, hx]; rfl) ?_
    cbv
    have hxb := hl.get hx
    refine Ar.add_ hA (by omega) (fun t ht => ?_)
    cbv
    obtain ⟨v, hv⟩ : ∃ v, o[i.toNat]? = some v := ⟨o[i.toNat]'(by omega), List.getElem?_eq_getElem _⟩
    have hv' : ∀ j, j = i.toNat → e[j]? = some (i64 v) := fun j hj => by rw [hj, g4, List.getElem?_map, hv]; rfl
    obtain ⟨s1, s2, s3, s4⟩ := short_step g6 hd g3 hxb hv (show l[i.toNat]? = some x by rw [show i.toNat = j by omega]; exact hx) (by rw [show i.toNat + 1 = (i + 1).toNat by omega]; exact g7) (by omega : t = rest * 65536 + x)
    refine Ar.nz_ hA (by omega) ?_
    cbv
    refine Ar.quo_ hA (by omega) (fun q hq => ?_)
    cbv
    repeat' (first
      | (refine Ar.nn_ hA (by omega) ?_; cbv)
      | (refine Ar.toN_ hA (fun _ _ => ?_); cbv)
      | (refine Ar.idx_ hA (x := i64 v) (hv' _ (by omega)) ?_; cbv))
    refine Ar.set_ hA (fun e1 he1 => ?_)
    obtain ⟨_, he1', _⟩ := set_get he1 (i := i.toNat) (by omega) (by rw [g4]; simp; omega)
    clear he1
    cbv
    refine Ar.nz_ hA (by omega) ?_
    cbv
    refine Ar.rem_ hA (by omega) (fun r hr => ?_)
    cbv
    refine Ar.sub_ hA (by omega) (fun i' hi' => ?_)
    cbv
    rw [← hq] at s2 s4
    rw [← hr] at s3 s4
    exact ⟨(i', r, e1), by show (i' + 1).toNat < (i + 1).toNat; omega, ⟨by show -1 ≤ i'; omega, by show i' < n; omega, s3, o.set i.toNat q, by show e1 = _; rw [he1', g4, List.map_set], by simp [g5], s2, by show ev (l.drop (i' + 1).toNat) = ev ((o.set i.toNat q).drop (i' + 1).toNat) * d + r; rw [show (i' + 1).toNat = i.toNat by omega]; exact s4⟩, rfl, ⟨rfl, rfl, rfl, rfl, rfl, trivial⟩, rfl, trivial⟩
  · rw [show (i + 1).toNat = 0 by omega, List.drop_zero, List.drop_zero] at g7
    obtain ⟨q1, q2⟩ := div_unique g7 g3.1 g3.2
    rw [q1] at hc
    rw [q2] at hc2
    cbv
    refine Ar.call_ hA c_spec_l1Cut (d_spec_l1Cut g4 g6 (by omega) hc) rfl ?_
    cbv
    obtain ⟨e2, he2⟩ : ∃ e2, e2 = [i64 rest] := ⟨_, rfl⟩
    refine Ar.call_ hA c_spec_l1Cut (d_spec_l1Cut (l := [rest]) he2 (Lim.one.2 (by omega)) (by simp) (by rw [ev_one]; exact hc2)) (by rw [he2]) ?_
    cbv
    exact hK _ _ rfl rfl

/-! ### Shifts -/

section rules
variable {P : Program} {A : Ar} (hA : stdA P = A)
include hA
theorem Ar.shl_ {a b p : Int} {K : Int → Prop} (hp : p = 2 ^ b.toNat) (hb : b ≤ 63) (h1 : 0 ≤ a * p ∧ a * p ≤ 9223372036854775807) (h : ∀ r, r = a * p → K r) : A.int (A.shift .shl .i64 a b) K := by
  subst hA
  refine h _ ?_
  show IntKind.i64.wrap (a * 2 ^ (min b.toNat IntKind.i64.bits)) = _
  rw [Nat.min_eq_left (by show b.toNat ≤ 64; omega), ← hp]
  exact wrap_i64 (by omega) (by omega)
theorem Ar.shr_ {a b p : Int} {K : Int → Prop} (hp : p = 2 ^ b.toNat) (hb : b ≤ 63) (h : ∀ r, r = a / p → K r) : A.int (A.shift .shr .i64 a b) K := by
  subst hA
  refine h _ ?_
  show a.fdiv (2 ^ (min b.toNat IntKind.i64.bits)) = _
  rw [Nat.min_eq_left (by show b.toNat ≤ 64; omega), hp]
  exact Int.fdiv_eq_ediv_of_nonneg _ (Int.le_of_lt (Int.pow_pos (by omega)))
theorem Ar.or_ {a b : Int} (k m : Nat) {K : Int → Prop} (ha : 0 ≤ a ∧ a.toNat < 2 ^ k) (hb : 0 ≤ b ∧ b.toNat = 2 ^ k * m) (h1 : a + b ≤ 9223372036854775807) (h : ∀ r, r = a + b → K r) : A.int (A.arith .or .i64 a b) K := by
  subst hA
  refine h _ ?_
  show IntKind.i64.wrap ((BitVec.ofInt 64 a ||| BitVec.ofInt 64 b).toNat : Int) = _
  have e1 : (BitVec.ofInt 64 a).toNat = a.toNat := by
    rw [BitVec.toNat_ofInt]; omega
  have e2 : (BitVec.ofInt 64 b).toNat = b.toNat := by
    rw [BitVec.toNat_ofInt]; omega
  rw [BitVec.toNat_or, e1, e2, hb.2, Nat.or_comm, ← Nat.two_pow_add_eq_or_of_lt ha.2, ← hb.2]
  rw [wrap_i64 (by omega) (by omega)]
  omega
end rules

def isP (p b : Int) : Prop := 0 ≤ b ∧ b ≤ 15 ∧ p = 2 ^ b.toNat
theorem isP.cases {p b : Int} (h : isP p b) : p = 1 ∨ p = 2 ∨ p = 4 ∨ p = 8 ∨ p = 16 ∨ p = 32 ∨ p = 64 ∨ p = 128 ∨ p = 256 ∨ p = 512 ∨ p = 1024 ∨ p = 2048 ∨ p = 4096 ∨ p = 8192 ∨ p = 16384 ∨ p = 32768 := by
  obtain ⟨h1, h2, h3⟩ := h
  have : b = 0 ∨ b = 1 ∨ b = 2 ∨ b = 3 ∨ b = 4 ∨ b = 5 ∨ b = 6 ∨ b = 7 ∨ b = 8 ∨ b = 9 ∨ b = 10 ∨ b = 11 ∨ b = 12 ∨ b = 13 ∨ b = 14 ∨ b = 15 := by omega
  rcases this with h | h | h | h | h | h | h | h | h | h | h | h | h | h | h | h <;> (subst h; simp at h3; omega)
theorem isP.pos {p b : Int} (h : isP p b) : 1 ≤ p ∧ p ≤ 32768 := by have := h.cases; omega

theorem lim_zero {o : List Int} {p : Nat} {v : Int} (ho : Lim o) (hv : o[p]? = some v) : pw p * v ≤ ev o := by
  have h1 : p < o.length := (List.getElem?_eq_some_iff.1 hv).1
  rw [ev_split o p (by omega), ev_drop hv]
  have h2 := (ho.take p).bound
  have h3 := (ho.drop (p + 1)).bound
  have : pw p * v ≤ pw p * (v + 65536 * ev (o.drop (p + 1))) := Int.mul_le_mul_of_nonneg_left (by omega) (Int.le_of_lt (pw_pos p))
  omega
theorem lim_lt {o : List Int} {p : Nat} {v M : Int} (ho : Lim o) (hv : o[p]? = some v) (h : ev o < M * pw p) : v < M := by
  have := lim_zero ho hv
  exact Int.lt_of_mul_lt_mul_left (a := pw p) (by rw [Int.mul_comm (pw p) M]; omega) (Int.le_of_lt (pw_pos p))

/-- A row of k limbs of the number n. -/
def Pad (es : List PV) (n : Int) (k : Nat) : Prop := ∃ l : List Int, es = l.map i64 ∧ Lim l ∧ l.length = k ∧ ev l = n
theorem Pad.inj {a b : List PV} {n : Int} {k : Nat} (h : Pad a n k) (h' : Pad b n k) : a = b := by
  obtain ⟨l, rfl, h1, h2, h3⟩ := h
  obtain ⟨m, rfl, h4, h5, h6⟩ := h'
  rw [Lim.inj h1 h4 (by omega) (by omega)]
theorem pad_ex {n : Int} {k : Nat} (h : 0 ≤ n ∧ n < pw k) : ∃ l, Lim l ∧ l.length = k ∧ ev l = n := by
  obtain ⟨l, h1, h2⟩ := can_ex n.toNat n h.1 (by omega)
  have := h1.len_le (n := k) (by omega)
  exact ⟨l ++ List.replicate (k - l.length) 0, Lim.app.2 ⟨h1.1, Lim.rep _⟩, by simp; omega, by rw [ev_app, ev_rep]; omega⟩
theorem Pad.ex {n : Int} {k : Nat} (h : 0 ≤ n ∧ n < pw k) : ∃ es, Pad es n k := by
  obtain ⟨l, h1, h2, h3⟩ := pad_ex h
  exact ⟨_, l, rfl, h1, h2, h3⟩
theorem Pad.len {es : List PV} {n : Int} {k : Nat} (h : Pad es n k) : es.length = k := by
  obtain ⟨l, rfl, _, h, _⟩ := h; simpa using h

theorem up_arith {p b x v n : Int} (hp : isP p b) (hx : 0 ≤ x ∧ x < 65536) (hv : 0 ≤ v ∧ v < p) (hn : n = x * p) : (0 ≤ n ∧ n ≤ 4294967295) ∧ (∃ m : Nat, 0 ≤ n % 65536 ∧ (n % 65536).toNat = 2 ^ b.toNat * m) ∧ v.toNat < 2 ^ b.toNat ∧ v + n % 65536 < 65536 ∧ 0 ≤ n / 65536 ∧ n / 65536 < 65536 := by
  have h3 : ((2 ^ b.toNat : Nat) : Int) = p := by rw [hp.2.2]; push_cast; rfl
  obtain ⟨Q, hQ⟩ : ∃ Q, Q = 2 ^ b.toNat := ⟨_, rfl⟩
  rw [← hQ] at h3 ⊢
  have hc := hp.cases
  have hQ' : Q = p.toNat := by omega
  rw [hQ']
  clear hQ hQ' h3 hp
  refine ⟨?_, ⟨(n % 65536).toNat / p.toNat, ?_⟩, ?_, ?_, ?_, ?_⟩
  all_goals
    rcases hc with h | h | h | h | h | h | h | h | h | h | h | h | h | h | h | h <;> (subst h; subst hn; (try simp only [Int.reduceToNat]); omega)

end Go.VAI
