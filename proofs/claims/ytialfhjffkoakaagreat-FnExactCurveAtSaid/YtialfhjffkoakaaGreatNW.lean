/- Fractions and points by their limbs in the one valid form; new memory for them; their length. -/
import Derived.Test.YtialfhjffkoakaaGreatIM
import Derived.Test.YtialfhjffkoakaaGreatCU
namespace Go.VAI
open Go.Proofs
set_option maxRecDepth 100000
set_option maxHeartbeats 8000000

/-! ### The one valid form -/

def limF : Nat → Int → List Int
  | 0, _ => []
  | k + 1, n => if n ≤ 0 then [] else n % 65536 :: limF k (n / 65536)
theorem limF_ok : ∀ (k : Nat) (n : Int), 0 ≤ n → n ≤ k → Can (limF k n) ∧ ev (limF k n) = n
  | 0, n, h1, h2 => ⟨.nil, by simp only [limF, ev]; omega⟩
  | k + 1, n, h1, h2 => by
    simp only [limF]
    split
    · exact ⟨.nil, by simp only [ev]; omega⟩
    · obtain ⟨h3, h4⟩ := limF_ok k (n / 65536) (by omega) (by omega)
      refine ⟨⟨Lim.cons.2 ⟨by omega, h3.1⟩, fun x hx => ?_⟩, by simp only [ev]; omega⟩
      cases hl : limF k (n / 65536) with
      | nil =>
        rw [hl] at hx h4
        simp at hx
        simp [ev] at h4
        omega
      | cons y t =>
        rw [hl, List.getLast?_cons_cons, ← hl] at hx
        exact h3.2 x hx
def canF (n : Int) : List Int := limF n.toNat n
theorem canF_ok {n : Int} (h : 0 ≤ n) : Can (canF n) ∧ ev (canF n) = n := limF_ok _ _ h (by omega)
theorem canF_num {n : Int} (h : 0 ≤ n) : Num ((canF n).map i64) n := Num.of (canF_ok h).1 (canF_ok h).2
def b4 (q : Rat) : R4 := ((decide (q.num < 0), canF (iabs q.num)), (false, canF (q.den : Int)))
def b8 (p : Rat × Rat) : R8 := (b4 p.1, b4 p.2)
theorem b4_ok (q : Rat) : RatP (b4 q).1.1 ((b4 q).1.2.map i64) (b4 q).2.1 ((b4 q).2.2.map i64) q :=
  ⟨⟨canF_num (iabs_nonneg _), rfl⟩, big_pos (canF_num (by omega))⟩
theorem b4_of {r : R4} {q : Rat} (h : RatP r.1.1 (r.1.2.map i64) r.2.1 (r.2.2.map i64) q) : r = b4 q := by
  obtain ⟨⟨s, l⟩, t, m⟩ := r
  obtain ⟨h1, h2, h3, h4⟩ := h.inj (b4_ok q)
  simp only at h1 h2 h3 h4
  rw [h1, map_i64_inj h2, h3, map_i64_inj h4]
theorem b4_len {q : Rat} {k : Nat} (h : Sz k q) : (b4 q).1.2.length ≤ k ∧ (b4 q).2.2.length ≤ k := by
  have := (b4_ok q).len h
  simpa using this
theorem b4_inj {p q : Rat} (h : b4 p = b4 q) : p = q := by
  have h1 := b4_ok p
  have h2 := b4_ok q
  rw [h] at h1
  obtain ⟨⟨a1, a2⟩, a3, _⟩ := h1
  obtain ⟨⟨c1, c2⟩, c3, _⟩ := h2
  have e : ∀ {a : List PV} {x y : Int}, Num a x → Num a y → x = y := fun hx hy => by
    obtain ⟨l, rfl, _, rfl⟩ := hx
    exact (hy.lims).2
  have e1 := e a1 c1
  have e2 := e a3 c3
  have hn : p.num = q.num := by
    have : decide (p.num < 0) = decide (q.num < 0) := by rw [← a2, ← c2]
    rw [decide_eq_decide] at this
    unfold iabs at e1
    (repeat' split at e1) <;> omega
  have hd : p.den = q.den := by
    rw [iabs_of (by omega), iabs_of (by omega)] at e2; omega
  exact Rat.ext hn hd
theorem b4_good {r : R4} {k : Nat} (h : goodR r = true) (hs : shortR k r = true) : ∃ q, r = b4 q ∧ Sz k q := by
  obtain ⟨q, h1, h2⟩ := goodR_rat h hs
  exact ⟨q, b4_of h1, h2⟩
theorem b8_pt {k : Nat} {r : R8} (h : isPt k r = true) : ∃ p, r = b8 p ∧ Sz k p.1 ∧ Sz k p.2 := by
  unfold isPt at h
  simp only [Bool.and_eq_true] at h
  obtain ⟨x, hx, hx'⟩ := b4_good h.1.1.1 h.1.2
  obtain ⟨y, hy, hy'⟩ := b4_good h.1.1.2 h.2
  exact ⟨(x, y), by obtain ⟨r1, r2⟩ := r; simp only at hx hy; rw [hx, hy]; rfl, hx', hy'⟩
abbrev Szp (k : Nat) (p : Rat × Rat) : Prop := Sz k p.1 ∧ Sz k p.2
theorem b8_all {k : Nat} : ∀ {l : List R8}, l.all (isPt k) = true → ∃ ps : List (Rat × Rat), l = ps.map b8 ∧ ∀ p ∈ ps, Szp k p
  | [], _ => ⟨[], rfl, by simp⟩
  | r :: l, h => by
    simp only [List.all_cons, Bool.and_eq_true] at h
    obtain ⟨p, h1, h2⟩ := b8_pt h.1
    obtain ⟨ps, h3, h4⟩ := b8_all h.2
    exact ⟨p :: ps, by rw [h1, h3]; rfl, fun q hq => (List.mem_cons.1 hq).elim (fun e => by rw [e]; exact h2) (h4 q)⟩
theorem b8_inj {p q : Rat × Rat} (h : b8 p = b8 q) : p = q := by
  obtain ⟨h1, h2⟩ := Prod.mk.inj h
  exact Prod.ext (b4_inj h1) (b4_inj h2)
theorem b8_len {p : Rat × Rat} {k : Nat} (h : Szp k p) : len8 k (b8 p) := ⟨b4_len h.1, b4_len h.2⟩
/-- A point as a value. -/
def p8 (p : Rat × Rat) : PV := r8pv (b8 p)
theorem p8_ex (p : Rat × Rat) : ∃ s1 a1 t1 b1 s2 a2 t2 b2, p8 p = ppv s1 a1 t1 b1 s2 a2 t2 b2 ∧ RatP s1 a1 t1 b1 p.1 ∧ RatP s2 a2 t2 b2 p.2 :=
  ⟨_, _, _, _, _, _, _, _, rfl, b4_ok _, b4_ok _⟩
theorem p8_eq {s1 t1 s2 t2 : Bool} {a1 b1 a2 b2 : List PV} {p : Rat × Rat} (h1 : RatP s1 a1 t1 b1 p.1) (h2 : RatP s2 a2 t2 b2 p.2) : p8 p = ppv s1 a1 t1 b1 s2 a2 t2 b2 := by
  obtain ⟨e1, e2, e3, e4⟩ := h1.inj (b4_ok _)
  obtain ⟨e5, e6, e7, e8⟩ := h2.inj (b4_ok _)
  rw [e1, e2, e3, e4, e5, e6, e7, e8]; rfl
theorem RatP.lims {s t : Bool} {a b : List PV} {q : Rat} (h : RatP s a t b q) : a = (b4 q).1.2.map i64 ∧ b = (b4 q).2.2.map i64 ∧ s = (b4 q).1.1 ∧ t = (b4 q).2.1 := by
  obtain ⟨e1, e2, e3, e4⟩ := h.inj (b4_ok _)
  exact ⟨e2, e4, e1, e3⟩
/-- Is it long? -/
def fits (k : Nat) (q : Rat) : Bool := shortR k (b4 q)
theorem fits_iff {k : Nat} {q : Rat} : fits k q = true ↔ Sz k q := by
  unfold fits shortR
  simp only [Bool.and_eq_true, decide_eq_true_eq]
  refine ⟨fun ⟨h1, h2⟩ => ⟨?_, ?_⟩, fun h => b4_len h⟩
  · have := canF_ok (iabs_nonneg q.num)
    have := pw40 this.1.1 h1
    rw [(canF_ok (iabs_nonneg q.num)).2] at this; exact this
  · have := canF_ok (n := (q.den : Int)) (by omega)
    have := pw40 this.1.1 h2
    rw [(canF_ok (n := (q.den : Int)) (by omega)).2] at this; exact this

/-! ### Results told otherwise -/

theorem Does.mapR {P : Program} {f : FuncId} {args : List PV} {rs rs' : RS} {outs : List PV} (h : Does P f args rs outs) (hr : ∀ w V ok v N, RClS w V ok rs v N → RClS w V ok rs' v N) : Does P f args rs' outs := by
  intro w vs Fs ha
  refine Calls.mono (h w vs Fs ha) (fun e w' => ?_)
  rintro ⟨v, rfl, hp⟩
  refine ⟨v, rfl, ?_⟩
  obtain ⟨N, n1, n2, n3⟩ := hp.res
  exact { hp with res := ⟨N, n1, n2, hr _ _ _ _ _ n3⟩ }
/-- No row is a row of none. -/
def nz1 : RS → RS
  | .pv (.val (.slice none 0 0)) => .row [] 1 .free
  | r => r
def nz2 : RS → RS
  | .ag ls => .ag (ls.map nz1)
  | r => r
theorem nz1_ok {w : World} {ok : Nat → Prop} {r : RS} {v : Value} {N : List Nat} (h : RCl1 w ok r v N) : RCl1 w ok (nz1 r) v N := by
  unfold nz1
  split
  · obtain ⟨h1, F, h2, _⟩ := h
    cases h2 with
    | val _ _ => exact .inr (.inl ⟨h1, rfl, none, rfl⟩)
  · exact h
theorem nzl_ok {w : World} {ok : Nat → Prop} : ∀ {ls : List RS} {vs : List Value} {N : List Nat}, RAll (RCl1 w ok) ls vs N → RAll (RCl1 w ok) (ls.map nz1) vs N
  | _, _, _, .nil => .nil
  | _, _, _, .cons h t => .cons (nz1_ok h) (nzl_ok t)
theorem nz2_ok {w : World} {ok : Nat → Prop} {r : RS} {v : Value} {N : List Nat} (h : RCl2 w ok r v N) : RCl2 w ok (nz2 r) v N := by
  unfold nz2
  split
  · obtain ⟨cs, rfl, h⟩ := h
    exact ⟨cs, rfl, nzl_ok h⟩
  · exact h
theorem nzt_ok {w : World} {ok : Nat → Prop} : ∀ {ls : List RS} {vs : List Value} {N : List Nat}, RAll (RCl2 w ok) ls vs N → RAll (RCl2 w ok) (ls.map nz2) vs N
  | _, _, _, .nil => .nil
  | _, _, _, .cons h t => .cons (nz2_ok h) (nzt_ok t)
theorem Does.nr {P : Program} {f : FuncId} {args : List PV} {ls : List RS} {outs : List PV} (h : Does P f args (.tup ls) outs) : Does P f args (.tup (ls.map nz2)) outs :=
  h.mapR fun _ _ _ _ _ ⟨cs, e, k⟩ => ⟨cs, e, nzt_ok k⟩
/-- A row of none has its own rows below. -/
def dr1 (z : Nat) (zs : List Nat) : RS → RS
  | .row [] sz .free => .row [] sz (.deep z zs)
  | r => r
theorem dr1_ok {z : Nat} {zs : List Nat} {w : World} {ok : Nat → Prop} {r : RS} {v : Value} {N : List Nat} (h : RCl2 w ok r v N) : RCl2 w ok (dr1 z zs r) v N := by
  unfold dr1
  split
  · rcases h with ⟨b, c, e, cap, F, rfl, rfl, h3, h4, h5, h6, h7, _, _, h8⟩ | h | ⟨_, _, h, _⟩
    · exact .inr (.inr ⟨z, zs, rfl, b, c, e, cap, [], rfl, rfl, h3, h4, h5, h6, by simp, rfl⟩)
    · exact .inr (.inl h)
    · cases h
  · exact h
theorem drt_ok {z : Nat} {zs : List Nat} {w : World} {ok : Nat → Prop} : ∀ {ls : List RS} {vs : List Value} {N : List Nat}, RAll (RCl2 w ok) ls vs N → RAll (RCl2 w ok) (ls.map (dr1 z zs)) vs N
  | _, _, _, .nil => .nil
  | _, _, _, .cons h t => .cons (dr1_ok h) (drt_ok t)
theorem Does.dr {P : Program} {f : FuncId} {args : List PV} {ls : List RS} {outs : List PV} (z : Nat) (zs : List Nat) (h : Does P f args (.tup ls) outs) : Does P f args (.tup (ls.map (dr1 z zs))) outs :=
  h.mapR fun _ _ _ _ _ ⟨cs, e, k⟩ => ⟨cs, e, drt_ok k⟩

/-! ### New memory -/

theorem Big.self {s : Bool} {a : List PV} {x : Int} (h : Big s a x) : s = (s && decide (0 < iabs x)) := by
  rw [h.2]
  unfold iabs
  by_cases h0 : x < 0
  · rw [decide_eq_true h0]; simp; split <;> omega
  · rw [decide_eq_false h0]; rfl

theorem c_impl_ownRat : Callable Tryz.prog 127 := ⟨_, Tryz.func127, rfl, by kernel_rfl⟩
theorem d_impl_ownRat {s t : Bool} {a b : List PV} {q : Rat} {k : Nat} (hq : RatP s a t b q) (hk : Sz k q) (hb : k ≤ 90000) : Does Tryz.prog 127 [rpv s a t b] (rrs s a t b) [] := by
  refine does_of hT hM Tryz.func127 rfl (D := []) (by kernel_rfl) rfl rfl rfl (fun A K hA hK => ?_)
  have hl := hq.len hk
  have d1 := bigOf_num (g := s) (s := s) hq.1.1 (by omega) hq.1.self
  have hf := (hq.2.pos (by omega)).1
  subst hf
  have d2 := bigOf_num (g := false) (s := false) (hq.2.pos (by omega)).2 (by omega) rfl
  clear hq hk hl
  cbv
  repeat' (first
    | (refine Ar.notT_ hA ?_; cbv)
    | (refine Ar.notF_ hA ?_; cbv)
    | (refine Ar.call_ hA c_impl_bigOf d1 rfl ?_; cbv)
    | (refine Ar.call_ hA c_impl_bigOf d2 rfl ?_; cbv))
  exact hK _ _ rfl rfl

theorem c_impl_ownRPt : Callable Tryz.prog 96 := ⟨_, Tryz.func96, rfl, by kernel_rfl⟩
theorem d_impl_ownRPt {s1 t1 s2 t2 : Bool} {a1 b1 a2 b2 : List PV} {p : Rat × Rat} {k : Nat} (h1 : RatP s1 a1 t1 b1 p.1) (h2 : RatP s2 a2 t2 b2 p.2) (hk : Szp k p) (hb : k ≤ 90000) : Does Tryz.prog 96 [ppv s1 a1 t1 b1 s2 a2 t2 b2] (prs s1 a1 t1 b1 s2 a2 t2 b2) [] := by
  refine does_of hT hM Tryz.func96 rfl (D := []) (by kernel_rfl) rfl rfl rfl (fun A K hA hK => ?_)
  have d1 := d_impl_ownRat h1 hk.1 hb
  have d2 := d_impl_ownRat h2 hk.2 hb
  clear h1 h2 hk
  cbv
  repeat' (first
    | (refine Ar.notT_ hA ?_; cbv)
    | (refine Ar.notF_ hA ?_; cbv)
    | (refine Ar.call_ hA c_impl_ownRat d1 rfl ?_; cbv)
    | (refine Ar.call_ hA c_impl_ownRat d2 rfl ?_; cbv))
  exact hK _ _ rfl rfl

theorem c_impl_ownRPts : Callable Tryz.prog 66 := ⟨_, Tryz.func66, rfl, by kernel_rfl⟩
theorem d_impl_ownRPts {es : List PV} {l : List (Rat × Rat)} {k : Nat} (hes : es = l.map p8) (hb : l.length ≤ 100000) (hk : ∀ p ∈ l, Szp k p) (hkb : k ≤ 90000) : Does Tryz.prog 66 [.sl es] (.row es 8 (.deep 1 [])) [] := by
  refine does_of hT hM Tryz.func66 rfl (D := []) (by kernel_rfl) rfl rfl rfl (fun A K hA hK => ?_)
  have hlen : es.length = l.length := by simp [hes]
  cbv
  refine Ar.len_ hA (fun n hn hn' => ?_)
  cbv
  refine Ar.loop_ hA (α := Int × List PV) (fun x => (n - x.1).toNat) (fun x => 0 ≤ x.1 ∧ x.1 ≤ n ∧ x.2 = es.take x.1.toNat) 20 (fun x => [(3, .own 6 none), (7, .pv (.sl es) []), (8, .pv (i64 n) []), (9, .pv (i64 x.1) [])]) (fun x => [(6, some (.row x.2 8 (.deep 1 []) false))]) (0, []) ⟨rfl, ⟨rfl, rfl, rfl, rfl, trivial⟩, rfl, trivial⟩ ⟨by show (0 : Int) ≤ 0; omega, by show 0 ≤ n; omega, by simp⟩ ?_
  rintro ⟨i, r⟩ s f ⟨h1, h2, h3⟩
  simp only at h1 h2 h3
  cbv
  refine Ar.lss_ hA (fun h => ?_) (fun h => ?_)
  · cbv
    refine Ar.nn_ hA (by omega) ?_
    cbv
    refine Ar.toN_ hA (fun j hj => ?_)
    cbv
    obtain ⟨p, hp⟩ : ∃ p, l[j]? = some p := ⟨l[j]'(by omega), List.getElem?_eq_getElem _⟩
    have hkp := hk _ (List.mem_of_getElem? hp)
    obtain ⟨s1, a1, t1, b1, s2, a2, t2, b2, hpe, q1, q2⟩ := p8_ex p
    have hx : es[j]? = some (ppv s1 a1 t1 b1 s2 a2 t2 b2) := by rw [hes, List.getElem?_map, hp, ← hpe]; rfl
    have d := d_impl_ownRPt q1 q2 hkp hkb
    have hstep : es.take (i + 1).toNat = r ++ [ppv s1 a1 t1 b1 s2 a2 t2 b2] := by
      rw [show (i + 1).toNat = j + 1 by omega, List.take_add_one, hx, h3, hj]; rfl
    have hrl : r.length ≤ 100000 := by rw [h3]; simp; omega
    clear hpe q1 q2 hes hkp hp h3
    refine Ar.idx_ hA hx ?_
    cbv
    refine Ar.call_ hA c_impl_ownRPt d rfl ?_
    cbv
    refine Ar.app_ hA (fun r' hr' => ?_)
    cbv
    refine Ar.fitsL_ hA (by rw [hr']; simp; omega) ?_
    cbv
    refine Ar.add_ hA (by omega) (fun k' hk' => ?_)
    cbv
    exact ⟨(k', r'), by show (n - k').toNat < (n - i).toNat; omega, ⟨by show 0 ≤ k'; omega, by show k' ≤ n; omega, by show r' = _; rw [hr', hk', hstep]⟩, rfl, ⟨rfl, rfl, rfl, rfl, trivial⟩, rfl, trivial⟩
  · cbv
    refine hK _ _ ?_ rfl
    rw [h3, List.take_of_length_le (by omega)]

end Go.VAI
