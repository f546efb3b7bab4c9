/- What the laws make of numbers, fractions and points; the laws GoodRing and GoodCurve. -/
import Derived.Test.YtialfhjffkoakaaGreatNS
import Derived.Test.YtialfhjffkoakaaGreatIS
namespace Go.VAI
open Go.Proofs
set_option maxRecDepth 100000
set_option maxHeartbeats 8000000

theorem ints_of' {es : List PV} (h : ∀ x ∈ es, ofLeaves false (leaves x) = some x ∧ ∃ u, leaves x = [.val (.int .i64 u)] ∧ (Lit.int .i64 u).wf = true) : ∃ l : List Int, es = l.map i64 := by
  induction es with
  | nil => exact ⟨[], rfl⟩
  | cons x es ih =>
    obtain ⟨l, rfl⟩ := ih (fun y hy => h y (by simp [hy]))
    obtain ⟨h1, u, e, hu⟩ := h x (by simp)
    rw [e] at h1
    simp only [ofLeaves, Bool.false_eq_true, if_false, Option.some.injEq] at h1
    exact ⟨u :: l, by rw [← h1]; rfl⟩

theorem hasV_RPtS {r : PV} (h : hasV 6 22 r) : ∃ es, ∃ l : List R8, r = .sl es ∧ es = l.map r8pv ∧ l.length ≤ 9223372036854775807 ∧ ∀ p ∈ l, lenOk p.1 ∧ lenOk p.2 := by
  obtain ⟨es, h, hle, hes⟩ := h
  cases h
  have : ∃ l : List R8, es = l.map r8pv ∧ ∀ p ∈ l, lenOk p.1 ∧ lenOk p.2 := by
    clear hle
    induction es with
    | nil => exact ⟨[], rfl, by simp⟩
    | cons x es ih =>
      obtain ⟨l, rfl, hl⟩ := ih (fun y hy => hes y (by simp [hy]))
      obtain ⟨h1, h2⟩ := hes x (by simp)
      obtain ⟨a, q, e, ⟨a1, b1, rfl, ⟨a2, b2, rfl, ⟨s1, rfl⟩, a3, b3, rfl, ⟨l1, rfl, m1, k1⟩, rfl⟩, a4, b4, rfl, ⟨a5, b5, rfl, ⟨s2, rfl⟩, a6, b6, rfl, ⟨l2, rfl, m2, k2⟩, rfl⟩, rfl⟩, a7, b7, rfl, ⟨a8, b8, rfl, ⟨a9, b9, rfl, ⟨s3, rfl⟩, a10, b10, rfl, ⟨l3, rfl, m3, k3⟩, rfl⟩, a11, b11, rfl, ⟨a12, b12, rfl, ⟨s4, rfl⟩, a13, b13, rfl, ⟨l4, rfl, m4, k4⟩, rfl⟩, rfl⟩, rfl⟩ := h2
      rw [e] at h1
      simp only [ofLeaves, if_true, Option.some.injEq] at h1
      obtain ⟨i1, rfl⟩ := ints_of' k1
      obtain ⟨i2, rfl⟩ := ints_of' k2
      obtain ⟨i3, rfl⟩ := ints_of' k3
      obtain ⟨i4, rfl⟩ := ints_of' k4
      refine ⟨(((s1, i1), (s2, i2)), ((s3, i3), (s4, i4))) :: l, by rw [← h1]; rfl, ?_⟩
      intro p hp
      rcases List.mem_cons.1 hp with rfl | hp
      · simp only [List.length_map] at m1 m2 m3 m4
        exact ⟨⟨m1, m2⟩, ⟨m3, m4⟩⟩
      · exact hl p hp
  obtain ⟨l, rfl, hl⟩ := this
  exact ⟨_, l, rfl, rfl, by simpa using hle, hl⟩

theorem hasV_Rat {r : PV} (h : hasV 6 40 r) : ∃ s a t b, ∃ l m : List Int, r = .agg [bl s, .sl a, bl t, .sl b] ∧ a = l.map i64 ∧ b = m.map i64 ∧ l.length ≤ 9223372036854775807 ∧ m.length ≤ 9223372036854775807 := by
  obtain ⟨ls, rfl, a1, b1, rfl, ⟨a2, b2, rfl, ⟨s1, rfl⟩, a3, b3, rfl, ⟨l1, rfl, m1, k1⟩, rfl⟩, a4, b4, rfl, ⟨a5, b5, rfl, ⟨s2, rfl⟩, a6, b6, rfl, ⟨l2, rfl, m2, k2⟩, rfl⟩, rfl⟩ := h
  obtain ⟨i1, rfl⟩ := ints_of' k1
  obtain ⟨i2, rfl⟩ := ints_of' k2
  exact ⟨_, _, _, _, i1, i2, rfl, rfl, rfl, by simpa using m1, by simpa using m2⟩

/-! ### Sizes -/

def szN (n : Nat) (x : Int) : Int := if x - n < 0 then -1 else x - n
def sz4 (r : R4) (x : Int) : Int := if szN r.1.2.length x < 0 then -1 else szN r.2.2.length (szN r.1.2.length x)
def sz8 (r : R8) (x : Int) : Int := if sz4 r.1 x < 0 then -1 else sz4 r.2 (sz4 r.1 x)
/-- What is left behind a row. -/
def szL {α : Type} (f : α → Int → Int) : List α → Int → Int
  | [], x => x
  | p :: l, x => if f p x < 0 then -1 else szL f l (f p x)
theorem szN_ok {n : Nat} {x : Int} (h : 0 ≤ szN n x) : (n : Int) ≤ x ∧ szN n x ≤ x := by unfold szN at *; split at h <;> (try split) <;> omega
theorem szN_le {n : Nat} {x : Int} (h : 0 ≤ x) : szN n x ≤ x := by unfold szN; split <;> omega
theorem sz4_ok {r : R4} {x : Int} (h : 0 ≤ sz4 r x) : (r.1.2.length : Int) ≤ x ∧ (r.2.2.length : Int) ≤ x ∧ sz4 r x ≤ x := by
  unfold sz4 at *
  split at h
  · omega
  · have h1 := szN_ok (n := r.1.2.length) (x := x) (by omega)
    have h2 := szN_ok h
    rw [if_neg (by omega)]; omega
theorem sz4_le {r : R4} {x : Int} (h : 0 ≤ x) : sz4 r x ≤ x := by
  unfold sz4
  split
  · omega
  · have := szN_le (n := r.1.2.length) h; have := szN_le (n := r.2.2.length) (x := szN r.1.2.length x) (by omega); omega
theorem sz8_ok {r : R8} {x : Int} (h : 0 ≤ sz8 r x) : ((r.1.1.2.length : Int) ≤ x ∧ (r.1.2.2.length : Int) ≤ x) ∧ ((r.2.1.2.length : Int) ≤ x ∧ (r.2.2.2.length : Int) ≤ x) ∧ sz8 r x ≤ x := by
  unfold sz8 at *
  split at h
  · omega
  · have h1 := sz4_ok (r := r.1) (x := x) (by omega)
    have h2 := sz4_ok h
    rw [if_neg (by omega)]; omega
theorem sz8_le {r : R8} {x : Int} (h : 0 ≤ x) : sz8 r x ≤ x := by
  unfold sz8
  split
  · omega
  · have := sz4_le (r := r.1) h; have := sz4_le (r := r.2) (x := sz4 r.1 x) (by omega); omega
def len4 (k : Nat) (r : R4) : Prop := r.1.2.length ≤ k ∧ r.2.2.length ≤ k
def len8 (k : Nat) (r : R8) : Prop := len4 k r.1 ∧ len4 k r.2
theorem szL_ok {k : Nat} : ∀ {l : List R8} {x : Int}, x ≤ k → 0 ≤ szL sz8 l x → ∀ p ∈ l, len8 k p
  | [], _, _, _, p, hp => by simp at hp
  | q :: l, x, hx, h, p, hp => by
    simp only [szL] at h
    split at h
    · omega
    · have h1 := sz8_ok (r := q) (x := x) (by omega)
      rcases List.mem_cons.1 hp with rfl | hp
      · exact ⟨⟨by omega, by omega⟩, ⟨by omega, by omega⟩⟩
      · exact szL_ok (by omega) h p hp

theorem c_laws_szIntS : Callable Tryz.prog 87 := ⟨_, Tryz.func87, rfl, by kernel_rfl⟩
theorem d_laws_szIntS {es : List PV} {n : Nat} {x : Int} (hes : es.length = n) (hn : n ≤ 9223372036854775807) (hx : 0 ≤ x ∧ x ≤ 1048576) : Does Tryz.prog 87 [.sl es, i64 x] (.pv (i64 (szN n x))) [] := by
  refine does_of hT hM Tryz.func87 rfl (D := []) (by kernel_rfl) rfl rfl rfl (fun A K hA hK => ?_)
  obtain ⟨N, hN, hN0⟩ : ∃ N : Int, N.toNat = n ∧ 0 ≤ N := ⟨n, by omega, by omega⟩
  have hS : szN n x = if x - N < 0 then -1 else x - N := by unfold szN; rw [show (n : Int) = N by omega]
  generalize szN n x = S at *
  cbv
  refine Ar.len_ hA (fun n2 hn2 hn2' => ?_)
  cbv
  refine Ar.sub_ hA (by omega) (fun y hy => ?_)
  cbv
  refine Ar.lss_ hA (fun h => ?_) (fun h => ?_)
  · cbv
    exact hK _ _ (by rw [hS, if_pos (by omega)]) rfl
  · cbv
    exact hK _ _ (by rw [hS, if_neg (by omega), hy]; congr 3; omega) rfl

theorem c_laws_szBig : Callable Tryz.prog 46 := ⟨_, Tryz.func46, rfl, by kernel_rfl⟩
theorem d_laws_szBig {s : Bool} {es : List PV} {n : Nat} {x : Int} (hes : es.length = n) (hn : n ≤ 9223372036854775807) (hx : 0 ≤ x ∧ x ≤ 1048576) : Does Tryz.prog 46 [.agg [bl s, .sl es], i64 x] (.pv (i64 (szN n x))) [] := by
  refine does_of hT hM Tryz.func46 rfl (D := []) (by kernel_rfl) rfl rfl rfl (fun A K hA hK => ?_)
  have d := d_laws_szIntS hes hn hx
  have hm : szN n x < 0 → szN n x = -1 := fun h => by unfold szN at *; split at h <;> (try split) <;> omega
  generalize szN n x = S at *
  cbv
  refine Ar.callI hA c_laws_szIntS d rfl (fun y hy => ?_)
  cbv
  refine Ar.lss_ hA (fun h => ?_) (fun h => ?_)
  · cbv
    exact hK _ _ (by rw [hm (by omega)]) rfl
  · cbv
    exact hK _ _ (by rw [hy]) rfl

theorem c_laws_szRat : Callable Tryz.prog 18 := ⟨_, Tryz.func18, rfl, by kernel_rfl⟩
theorem d_laws_szRat {s t : Bool} {a b : List PV} {l m : List Int} {x : Int} (ha : a = l.map i64) (hb : b = m.map i64) (hl : l.length ≤ 9223372036854775807) (hm : m.length ≤ 9223372036854775807) (hx : 0 ≤ x ∧ x ≤ 1048576) : Does Tryz.prog 18 [.agg [bl s, .sl a, bl t, .sl b], i64 x] (.pv (i64 (sz4 ((s, l), (t, m)) x))) [] := by
  refine does_of hT hM Tryz.func18 rfl (D := []) (by kernel_rfl) rfl rfl rfl (fun A K hA hK => ?_)
  have d1 := d_laws_szBig (s := s) (es := a) (n := l.length) (x := x) (by rw [ha]; simp) hl hx
  have hle := szN_le (n := l.length) hx.1
  have d2 := fun h => d_laws_szBig (s := t) (es := b) (n := m.length) (x := szN l.length x) (by rw [hb]; simp) hm h
  have hS : sz4 ((s, l), (t, m)) x = if szN l.length x < 0 then -1 else szN m.length (szN l.length x) := rfl
  have hm1 : szN m.length (szN l.length x) < 0 → szN m.length (szN l.length x) = -1 := fun h => by unfold szN at *; split at h <;> (try split) <;> omega
  generalize sz4 ((s, l), (t, m)) x = G at *
  generalize szN m.length (szN l.length x) = Y at *
  generalize szN l.length x = X at *
  cbv
  refine Ar.callI hA c_laws_szBig d1 rfl (fun y hy => ?_)
  cbv
  refine Ar.lss_ hA (fun h => ?_) (fun h => ?_)
  · cbv
    exact hK _ _ (by rw [hS, if_pos (by omega)]) rfl
  · subst hy
    cbv
    refine Ar.callI hA c_laws_szBig (d2 (by omega)) rfl (fun z hz => ?_)
    rw [if_neg (by omega)] at hS
    cbv
    refine Ar.lss_ hA (fun h3 => ?_) (fun h3 => ?_)
    · cbv
      exact hK _ _ (by rw [hS, hm1 (by omega)]) rfl
    · cbv
      exact hK _ _ (by rw [hS, hz]) rfl

theorem c_laws_szRPt : Callable Tryz.prog 34 := ⟨_, Tryz.func34, rfl, by kernel_rfl⟩
theorem d_laws_szRPt {s1 t1 s2 t2 : Bool} {a1 b1 a2 b2 : List PV} {l1 m1 l2 m2 : List Int} {x : Int} (ha1 : a1 = l1.map i64) (hb1 : b1 = m1.map i64) (ha2 : a2 = l2.map i64) (hb2 : b2 = m2.map i64) (h1 : lenOk ((s1, l1), (t1, m1))) (h2 : lenOk ((s2, l2), (t2, m2))) (hx : 0 ≤ x ∧ x ≤ 1048576) : Does Tryz.prog 34 [.agg [bl s1, .sl a1, bl t1, .sl b1, bl s2, .sl a2, bl t2, .sl b2], i64 x] (.pv (i64 (sz8 (((s1, l1), (t1, m1)), ((s2, l2), (t2, m2))) x))) [] := by
  refine does_of hT hM Tryz.func34 rfl (D := []) (by kernel_rfl) rfl rfl rfl (fun A K hA hK => ?_)
  have d1 := d_laws_szRat (s := s1) (t := t1) ha1 hb1 h1.1 h1.2 hx
  have hle := sz4_le (r := ((s1, l1), (t1, m1))) hx.1
  have d2 := fun h => d_laws_szRat (s := s2) (t := t2) (x := sz4 ((s1, l1), (t1, m1)) x) ha2 hb2 h2.1 h2.2 h
  have hS : sz8 (((s1, l1), (t1, m1)), ((s2, l2), (t2, m2))) x = if sz4 ((s1, l1), (t1, m1)) x < 0 then -1 else sz4 ((s2, l2), (t2, m2)) (sz4 ((s1, l1), (t1, m1)) x) := rfl
  have hm1 : sz4 ((s2, l2), (t2, m2)) (sz4 ((s1, l1), (t1, m1)) x) < 0 → sz4 ((s2, l2), (t2, m2)) (sz4 ((s1, l1), (t1, m1)) x) = -1 := fun h => by unfold sz4 szN at *; (repeat' split at h) <;> (repeat' split) <;> omega
  generalize sz8 (((s1, l1), (t1, m1)), ((s2, l2), (t2, m2))) x = G at *
  generalize sz4 ((s2, l2), (t2, m2)) (sz4 ((s1, l1), (t1, m1)) x) = Y at *
  generalize sz4 ((s1, l1), (t1, m1)) x = X at *
  cbv
  refine Ar.callI hA c_laws_szRat d1 rfl (fun y hy => ?_)
  cbv
  refine Ar.lss_ hA (fun h => ?_) (fun h => ?_)
  · cbv
    exact hK _ _ (by rw [hS, if_pos (by omega)]) rfl
  · subst hy
    cbv
    refine Ar.callI hA c_laws_szRat (d2 (by omega)) rfl (fun z hz => ?_)
    rw [if_neg (by omega)] at hS
    cbv
    refine Ar.lss_ hA (fun h3 => ?_) (fun h3 => ?_)
    · cbv
      exact hK _ _ (by rw [hS, hm1 (by omega)]) rfl
    · cbv
      exact hK _ _ (by rw [hS, hz]) rfl

/-- What is left behind a row of points. -/
def szRow (l : List R8) (x : Int) : Int := if szN l.length x < 0 then -1 else szL sz8 l (szN l.length x)
theorem szL_range : ∀ {l : List R8} {x : Int}, 0 ≤ x → -1 ≤ szL sz8 l x ∧ szL sz8 l x ≤ x
  | [], x, h => by simp only [szL]; omega
  | p :: l, x, h => by
    simp only [szL]
    split
    · omega
    · have := sz8_le (r := p) h
      have := szL_range (l := l) (x := sz8 p x) (by omega)
      omega
theorem szRow_ok {l : List R8} {x : Int} {k : Nat} (hx : x ≤ k) (h : 0 ≤ szRow l x) : l.length ≤ k ∧ (∀ p ∈ l, len8 k p) ∧ szRow l x ≤ x := by
  unfold szRow at *
  split at h
  · omega
  · have h1 := szN_ok (n := l.length) (x := x) (by omega)
    rw [if_neg (by omega)]
    have := szL_range (l := l) (x := szN l.length x) (by omega)
    exact ⟨by omega, szL_ok (by omega) h, by omega⟩

theorem c_laws_szRPtS : Callable Tryz.prog 9 := ⟨_, Tryz.func9, rfl, by kernel_rfl⟩
theorem d_laws_szRPtS {es : List PV} {l : List R8} {x : Int} (hes : es = l.map r8pv) (hb : l.length ≤ 9223372036854775807) (hb2 : ∀ p ∈ l, lenOk p.1 ∧ lenOk p.2) (hx : 0 ≤ x ∧ x ≤ 1048576) : Does Tryz.prog 9 [.sl es, i64 x] (.pv (i64 (szRow l x))) [] := by
  refine does_of hT hM Tryz.func9 rfl (D := []) (by kernel_rfl) rfl rfl rfl (fun A K hA hK => ?_)
  have hlen : es.length = l.length := by simp [hes]
  have hS : szRow l x = if szN l.length x < 0 then -1 else szL sz8 l (szN l.length x) := rfl
  obtain ⟨N, hNN, hN0⟩ : ∃ N : Int, N.toNat = l.length ∧ 0 ≤ N := ⟨l.length, by omega, by omega⟩
  have hN : szN l.length x = if x - N < 0 then -1 else x - N := by unfold szN; rw [show (l.length : Int) = N by omega]
  generalize szRow l x = G at *
  cbv
  refine Ar.len_ hA (fun n hn hn' => ?_)
  cbv
  refine Ar.sub_ hA (by omega) (fun x0 hx0 => ?_)
  cbv
  refine Ar.lss_ hA (fun h => ?_) (fun h => ?_)
  · cbv
    rw [if_pos (by omega)] at hN
    exact hK _ _ (by rw [hS, hN]; rfl) rfl
  · rw [if_neg (by omega)] at hN
    rw [hN, if_neg (by omega), show x - N = x0 by omega] at hS
    clear hN
    cbv
    refine Ar.loop_ hA (α := Int × Int) (fun s => (n - s.1).toNat) (fun s => 0 ≤ s.1 ∧ s.1 ≤ n ∧ (0 ≤ s.2 ∧ s.2 ≤ 1048576) ∧ szL sz8 (l.drop s.1.toNat) s.2 = szL sz8 l x0) 27 (fun s => [(0, .pv (.sl es) []), (1, .pv (i64 s.2) []), (5, .pv (i64 s.1) [])]) (fun _ => []) (0, x0) ⟨rfl, ⟨rfl, rfl, rfl, trivial⟩, trivial⟩ ⟨by simp, by show (0 : Int) ≤ n; omega, by show 0 ≤ x0 ∧ x0 ≤ _; omega, rfl⟩ ?_
    rintro ⟨i, y⟩ st f ⟨h1, h2, h3, h4⟩
    simp only at h1 h2 h3 h4
    cbv
    refine Ar.len_ hA (fun n2 hn2 hn2' => ?_)
    cbv
    refine Ar.lss_ hA (fun h5 => ?_) (fun h5 => ?_)
    · cbv
      refine Ar.nn_ hA (by omega) ?_
      cbv
      refine Ar.toN_ hA (fun j hj => ?_)
      cbv
      obtain ⟨p, hp⟩ : ∃ p, l[j]? = some p := ⟨l[j]'(by omega), List.getElem?_eq_getElem _⟩
      obtain ⟨ps1, pl1, pt1, pm1, ps2, pl2, pt2, pm2, hpe⟩ : ∃ s1 l1 t1 m1 s2 l2 t2 m2, p = (((s1, l1), (t1, m1)), ((s2, l2), (t2, m2))) := ⟨_, _, _, _, _, _, _, _, rfl⟩
      obtain ⟨e1, he1⟩ : ∃ e, e = pl1.map i64 := ⟨_, rfl⟩
      obtain ⟨e2, he2⟩ : ∃ e, e = pm1.map i64 := ⟨_, rfl⟩
      obtain ⟨e3, he3⟩ : ∃ e, e = pl2.map i64 := ⟨_, rfl⟩
      obtain ⟨e4, he4⟩ : ∃ e, e = pm2.map i64 := ⟨_, rfl⟩
      refine Ar.idx_ hA (x := .agg [bl ps1, .sl e1, bl pt1, .sl e2, bl ps2, .sl e3, bl pt2, .sl e4]) (by rw [hes, List.getElem?_map, hp, hpe, he1, he2, he3, he4]; rfl) ?_
      cbv
      have hlo := hb2 _ (List.mem_of_getElem? hp)
      rw [hpe] at hlo
      have d := d_laws_szRPt (s1 := ps1) (t1 := pt1) (s2 := ps2) (t2 := pt2) (x := y) he1 he2 he3 he4 hlo.1 hlo.2 h3
      rw [← hpe] at d
      rw [← hj, drop_cons hp] at h4
      simp only [szL] at h4
      have hle := sz8_le (r := p) h3.1
      generalize sz8 p y = Y at *
      refine Ar.callI hA c_laws_szRPt d rfl (fun z hz => ?_)
      cbv
      refine Ar.lss_ hA (fun h6 => ?_) (fun h6 => ?_)
      · rw [if_pos (by omega)] at h4
        cbv
        exact hK _ _ (by rw [hS, ← h4]) rfl
      · rw [if_neg (by omega)] at h4
        cbv
        refine Ar.add_ hA (by omega) (fun i' hi' => ?_)
        cbv
        exact ⟨(i', z), by show (n - i').toNat < (n - i).toNat; omega, ⟨by show 0 ≤ i'; omega, by show i' ≤ n; omega, by show 0 ≤ z ∧ z ≤ _; omega, by show szL sz8 (l.drop i'.toNat) z = _; rw [hz, show i'.toNat = j + 1 by omega]; exact h4⟩, rfl, ⟨rfl, rfl, rfl, trivial⟩, trivial⟩
    · rw [List.drop_of_length_le (by omega)] at h4
      cbv
      exact hK _ _ (by rw [hS, ← h4]; rfl) rfl

/-! ### New memory for them -/

theorem c_laws_toBig : Callable Tryz.prog 51 := ⟨_, Tryz.func51, rfl, by kernel_rfl⟩
theorem d_laws_toBig {s : Bool} {a : List PV} {l : List Int} (ha : a = l.map i64) (hl : l.length ≤ 1048576) : Does Tryz.prog 51 [.agg [bl s, .sl a]] (.ag [.pv (bl s), .row a 1 .free]) [] := by
  refine does_of hT hM Tryz.func51 rfl (D := []) (by kernel_rfl) rfl rfl rfl (fun A K hA hK => ?_)
  have d := d_laws_toIntS ha hl
  clear ha
  cbv
  refine Ar.call_ hA c_laws_toIntS d rfl ?_
  cbv
  exact hK _ _ rfl rfl

theorem c_laws_toRat : Callable Tryz.prog 20 := ⟨_, Tryz.func20, rfl, by kernel_rfl⟩
theorem d_laws_toRat {s t : Bool} {a b : List PV} {l m : List Int} (ha : a = l.map i64) (hb : b = m.map i64) (hl : len4 1048576 ((s, l), (t, m))) : Does Tryz.prog 20 [.agg [bl s, .sl a, bl t, .sl b]] (rrs s a t b) [] := by
  refine does_of hT hM Tryz.func20 rfl (D := []) (by kernel_rfl) rfl rfl rfl (fun A K hA hK => ?_)
  have d1 := d_laws_toBig (s := s) ha hl.1
  have d2 := d_laws_toBig (s := t) hb hl.2
  clear ha hb hl
  cbv
  refine Ar.call_ hA c_laws_toBig d1 rfl ?_
  cbv
  refine Ar.call_ hA c_laws_toBig d2 rfl ?_
  cbv
  exact hK _ _ rfl rfl

abbrev prs (s1 : Bool) (a1 : List PV) (t1 : Bool) (b1 : List PV) (s2 : Bool) (a2 : List PV) (t2 : Bool) (b2 : List PV) : RS := .ag [.pv (bl s1), .row a1 1 .free, .pv (bl t1), .row b1 1 .free, .pv (bl s2), .row a2 1 .free, .pv (bl t2), .row b2 1 .free]

theorem c_laws_toRPt : Callable Tryz.prog 38 := ⟨_, Tryz.func38, rfl, by kernel_rfl⟩
theorem d_laws_toRPt {s1 t1 s2 t2 : Bool} {a1 b1 a2 b2 : List PV} {l1 m1 l2 m2 : List Int} (ha1 : a1 = l1.map i64) (hb1 : b1 = m1.map i64) (ha2 : a2 = l2.map i64) (hb2 : b2 = m2.map i64) (hl : len8 1048576 (((s1, l1), (t1, m1)), ((s2, l2), (t2, m2)))) : Does Tryz.prog 38 [.agg [bl s1, .sl a1, bl t1, .sl b1, bl s2, .sl a2, bl t2, .sl b2]] (prs s1 a1 t1 b1 s2 a2 t2 b2) [] := by
  refine does_of hT hM Tryz.func38 rfl (D := []) (by kernel_rfl) rfl rfl rfl (fun A K hA hK => ?_)
  have d1 := d_laws_toRat (s := s1) (t := t1) ha1 hb1 hl.1
  have d2 := d_laws_toRat (s := s2) (t := t2) ha2 hb2 hl.2
  clear ha1 hb1 ha2 hb2 hl
  cbv
  refine Ar.call_ hA c_laws_toRat d1 rfl ?_
  cbv
  refine Ar.call_ hA c_laws_toRat d2 rfl ?_
  cbv
  exact hK _ _ rfl rfl

/-! ### The same value twice -/

theorem eqInt_same {es : List PV} {l : List Int} (hes : es = l.map i64) (hb : l.length ≤ 1048576) : Does Tryz.prog 86 [.sl es, .sl es] (.pv (bl true)) [] := by
  have := d_laws_eqIntS hes hes hb
  rwa [show decide (l = l) = true by simp] at this

theorem c_laws_eqBig : Callable Tryz.prog 42 := ⟨_, Tryz.func42, rfl, by kernel_rfl⟩
theorem d_laws_eqBig {s : Bool} {a : List PV} {l : List Int} (ha : a = l.map i64) (hl : l.length ≤ 1048576) : Does Tryz.prog 42 [.agg [bl s, .sl a], .agg [bl s, .sl a]] (.pv (bl true)) [] := by
  refine does_of hT hM Tryz.func42 rfl (D := []) (by kernel_rfl) rfl rfl rfl (fun A K hA hK => ?_)
  have d := eqInt_same ha hl
  clear ha
  cbv
  refine Ar.bneq_ hA (fun h => absurd rfl h) (fun _ => ?_)
  cbv
  refine Ar.callT hA c_laws_eqIntS d rfl (fun _ => ?_) (fun h => by cases h)
  cbv
  refine Ar.notT_ hA ?_
  cbv
  exact hK _ _ rfl rfl

theorem c_laws_eqRat : Callable Tryz.prog 13 := ⟨_, Tryz.func13, rfl, by kernel_rfl⟩
theorem d_laws_eqRat {s t : Bool} {a b : List PV} {l m : List Int} (ha : a = l.map i64) (hb : b = m.map i64) (hl : len4 1048576 ((s, l), (t, m))) : Does Tryz.prog 13 [rpv s a t b, rpv s a t b] (.pv (bl true)) [] := by
  refine does_of hT hM Tryz.func13 rfl (D := []) (by kernel_rfl) rfl rfl rfl (fun A K hA hK => ?_)
  have d1 := d_laws_eqBig (s := s) ha hl.1
  have d2 := d_laws_eqBig (s := t) hb hl.2
  clear ha hb hl
  cbv
  refine Ar.callT hA c_laws_eqBig d1 rfl (fun _ => ?_) (fun h => by cases h)
  cbv
  refine Ar.notT_ hA ?_
  cbv
  refine Ar.callT hA c_laws_eqBig d2 rfl (fun _ => ?_) (fun h => by cases h)
  cbv
  refine Ar.notT_ hA ?_
  cbv
  exact hK _ _ rfl rfl

abbrev ppv (s1 : Bool) (a1 : List PV) (t1 : Bool) (b1 : List PV) (s2 : Bool) (a2 : List PV) (t2 : Bool) (b2 : List PV) : PV := .agg [bl s1, .sl a1, bl t1, .sl b1, bl s2, .sl a2, bl t2, .sl b2]

theorem c_laws_eqRPt : Callable Tryz.prog 22 := ⟨_, Tryz.func22, rfl, by kernel_rfl⟩
theorem d_laws_eqRPt {s1 t1 s2 t2 : Bool} {a1 b1 a2 b2 : List PV} {l1 m1 l2 m2 : List Int} (ha1 : a1 = l1.map i64) (hb1 : b1 = m1.map i64) (ha2 : a2 = l2.map i64) (hb2 : b2 = m2.map i64) (hl : len8 1048576 (((s1, l1), (t1, m1)), ((s2, l2), (t2, m2)))) : Does Tryz.prog 22 [ppv s1 a1 t1 b1 s2 a2 t2 b2, ppv s1 a1 t1 b1 s2 a2 t2 b2] (.pv (bl true)) [] := by
  refine does_of hT hM Tryz.func22 rfl (D := []) (by kernel_rfl) rfl rfl rfl (fun A K hA hK => ?_)
  have d1 := d_laws_eqRat (s := s1) (t := t1) ha1 hb1 hl.1
  have d2 := d_laws_eqRat (s := s2) (t := t2) ha2 hb2 hl.2
  clear ha1 hb1 ha2 hb2 hl
  cbv
  refine Ar.callT hA c_laws_eqRat d1 rfl (fun _ => ?_) (fun h => by cases h)
  cbv
  refine Ar.notT_ hA ?_
  cbv
  refine Ar.callT hA c_laws_eqRat d2 rfl (fun _ => ?_) (fun h => by cases h)
  cbv
  refine Ar.notT_ hA ?_
  cbv
  exact hK _ _ rfl rfl

theorem c_laws_eqRPtS : Callable Tryz.prog 14 := ⟨_, Tryz.func14, rfl, by kernel_rfl⟩
theorem d_laws_eqRPtS {es : List PV} {l : List R8} (hes : es = l.map r8pv) (hb : l.length ≤ 1048576) (hb2 : ∀ p ∈ l, len8 1048576 p) : Does Tryz.prog 14 [.sl es, .sl es] (.pv (bl true)) [] := by
  refine does_of hT hM Tryz.func14 rfl (D := []) (by kernel_rfl) rfl rfl rfl (fun A K hA hK => ?_)
  have hlen : es.length = l.length := by simp [hes]
  cbv
  refine Ar.len_ hA (fun n hn hn' => ?_)
  cbv
  refine Ar.len_ hA (fun n' hm hm' => ?_)
  cbv
  refine Ar.neq_ hA (fun h => absurd (by omega) h) (fun _ => ?_)
  cbv
  refine Ar.loop_ hA (α := Int) (fun i => (n - i).toNat) (fun i => 0 ≤ i ∧ i ≤ n) 27 (fun i => [(0, .pv (.sl es) []), (1, .pv (.sl es) []), (5, .pv (i64 i) [])]) (fun _ => []) 0 ⟨rfl, ⟨rfl, rfl, rfl, trivial⟩, trivial⟩ ⟨by omega, by omega⟩ ?_
  intro i s f ⟨h1, h2⟩
  cbv
  refine Ar.len_ hA (fun n2 hn2 hn2' => ?_)
  cbv
  refine Ar.lss_ hA (fun h => ?_) (fun h => ?_)
  · cbv
    refine Ar.nn_ hA (by omega) ?_
    cbv
    refine Ar.toN_ hA (fun j hj => ?_)
    cbv
    obtain ⟨p, hp⟩ : ∃ p, l[j]? = some p := ⟨l[j]'(by omega), List.getElem?_eq_getElem _⟩
    obtain ⟨ps1, pl1, pt1, pm1, ps2, pl2, pt2, pm2, hpe⟩ : ∃ s1 l1 t1 m1 s2 l2 t2 m2, p = (((s1, l1), (t1, m1)), ((s2, l2), (t2, m2))) := ⟨_, _, _, _, _, _, _, _, rfl⟩
    obtain ⟨e1, he1⟩ : ∃ e, e = pl1.map i64 := ⟨_, rfl⟩
    obtain ⟨e2, he2⟩ : ∃ e, e = pm1.map i64 := ⟨_, rfl⟩
    obtain ⟨e3, he3⟩ : ∃ e, e = pl2.map i64 := ⟨_, rfl⟩
    obtain ⟨e4, he4⟩ : ∃ e, e = pm2.map i64 := ⟨_, rfl⟩
    refine Ar.idx_ hA (x := .agg [bl ps1, .sl e1, bl pt1, .sl e2, bl ps2, .sl e3, bl pt2, .sl e4]) (by rw [hes, List.getElem?_map, hp, hpe, he1, he2, he3, he4]; rfl) ?_
    cbv
    have hlo := hb2 _ (List.mem_of_getElem? hp)
    rw [hpe] at hlo
    have d := d_laws_eqRPt (s1 := ps1) (t1 := pt1) (s2 := ps2) (t2 := pt2) he1 he2 he3 he4 hlo
    refine Ar.nn_ hA (by omega) ?_
    cbv
    refine Ar.toN_ hA (fun j' hj' => ?_)
    cbv
    refine Ar.idx_ hA (x := .agg [bl ps1, .sl e1, bl pt1, .sl e2, bl ps2, .sl e3, bl pt2, .sl e4]) (by rw [show j' = j by omega, hes, List.getElem?_map, hp, hpe, he1, he2, he3, he4]; rfl) ?_
    cbv
    refine Ar.callT hA c_laws_eqRPt d rfl (fun _ => ?_) (fun h => by cases h)
    cbv
    refine Ar.notT_ hA ?_
    cbv
    refine Ar.add_ hA (by omega) (fun k hk => ?_)
    cbv
    exact ⟨k, by omega, ⟨by omega, by omega⟩, rfl, ⟨rfl, rfl, rfl, trivial⟩, trivial⟩
  · cbv
    exact hK _ _ rfl rfl

end Go.VAI
