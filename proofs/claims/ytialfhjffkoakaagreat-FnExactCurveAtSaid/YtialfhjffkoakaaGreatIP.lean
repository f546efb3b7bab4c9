/- Rows of fractions and of points: new memory for them, marks on them. -/
import Derived.Test.YtialfhjffkoakaaGreatIM
namespace Go.VAI
open Go.Proofs
set_option maxRecDepth 100000
set_option maxHeartbeats 8000000

theorem Ar.eqD {P : Program} {A : Ar} (hA : stdA P = A) {a b : Int} {K : Bool → Prop} (h : ∀ r, r = decide (a = b) → K r) : A.bool (A.cmp .eql a b) K := by
  subst hA; exact h _ (by show (a == b) = _; exact rfl)

/-! ### Marks -/

def fl (k : Int) : Bool := decide (k % 3 = 0)
def mk2 (n : Nat) (k : Int) : Bool × List Int := (fl k, countUp n (k + 1))
def nx2 (n : Nat) (k : Int) : Int := onFrom n (k + 1)
def mk4 (r : R4) (k : Int) : R4 := (mk2 r.1.2.length k, mk2 r.2.2.length (nx2 r.1.2.length k))
def nx4 (r : R4) (k : Int) : Int := nx2 r.2.2.length (nx2 r.1.2.length k)
def mk8 (r : R8) (k : Int) : R8 := (mk4 r.1 k, mk4 r.2 (nx4 r.1 k))
def nx8 (r : R8) (k : Int) : Int := nx4 r.2 (nx4 r.1 k)
def mkL {α : Type} (mk : α → Int → α) (nx : α → Int → Int) : List α → Int → List α
  | [], _ => []
  | r :: l, k => mk r k :: mkL mk nx l (nx r k)
def nxL {α : Type} (nx : α → Int → Int) : List α → Int → Int
  | [], k => k
  | r :: l, k => nxL nx l (nx r k)
theorem mkL_len {α : Type} {mk : α → Int → α} {nx : α → Int → Int} : ∀ {l : List α} {k : Int}, (mkL mk nx l k).length = l.length
  | [], _ => rfl
  | _ :: l, _ => by simp only [mkL, List.length_cons, mkL_len]
theorem nxL_app {α : Type} {nx : α → Int → Int} : ∀ {l m : List α} {k : Int}, nxL nx (l ++ m) k = nxL nx m (nxL nx l k)
  | [], _, _ => rfl
  | _ :: l, m, _ => by simp only [List.cons_append, nxL]; exact nxL_app
theorem nxL_step {α : Type} {nx : α → Int → Int} {l : List α} {j : Nat} {r : α} {k : Int} (h : l[j]? = some r) : nxL nx (l.take (j + 1)) k = nx r (nxL nx (l.take j) k) := by
  rw [List.take_add_one, h, nxL_app]; rfl
theorem mkL_get {α : Type} {mk : α → Int → α} {nx : α → Int → Int} : ∀ {l : List α} {k : Int} {j : Nat} {r : α}, l[j]? = some r → (mkL mk nx l k)[j]? = some (mk r (nxL nx (l.take j) k))
  | [], _, _, _, h => by simp at h
  | x :: l, k, 0, r, h => by simp at h; subst h; rfl
  | x :: l, k, j + 1, r, h => by
    simp only [List.getElem?_cons_succ] at h
    simp only [mkL, List.getElem?_cons_succ, List.take_succ_cons, nxL]
    exact mkL_get h
theorem nx4_le {r : R4} {k : Int} (h : len4 1048576 r) (hk : 0 ≤ k) : 0 ≤ nx4 r k ∧ nx4 r k ≤ k + 2100000 := by
  obtain ⟨h1, h2⟩ := h
  unfold nx4 nx2 onFrom; omega
theorem nx8_le {r : R8} {k : Int} (h : len8 1048576 r) (hk : 0 ≤ k) : 0 ≤ nx8 r k ∧ nx8 r k ≤ k + 4200000 := by
  have h1 := nx4_le h.1 hk
  have h2 := nx4_le h.2 h1.1
  unfold nx8; omega
theorem nx4_le' {r : R4} {k : Int} (h : len4 1048576 r) (hk : 0 ≤ k) : 0 ≤ nx4 r k ∧ nx4 r k ≤ k + 4200000 := by
  have := nx4_le h hk; omega
theorem nxL_le {α : Type} {nx : α → Int → Int} {ok : α → Prop} (hn : ∀ r k, ok r → 0 ≤ k → 0 ≤ nx r k ∧ nx r k ≤ k + 4200000) : ∀ {l : List α} {k : Int}, (∀ r ∈ l, ok r) → 0 ≤ k → 0 ≤ nxL nx l k ∧ nxL nx l k ≤ k + 4200000 * (l.length : Int)
  | [], k, _, hk => by simp only [nxL, List.length_nil]; omega
  | r :: l, k, h, hk => by
    have h1 := hn r k (h r (by simp)) hk
    have h2 := nxL_le hn (l := l) (k := nx r k) (fun x hx => h x (by simp [hx])) h1.1
    simp only [nxL, List.length_cons]; omega
theorem nxL_take_le {α : Type} {nx : α → Int → Int} {ok : α → Prop} (hn : ∀ r k, ok r → 0 ≤ k → 0 ≤ nx r k ∧ nx r k ≤ k + 4200000) {l : List α} {k : Int} {n : Nat} (h : ∀ r ∈ l, ok r) (hb : l.length ≤ 1048576) (hk : 0 ≤ k) : 0 ≤ nxL nx (l.take n) k ∧ nxL nx (l.take n) k ≤ k + 4404019200000 := by
  have h1 := nxL_le hn (l := l.take n) (k := k) (fun x hx => h x (List.mem_of_mem_take hx)) hk
  have h2 : (l.take n).length ≤ l.length := by simp; omega
  omega
theorem rset_get {r r' : List PV} {j : Nat} {x y : PV} (hx : r[j]? = some x) (h : r' = r.set j y) : r'[j]? = some y := by
  subst h; rw [List.getElem?_set_self (List.getElem?_eq_some_iff.1 hx).1]
theorem rset_set {r r1 r2 : List PV} {j : Nat} {x y : PV} (h1 : r1 = r.set j x) (h2 : r2 = r1.set j y) : r2 = r.set j y := by
  subst h1 h2; exact List.set_set ..


/-! ### RatS -/

/-! ### RPtS -/

theorem c_laws_toRPtS : Callable Tryz.prog 11 := ⟨_, Tryz.func11, rfl, by kernel_rfl⟩
theorem d_laws_toRPtS {es : List PV} {l : List R8} (hes : es = l.map r8pv) (hb : l.length ≤ 1048576) (hb2 : ∀ p ∈ l, len8 1048576 p) : Does Tryz.prog 11 [.sl es] (.row es 8 (.deep 1 [])) [] := by
  refine does_of hT hM Tryz.func11 rfl (D := []) (by kernel_rfl) rfl rfl rfl (fun A K hA hK => ?_)
  have hlen : es.length = l.length := by simp [hes]
  cbv
  refine Ar.len_ hA (fun n hn hn' => ?_)
  cbv
  refine Ar.nn_ hA hn ?_
  cbv
  refine Ar.toN_ hA (fun m hm => ?_)
  cbv
  refine Ar.fits_ hA (by omega) ?_
  cbv
  refine Ar.rep_ hA (fun r0 hr0 => ?_)
  cbv
  refine Ar.loop_ hA (α := Int × List PV) (fun x => (n - x.1).toNat) (fun x => 0 ≤ x.1 ∧ x.1 ≤ n ∧ x.2 = es.take x.1.toNat ++ List.replicate (m - x.1.toNat) (zpt)) 23 (fun x => [(0, .pv (.sl es) []), (3, .own 7 none), (4, .pv (i64 x.1) [])]) (fun x => [(7, some (.row x.2 8 (.deep 1 []) false))]) (0, r0) ⟨rfl, ⟨rfl, rfl, rfl, trivial⟩, rfl, trivial⟩ ⟨by show (0 : Int) ≤ 0; omega, by show 0 ≤ n; omega, by show r0 = _; rw [hr0]; simp⟩ ?_
  rintro ⟨i, r⟩ s f ⟨h1, h2, h3⟩
  simp only at h1 h2 h3
  have hrl : r.length = m := by rw [h3]; simp; omega
  have hstep : ∀ j j2 x r', j = i.toNat → j2 = i.toNat → es[j]? = some x → i < n → r' = r.set j2 x → ∀ k : Int, k = i + 1 → r' = es.take k.toNat ++ List.replicate (m - k.toNat) (zpt) := by
    intro j j2 x r' hj hj2 hx hi hr' k hk
    rw [hr', h3, show k.toNat = j2 + 1 by omega, show i.toNat = j2 by omega]
    exact fill_step (by omega) (by rw [show j2 = j by omega]; exact hx)
  have hget : ∀ j2, j2 = i.toNat → i < n → r[j2]? = some (zpt) := fun j2 hj2 hi => by rw [h3, hj2]; exact fill_get (by omega) (by omega)
  have hend : ¬ i < n → r = es := fun h => by rw [h3, List.take_of_length_le (by omega), show m - i.toNat = 0 by omega]; simp
  clear h3 hr0
  cbv
  refine Ar.len_ hA (fun n2 hn2 hn2' => ?_)
  cbv
  refine Ar.lss_ hA (fun h => ?_) (fun h => ?_)
  · have hget' := fun j2 hj2 => hget j2 hj2 (by omega)
    cbv
    refine Ar.nn_ hA (by omega) ?_
    cbv
    refine Ar.toN_ hA (fun j hj => ?_)
    cbv
    obtain ⟨p, hp⟩ : ∃ p, l[j]? = some p := ⟨l[j]'(by omega), List.getElem?_eq_getElem _⟩
    obtain ⟨s1, l1, t1, m1, s2, l2, t2, m2, hpe⟩ : ∃ s1 l1 t1 m1 s2 l2 t2 m2, p = (((s1, l1), (t1, m1)), ((s2, l2), (t2, m2))) := ⟨_, _, _, _, _, _, _, _, rfl⟩
    obtain ⟨e1, he1⟩ : ∃ e, e = l1.map i64 := ⟨_, rfl⟩
    obtain ⟨e2, he2⟩ : ∃ e, e = m1.map i64 := ⟨_, rfl⟩
    obtain ⟨e3, he3⟩ : ∃ e, e = l2.map i64 := ⟨_, rfl⟩
    obtain ⟨e4, he4⟩ : ∃ e, e = m2.map i64 := ⟨_, rfl⟩
    have hx : es[j]? = some (.agg [bl s1, .sl e1, bl t1, .sl e2, bl s2, .sl e3, bl t2, .sl e4]) := by rw [hes, List.getElem?_map, hp, hpe, he1, he2, he3, he4]; rfl
    have hlo := hb2 _ (List.mem_of_getElem? hp)
    rw [hpe] at hlo
    refine Ar.idx_ hA (x := .agg [bl s1, .sl e1, bl t1, .sl e2, bl s2, .sl e3, bl t2, .sl e4]) hx ?_
    cbv
    have d := d_laws_toRPt (s1 := s1) (t1 := t1) (s2 := s2) (t2 := t2) he1 he2 he3 he4 hlo
    refine Ar.call_ hA c_laws_toRPt d rfl ?_
    cbv
    refine Ar.nn_ hA (by omega) ?_
    cbv
    refine Ar.toN_ hA (fun j2 hj2 => ?_)
    cbv
    refine Ar.idx_ hA (x := zpt) (hget' _ hj2) ?_
    cbv
    refine Ar.idx_ hA (x := zpt) (hget' _ hj2) ?_
    cbv
    refine Ar.set_ hA (fun r' hr' => ?_)
    cbv
    refine Ar.add_ hA (by omega) (fun k hk => ?_)
    cbv
    exact ⟨(k, r'), by show (n - k).toNat < (n - i).toNat; omega, ⟨by show 0 ≤ k; omega, by show k ≤ n; omega, hstep j j2 _ r' hj hj2 hx (by omega) hr' k hk⟩, rfl, ⟨rfl, rfl, rfl, trivial⟩, rfl, trivial⟩
  · have he := hend (by omega)
    subst he
    cbv
    exact hK _ _ rfl rfl


theorem c_laws_markRPtS : Callable Tryz.prog 15 := ⟨_, Tryz.func15, rfl, by kernel_rfl⟩
theorem d_laws_markRPtS {es ms : List PV} {l : List R8} {k r : Int} (hes : es = l.map r8pv) (hb : l.length ≤ 1048576) (hb2 : ∀ p ∈ l, len8 1048576 p) (hk : 0 ≤ k ∧ k ≤ 1000000000000) (hms : ms = (mkL mk8 nx8 l k).map r8pv) (hr : r = nxL nx8 l k) : Does Tryz.prog 15 [.sl es, i64 k] (.pv (i64 r)) [.sl ms] := by
  refine does_of hT hM Tryz.func15 rfl (D := []) (by kernel_rfl) rfl rfl rfl (fun A K hA hK => ?_)
  have hlen : es.length = l.length := by simp [hes]
  have hml : ms.length = l.length := by rw [hms]; simp [mkL_len]
  cbv
  refine Ar.loop_ hA (α := Int × List PV × Int) (fun x => l.length - x.1.toNat) (fun (i, r, q) => 0 ≤ i ∧ i.toNat ≤ l.length ∧ r = ms.take i.toNat ++ es.drop i.toNat ∧ q = nxL nx8 (l.take i.toNat) k) 93 (fun (i, r, q) => [(0, .own 0 none), (1, .pv (i64 q) []), (5, .pv (i64 i) [])]) (fun (i, r, q) => [(0, some (.row r 8 (.deep 1 []) true))]) (0, es, k) ⟨rfl, ⟨rfl, rfl, rfl, trivial⟩, rfl, trivial⟩ ⟨by omega, by simp, by simp, rfl⟩ ?_
  intro ⟨i, r0, q0⟩ s f ⟨h1, h2, h3, h4⟩
  have hrl : r0.length = l.length := by rw [h3]; simp; omega
  have hq := nxL_take_le (nx := nx8) (ok := len8 1048576) (fun _ _ => nx8_le) (l := l) (k := k) (n := i.toNat) hb2 hb hk.1
  rw [← h4] at hq
  cbv
  refine Ar.len_ hA (fun n2 hn2 hn2' => ?_)
  cbv
  refine Ar.lss_ hA (fun h => ?_) (fun h => ?_)
  · obtain ⟨j, hj⟩ : ∃ j, j = i.toNat := ⟨_, rfl⟩
    obtain ⟨p, hp⟩ : ∃ p, l[j]? = some p := ⟨l[j]'(by omega), List.getElem?_eq_getElem _⟩
    obtain ⟨s1, l1, t1, m1, s2, l2, t2, m2, hpe⟩ : ∃ s1 l1 t1 m1 s2 l2 t2 m2, p = (((s1, l1), (t1, m1)), ((s2, l2), (t2, m2))) := ⟨_, _, _, _, _, _, _, _, rfl⟩
    obtain ⟨e1, he1⟩ : ∃ e, e = l1.map i64 := ⟨_, rfl⟩
    obtain ⟨e2, he2⟩ : ∃ e, e = m1.map i64 := ⟨_, rfl⟩
    obtain ⟨e3, he3⟩ : ∃ e, e = l2.map i64 := ⟨_, rfl⟩
    obtain ⟨e4, he4⟩ : ∃ e, e = m2.map i64 := ⟨_, rfl⟩
    have hx : es[j]? = some (.agg [bl s1, .sl e1, bl t1, .sl e2, bl s2, .sl e3, bl t2, .sl e4]) := by rw [hes, List.getElem?_map, hp, hpe, he1, he2, he3, he4]; rfl
    have hlo := hb2 _ (List.mem_of_getElem? hp)
    rw [hpe] at hlo
    have g0 : ∀ n, n = i.toNat → r0[n]? = some (.agg [bl s1, .sl e1, bl t1, .sl e2, bl s2, .sl e3, bl t2, .sl e4]) := fun n hn => by rw [h3, hn, over_get (by omega) (by omega), ← hj]; exact hx
    have hstep := mkL_get (mk := mk8) (nx := nx8) (k := k) hp
    have hnext := nxL_step (nx := nx8) (k := k) hp
    rw [show l.take j = l.take i.toNat by rw [hj], ← h4, hpe] at hstep hnext
    have hilt : i.toNat < l.length := by omega
    clear hn2 hn2' h
    cbv
    refine Ar.nz_ hA (by omega) ?_
    cbv
    refine Ar.rem_ hA (by omega) (fun c0 hc0 => ?_)
    cbv
    refine Ar.eqD hA (fun f0 hf0 => ?_)
    cbv
    refine Ar.nn_ hA h1 ?_
    cbv
    refine Ar.toN_ hA (fun na0 hna0 => ?_)
    cbv
    refine Ar.idx_ hA (x := .agg [bl s1, .sl e1, bl t1, .sl e2, bl s2, .sl e3, bl t2, .sl e4]) (g0 _ hna0) ?_
    cbv
    refine Ar.idx_ hA (x := .agg [bl s1, .sl e1, bl t1, .sl e2, bl s2, .sl e3, bl t2, .sl e4]) (g0 _ hna0) ?_
    cbv
    refine Ar.set_ hA (fun ra0 hra0 => ?_)
    rw [hna0] at hra0
    have g1 : ∀ n, n = i.toNat → ra0[n]? = some (.agg [bl f0, .sl e1, bl t1, .sl e2, bl s2, .sl e3, bl t2, .sl e4]) := fun n hn => by rw [hn]; exact rset_get (g0 _ rfl) hra0
    cbv
    refine Ar.add_ hA (by omega) (fun x0 hx0 => ?_)
    cbv
    have d0 := d_laws_markIntS (k := x0) he1 hlo.1.1 ⟨by omega, by omega⟩
    obtain ⟨o0, ho0⟩ : ∃ o, o = (countUp l1.length x0).map i64 := ⟨_, rfl⟩
    obtain ⟨y0, hy0⟩ : ∃ y, y = onFrom l1.length x0 := ⟨_, rfl⟩
    have hyb0 := onFrom_le (n := l1.length) (k := x0) (m := x0) ⟨by omega, by omega⟩ hlo.1.1
    rw [← hy0] at hyb0
    rw [← ho0, ← hy0] at d0
    refine Ar.nn_ hA h1 ?_
    cbv
    refine Ar.toN_ hA (fun nb0 hnb0 => ?_)
    cbv
    refine Ar.idx_ hA (x := .agg [bl f0, .sl e1, bl t1, .sl e2, bl s2, .sl e3, bl t2, .sl e4]) (g1 _ hnb0) ?_
    cbv
    refine Ar.idx_ hA (x := .agg [bl f0, .sl e1, bl t1, .sl e2, bl s2, .sl e3, bl t2, .sl e4]) (g1 _ hnb0) ?_
    cbv
    refine Ar.call_ hA c_laws_markIntS d0 rfl ?_
    cbv
    refine Ar.idx_ hA (x := .agg [bl f0, .sl e1, bl t1, .sl e2, bl s2, .sl e3, bl t2, .sl e4]) (g1 _ hnb0) ?_
    cbv
    refine Ar.set_ hA (fun rb0 hrb0 => ?_)
    rw [hnb0] at hrb0
    have g2 : ∀ n, n = i.toNat → rb0[n]? = some (.agg [bl f0, .sl o0, bl t1, .sl e2, bl s2, .sl e3, bl t2, .sl e4]) := fun n hn => by rw [hn]; exact rset_get (g1 _ rfl) hrb0
    have hrb0 := rset_set hra0 hrb0
    clear g0 g1 d0 hna0 hnb0 hra0
    cbv
    refine Ar.nz_ hA (by omega) ?_
    cbv
    refine Ar.rem_ hA (by omega) (fun c1 hc1 => ?_)
    cbv
    refine Ar.eqD hA (fun f1 hf1 => ?_)
    cbv
    refine Ar.nn_ hA h1 ?_
    cbv
    refine Ar.toN_ hA (fun na1 hna1 => ?_)
    cbv
    refine Ar.idx_ hA (x := .agg [bl f0, .sl o0, bl t1, .sl e2, bl s2, .sl e3, bl t2, .sl e4]) (g2 _ hna1) ?_
    cbv
    refine Ar.idx_ hA (x := .agg [bl f0, .sl o0, bl t1, .sl e2, bl s2, .sl e3, bl t2, .sl e4]) (g2 _ hna1) ?_
    cbv
    refine Ar.set_ hA (fun ra1 hra1 => ?_)
    rw [hna1] at hra1
    have g3 : ∀ n, n = i.toNat → ra1[n]? = some (.agg [bl f0, .sl o0, bl f1, .sl e2, bl s2, .sl e3, bl t2, .sl e4]) := fun n hn => by rw [hn]; exact rset_get (g2 _ rfl) hra1
    have hra1 := rset_set hrb0 hra1
    cbv
    refine Ar.add_ hA (by omega) (fun x1 hx1 => ?_)
    cbv
    have d1 := d_laws_markIntS (k := x1) he2 hlo.1.2 ⟨by omega, by omega⟩
    obtain ⟨o1, ho1⟩ : ∃ o, o = (countUp m1.length x1).map i64 := ⟨_, rfl⟩
    obtain ⟨y1, hy1⟩ : ∃ y, y = onFrom m1.length x1 := ⟨_, rfl⟩
    have hyb1 := onFrom_le (n := m1.length) (k := x1) (m := x1) ⟨by omega, by omega⟩ hlo.1.2
    rw [← hy1] at hyb1
    rw [← ho1, ← hy1] at d1
    refine Ar.nn_ hA h1 ?_
    cbv
    refine Ar.toN_ hA (fun nb1 hnb1 => ?_)
    cbv
    refine Ar.idx_ hA (x := .agg [bl f0, .sl o0, bl f1, .sl e2, bl s2, .sl e3, bl t2, .sl e4]) (g3 _ hnb1) ?_
    cbv
    refine Ar.idx_ hA (x := .agg [bl f0, .sl o0, bl f1, .sl e2, bl s2, .sl e3, bl t2, .sl e4]) (g3 _ hnb1) ?_
    cbv
    refine Ar.call_ hA c_laws_markIntS d1 rfl ?_
    cbv
    refine Ar.idx_ hA (x := .agg [bl f0, .sl o0, bl f1, .sl e2, bl s2, .sl e3, bl t2, .sl e4]) (g3 _ hnb1) ?_
    cbv
    refine Ar.set_ hA (fun rb1 hrb1 => ?_)
    rw [hnb1] at hrb1
    have g4 : ∀ n, n = i.toNat → rb1[n]? = some (.agg [bl f0, .sl o0, bl f1, .sl o1, bl s2, .sl e3, bl t2, .sl e4]) := fun n hn => by rw [hn]; exact rset_get (g3 _ rfl) hrb1
    have hrb1 := rset_set hra1 hrb1
    clear g2 g3 d1 hna1 hnb1 hra1
    cbv
    refine Ar.nz_ hA (by omega) ?_
    cbv
    refine Ar.rem_ hA (by omega) (fun c2 hc2 => ?_)
    cbv
    refine Ar.eqD hA (fun f2 hf2 => ?_)
    cbv
    refine Ar.nn_ hA h1 ?_
    cbv
    refine Ar.toN_ hA (fun na2 hna2 => ?_)
    cbv
    refine Ar.idx_ hA (x := .agg [bl f0, .sl o0, bl f1, .sl o1, bl s2, .sl e3, bl t2, .sl e4]) (g4 _ hna2) ?_
    cbv
    refine Ar.idx_ hA (x := .agg [bl f0, .sl o0, bl f1, .sl o1, bl s2, .sl e3, bl t2, .sl e4]) (g4 _ hna2) ?_
    cbv
    refine Ar.set_ hA (fun ra2 hra2 => ?_)
    rw [hna2] at hra2
    have g5 : ∀ n, n = i.toNat → ra2[n]? = some (.agg [bl f0, .sl o0, bl f1, .sl o1, bl f2, .sl e3, bl t2, .sl e4]) := fun n hn => by rw [hn]; exact rset_get (g4 _ rfl) hra2
    have hra2 := rset_set hrb1 hra2
    cbv
    refine Ar.add_ hA (by omega) (fun x2 hx2 => ?_)
    cbv
    have d2 := d_laws_markIntS (k := x2) he3 hlo.2.1 ⟨by omega, by omega⟩
    obtain ⟨o2, ho2⟩ : ∃ o, o = (countUp l2.length x2).map i64 := ⟨_, rfl⟩
    obtain ⟨y2, hy2⟩ : ∃ y, y = onFrom l2.length x2 := ⟨_, rfl⟩
    have hyb2 := onFrom_le (n := l2.length) (k := x2) (m := x2) ⟨by omega, by omega⟩ hlo.2.1
    rw [← hy2] at hyb2
    rw [← ho2, ← hy2] at d2
    refine Ar.nn_ hA h1 ?_
    cbv
    refine Ar.toN_ hA (fun nb2 hnb2 => ?_)
    cbv
    refine Ar.idx_ hA (x := .agg [bl f0, .sl o0, bl f1, .sl o1, bl f2, .sl e3, bl t2, .sl e4]) (g5 _ hnb2) ?_
    cbv
    refine Ar.idx_ hA (x := .agg [bl f0, .sl o0, bl f1, .sl o1, bl f2, .sl e3, bl t2, .sl e4]) (g5 _ hnb2) ?_
    cbv
    refine Ar.call_ hA c_laws_markIntS d2 rfl ?_
    cbv
    refine Ar.idx_ hA (x := .agg [bl f0, .sl o0, bl f1, .sl o1, bl f2, .sl e3, bl t2, .sl e4]) (g5 _ hnb2) ?_
    cbv
    refine Ar.set_ hA (fun rb2 hrb2 => ?_)
    rw [hnb2] at hrb2
    have g6 : ∀ n, n = i.toNat → rb2[n]? = some (.agg [bl f0, .sl o0, bl f1, .sl o1, bl f2, .sl o2, bl t2, .sl e4]) := fun n hn => by rw [hn]; exact rset_get (g5 _ rfl) hrb2
    have hrb2 := rset_set hra2 hrb2
    clear g4 g5 d2 hna2 hnb2 hra2
    cbv
    refine Ar.nz_ hA (by omega) ?_
    cbv
    refine Ar.rem_ hA (by omega) (fun c3 hc3 => ?_)
    cbv
    refine Ar.eqD hA (fun f3 hf3 => ?_)
    cbv
    refine Ar.nn_ hA h1 ?_
    cbv
    refine Ar.toN_ hA (fun na3 hna3 => ?_)
    cbv
    refine Ar.idx_ hA (x := .agg [bl f0, .sl o0, bl f1, .sl o1, bl f2, .sl o2, bl t2, .sl e4]) (g6 _ hna3) ?_
    cbv
    refine Ar.idx_ hA (x := .agg [bl f0, .sl o0, bl f1, .sl o1, bl f2, .sl o2, bl t2, .sl e4]) (g6 _ hna3) ?_
    cbv
    refine Ar.set_ hA (fun ra3 hra3 => ?_)
    rw [hna3] at hra3
    have g7 : ∀ n, n = i.toNat → ra3[n]? = some (.agg [bl f0, .sl o0, bl f1, .sl o1, bl f2, .sl o2, bl f3, .sl e4]) := fun n hn => by rw [hn]; exact rset_get (g6 _ rfl) hra3
    have hra3 := rset_set hrb2 hra3
    cbv
    refine Ar.add_ hA (by omega) (fun x3 hx3 => ?_)
    cbv
    have d3 := d_laws_markIntS (k := x3) he4 hlo.2.2 ⟨by omega, by omega⟩
    obtain ⟨o3, ho3⟩ : ∃ o, o = (countUp m2.length x3).map i64 := ⟨_, rfl⟩
    obtain ⟨y3, hy3⟩ : ∃ y, y = onFrom m2.length x3 := ⟨_, rfl⟩
    have hyb3 := onFrom_le (n := m2.length) (k := x3) (m := x3) ⟨by omega, by omega⟩ hlo.2.2
    rw [← hy3] at hyb3
    rw [← ho3, ← hy3] at d3
    refine Ar.nn_ hA h1 ?_
    cbv
    refine Ar.toN_ hA (fun nb3 hnb3 => ?_)
    cbv
    refine Ar.idx_ hA (x := .agg [bl f0, .sl o0, bl f1, .sl o1, bl f2, .sl o2, bl f3, .sl e4]) (g7 _ hnb3) ?_
    cbv
    refine Ar.idx_ hA (x := .agg [bl f0, .sl o0, bl f1, .sl o1, bl f2, .sl o2, bl f3, .sl e4]) (g7 _ hnb3) ?_
    cbv
    refine Ar.call_ hA c_laws_markIntS d3 rfl ?_
    cbv
    refine Ar.idx_ hA (x := .agg [bl f0, .sl o0, bl f1, .sl o1, bl f2, .sl o2, bl f3, .sl e4]) (g7 _ hnb3) ?_
    cbv
    refine Ar.set_ hA (fun rb3 hrb3 => ?_)
    rw [hnb3] at hrb3
    have g8 : ∀ n, n = i.toNat → rb3[n]? = some (.agg [bl f0, .sl o0, bl f1, .sl o1, bl f2, .sl o2, bl f3, .sl o3]) := fun n hn => by rw [hn]; exact rset_get (g7 _ rfl) hrb3
    have hrb3 := rset_set hra3 hrb3
    clear g6 g7 d3 hna3 hnb3 hra3
    cbv
    refine Ar.add_ hA (by omega) (fun k' hk' => ?_)
    cbv
    refine ⟨(k', rb3, y3), (by show l.length - k'.toNat < l.length - i.toNat; omega), ⟨by omega, by omega, ?_, ?_⟩, rfl, ⟨rfl, rfl, rfl, trivial⟩, rfl, trivial⟩
    · have hm : ms[j]? = some (.agg [bl f0, .sl o0, bl f1, .sl o1, bl f2, .sl o2, bl f3, .sl o3]) := by
        rw [hms, List.getElem?_map, hstep]
        subst ho3 hy3 hx3 hf3 hc3
        subst ho2 hy2 hx2 hf2 hc2
        subst ho1 hy1 hx1 hf1 hc1
        subst ho0 hy0 hx0 hf0 hc0
        rfl
      rw [hrb3, h3, show k'.toNat = j + 1 by omega, ← hj]
      exact over_step (by omega) hm
    · rw [show k'.toNat = j + 1 by omega, hnext]
      subst ho3 hy3 hx3 hf3 hc3
      subst ho2 hy2 hx2 hf2 hc2
      subst ho1 hy1 hx1 hf1 hc1
      subst ho0 hy0 hx0 hf0 hc0
      rfl
  · cbv
    refine Ar.same_ hA (by omega) ?_
    cbv
    refine hK _ _ ?_ ?_
    · rw [h4, List.take_of_length_le (by omega), hr]
    · rw [h3, List.take_of_length_le (by omega), List.drop_eq_nil_of_le (by omega)]; simp

theorem c_laws_heldRPtS : Callable Tryz.prog 29 := ⟨_, Tryz.func29, rfl, by kernel_rfl⟩
theorem d_laws_heldRPtS {ms : List PV} {l : List R8} {k r : Int} (hb : l.length ≤ 1048576) (hb2 : ∀ p ∈ l, len8 1048576 p) (hk : 0 ≤ k ∧ k ≤ 1000000000000) (hms : ms = (mkL mk8 nx8 l k).map r8pv) (hr : r = nxL nx8 l k) : Does Tryz.prog 29 [.sl ms, i64 k] (.pv (i64 r)) [] := by
  refine does_of hT hM Tryz.func29 rfl (D := []) (by kernel_rfl) rfl rfl rfl (fun A K hA hK => ?_)
  have hml : ms.length = l.length := by rw [hms]; simp [mkL_len]
  cbv
  refine Ar.loop_ hA (α := Int × Int) (fun x => l.length - x.1.toNat) (fun (i, q) => 0 ≤ i ∧ i.toNat ≤ l.length ∧ q = nxL nx8 (l.take i.toNat) k) 109 (fun (i, q) => [(0, .pv (.sl ms) []), (1, .pv (i64 q) []), (5, .pv (i64 i) [])]) (fun _ => []) (0, k) ⟨rfl, ⟨rfl, rfl, rfl, trivial⟩, trivial⟩ ⟨by omega, by simp, rfl⟩ ?_
  intro ⟨i, q0⟩ s f ⟨h1, h2, h4⟩
  have hq := nxL_take_le (nx := nx8) (ok := len8 1048576) (fun _ _ => nx8_le) (l := l) (k := k) (n := i.toNat) hb2 hb hk.1
  rw [← h4] at hq
  cbv
  refine Ar.len_ hA (fun n2 hn2 hn2' => ?_)
  cbv
  refine Ar.lss_ hA (fun h => ?_) (fun h => ?_)
  · obtain ⟨j, hj⟩ : ∃ j, j = i.toNat := ⟨_, rfl⟩
    obtain ⟨p, hp⟩ : ∃ p, l[j]? = some p := ⟨l[j]'(by omega), List.getElem?_eq_getElem _⟩
    obtain ⟨s1, l1, t1, m1, s2, l2, t2, m2, hpe⟩ : ∃ s1 l1 t1 m1 s2 l2 t2 m2, p = (((s1, l1), (t1, m1)), ((s2, l2), (t2, m2))) := ⟨_, _, _, _, _, _, _, _, rfl⟩
    have hlo := hb2 _ (List.mem_of_getElem? hp)
    rw [hpe] at hlo
    have hstep := mkL_get (mk := mk8) (nx := nx8) (k := k) hp
    have hnext := nxL_step (nx := nx8) (k := k) hp
    rw [show l.take j = l.take i.toNat by rw [hj], ← h4, hpe] at hstep hnext
    obtain ⟨f0, hf0⟩ : ∃ f, f = fl q0 := ⟨_, rfl⟩
    obtain ⟨x0, hx0⟩ : ∃ x, x = q0 + 1 := ⟨_, rfl⟩
    obtain ⟨o0, ho0⟩ : ∃ o, o = (countUp l1.length x0).map i64 := ⟨_, rfl⟩
    obtain ⟨y0, hy0⟩ : ∃ y, y = onFrom l1.length x0 := ⟨_, rfl⟩
    have hyb0 := onFrom_le (n := l1.length) (k := x0) (m := x0) ⟨by omega, by omega⟩ hlo.1.1
    rw [← hy0] at hyb0
    have d0 := d_laws_heldIntS (k := x0) ho0 hlo.1.1 ⟨by omega, by omega⟩
    rw [← hy0] at d0
    obtain ⟨f1, hf1⟩ : ∃ f, f = fl y0 := ⟨_, rfl⟩
    obtain ⟨x1, hx1⟩ : ∃ x, x = y0 + 1 := ⟨_, rfl⟩
    obtain ⟨o1, ho1⟩ : ∃ o, o = (countUp m1.length x1).map i64 := ⟨_, rfl⟩
    obtain ⟨y1, hy1⟩ : ∃ y, y = onFrom m1.length x1 := ⟨_, rfl⟩
    have hyb1 := onFrom_le (n := m1.length) (k := x1) (m := x1) ⟨by omega, by omega⟩ hlo.1.2
    rw [← hy1] at hyb1
    have d1 := d_laws_heldIntS (k := x1) ho1 hlo.1.2 ⟨by omega, by omega⟩
    rw [← hy1] at d1
    obtain ⟨f2, hf2⟩ : ∃ f, f = fl y1 := ⟨_, rfl⟩
    obtain ⟨x2, hx2⟩ : ∃ x, x = y1 + 1 := ⟨_, rfl⟩
    obtain ⟨o2, ho2⟩ : ∃ o, o = (countUp l2.length x2).map i64 := ⟨_, rfl⟩
    obtain ⟨y2, hy2⟩ : ∃ y, y = onFrom l2.length x2 := ⟨_, rfl⟩
    have hyb2 := onFrom_le (n := l2.length) (k := x2) (m := x2) ⟨by omega, by omega⟩ hlo.2.1
    rw [← hy2] at hyb2
    have d2 := d_laws_heldIntS (k := x2) ho2 hlo.2.1 ⟨by omega, by omega⟩
    rw [← hy2] at d2
    obtain ⟨f3, hf3⟩ : ∃ f, f = fl y2 := ⟨_, rfl⟩
    obtain ⟨x3, hx3⟩ : ∃ x, x = y2 + 1 := ⟨_, rfl⟩
    obtain ⟨o3, ho3⟩ : ∃ o, o = (countUp m2.length x3).map i64 := ⟨_, rfl⟩
    obtain ⟨y3, hy3⟩ : ∃ y, y = onFrom m2.length x3 := ⟨_, rfl⟩
    have hyb3 := onFrom_le (n := m2.length) (k := x3) (m := x3) ⟨by omega, by omega⟩ hlo.2.2
    rw [← hy3] at hyb3
    have d3 := d_laws_heldIntS (k := x3) ho3 hlo.2.2 ⟨by omega, by omega⟩
    rw [← hy3] at d3
    have hm : ∀ n, n = i.toNat → ms[n]? = some (.agg [bl f0, .sl o0, bl f1, .sl o1, bl f2, .sl o2, bl f3, .sl o3]) := fun n hn => by
      rw [hn, ← hj, hms, List.getElem?_map, hstep]
      subst ho3 hy3 hx3 hf3
      subst ho2 hy2 hx2 hf2
      subst ho1 hy1 hx1 hf1
      subst ho0 hy0 hx0 hf0
      rfl
    have hnx : nxL nx8 (l.take (j + 1)) k = y3 := by
      rw [hnext]
      subst ho3 hy3 hx3 hf3
      subst ho2 hy2 hx2 hf2
      subst ho1 hy1 hx1 hf1
      subst ho0 hy0 hx0 hf0
      rfl
    have hilt : i.toNat < l.length := by omega
    clear hnext hstep hn2 hn2' h ho0 hy0 ho1 hy1 ho2 hy2 ho3 hy3
    cbv
    refine Ar.nn_ hA h1 ?_
    cbv
    refine Ar.toN_ hA (fun na0 hna0 => ?_)
    cbv
    refine Ar.idx_ hA (x := .agg [bl f0, .sl o0, bl f1, .sl o1, bl f2, .sl o2, bl f3, .sl o3]) (hm _ hna0) ?_
    cbv
    refine Ar.nz_ hA (by omega) ?_
    cbv
    refine Ar.rem_ hA (by omega) (fun c0 hc0 => ?_)
    cbv
    refine Ar.eqD hA (fun z0 hz0 => ?_)
    cbv
    refine Ar.bneq_ hA (fun h => absurd (by rw [hf0, hz0, hc0]; rfl) h) (fun _ => ?_)
    cbv
    refine Ar.add_ hA (by omega) (fun u0 hu0 => ?_)
    obtain rfl : u0 = x0 := by omega
    cbv
    refine Ar.nn_ hA h1 ?_
    cbv
    refine Ar.toN_ hA (fun nb0 hnb0 => ?_)
    cbv
    refine Ar.idx_ hA (x := .agg [bl f0, .sl o0, bl f1, .sl o1, bl f2, .sl o2, bl f3, .sl o3]) (hm _ hnb0) ?_
    cbv
    refine Ar.call_ hA c_laws_heldIntS d0 rfl ?_
    cbv
    refine Ar.lss_ hA (fun h => absurd h (by omega)) (fun _ => ?_)
    clear d0 hz0 hc0 hna0 hnb0
    cbv
    refine Ar.nn_ hA h1 ?_
    cbv
    refine Ar.toN_ hA (fun na1 hna1 => ?_)
    cbv
    refine Ar.idx_ hA (x := .agg [bl f0, .sl o0, bl f1, .sl o1, bl f2, .sl o2, bl f3, .sl o3]) (hm _ hna1) ?_
    cbv
    refine Ar.nz_ hA (by omega) ?_
    cbv
    refine Ar.rem_ hA (by omega) (fun c1 hc1 => ?_)
    cbv
    refine Ar.eqD hA (fun z1 hz1 => ?_)
    cbv
    refine Ar.bneq_ hA (fun h => absurd (by rw [hf1, hz1, hc1]; rfl) h) (fun _ => ?_)
    cbv
    refine Ar.add_ hA (by omega) (fun u1 hu1 => ?_)
    obtain rfl : u1 = x1 := by omega
    cbv
    refine Ar.nn_ hA h1 ?_
    cbv
    refine Ar.toN_ hA (fun nb1 hnb1 => ?_)
    cbv
    refine Ar.idx_ hA (x := .agg [bl f0, .sl o0, bl f1, .sl o1, bl f2, .sl o2, bl f3, .sl o3]) (hm _ hnb1) ?_
    cbv
    refine Ar.call_ hA c_laws_heldIntS d1 rfl ?_
    cbv
    refine Ar.lss_ hA (fun h => absurd h (by omega)) (fun _ => ?_)
    clear d1 hz1 hc1 hna1 hnb1
    cbv
    refine Ar.nn_ hA h1 ?_
    cbv
    refine Ar.toN_ hA (fun na2 hna2 => ?_)
    cbv
    refine Ar.idx_ hA (x := .agg [bl f0, .sl o0, bl f1, .sl o1, bl f2, .sl o2, bl f3, .sl o3]) (hm _ hna2) ?_
    cbv
    refine Ar.nz_ hA (by omega) ?_
    cbv
    refine Ar.rem_ hA (by omega) (fun c2 hc2 => ?_)
    cbv
    refine Ar.eqD hA (fun z2 hz2 => ?_)
    cbv
    refine Ar.bneq_ hA (fun h => absurd (by rw [hf2, hz2, hc2]; rfl) h) (fun _ => ?_)
    cbv
    refine Ar.add_ hA (by omega) (fun u2 hu2 => ?_)
    obtain rfl : u2 = x2 := by omega
    cbv
    refine Ar.nn_ hA h1 ?_
    cbv
    refine Ar.toN_ hA (fun nb2 hnb2 => ?_)
    cbv
    refine Ar.idx_ hA (x := .agg [bl f0, .sl o0, bl f1, .sl o1, bl f2, .sl o2, bl f3, .sl o3]) (hm _ hnb2) ?_
    cbv
    refine Ar.call_ hA c_laws_heldIntS d2 rfl ?_
    cbv
    refine Ar.lss_ hA (fun h => absurd h (by omega)) (fun _ => ?_)
    clear d2 hz2 hc2 hna2 hnb2
    cbv
    refine Ar.nn_ hA h1 ?_
    cbv
    refine Ar.toN_ hA (fun na3 hna3 => ?_)
    cbv
    refine Ar.idx_ hA (x := .agg [bl f0, .sl o0, bl f1, .sl o1, bl f2, .sl o2, bl f3, .sl o3]) (hm _ hna3) ?_
    cbv
    refine Ar.nz_ hA (by omega) ?_
    cbv
    refine Ar.rem_ hA (by omega) (fun c3 hc3 => ?_)
    cbv
    refine Ar.eqD hA (fun z3 hz3 => ?_)
    cbv
    refine Ar.bneq_ hA (fun h => absurd (by rw [hf3, hz3, hc3]; rfl) h) (fun _ => ?_)
    cbv
    refine Ar.add_ hA (by omega) (fun u3 hu3 => ?_)
    obtain rfl : u3 = x3 := by omega
    cbv
    refine Ar.nn_ hA h1 ?_
    cbv
    refine Ar.toN_ hA (fun nb3 hnb3 => ?_)
    cbv
    refine Ar.idx_ hA (x := .agg [bl f0, .sl o0, bl f1, .sl o1, bl f2, .sl o2, bl f3, .sl o3]) (hm _ hnb3) ?_
    cbv
    refine Ar.call_ hA c_laws_heldIntS d3 rfl ?_
    cbv
    refine Ar.lss_ hA (fun h => absurd h (by omega)) (fun _ => ?_)
    clear d3 hz3 hc3 hna3 hnb3
    cbv
    refine Ar.add_ hA (by omega) (fun k' hk' => ?_)
    cbv
    exact ⟨(k', y3), (by show l.length - k'.toNat < l.length - i.toNat; omega), ⟨by omega, by omega, by rw [show k'.toNat = j + 1 by omega, hnx]⟩, rfl, ⟨rfl, rfl, rfl, trivial⟩, trivial⟩
  · cbv
    refine hK _ _ ?_ rfl
    rw [h4, List.take_of_length_le (by omega), hr]

end Go.VAI
