/- Valid fractions and points, on both sides. -/
import Derived.Test.YtialfhjffkoakaaGreatNQ
namespace Go.VAI
open Go.Proofs
set_option maxRecDepth 100000
set_option maxHeartbeats 8000000

abbrev R4 := (Bool × List Int) × (Bool × List Int)
abbrev R8 := R4 × R4
def r4pv (r : R4) : PV := .agg [bl r.1.1, .sl (r.1.2.map i64), bl r.2.1, .sl (r.2.2.map i64)]
def r8pv (r : R8) : PV := .agg [bl r.1.1.1, .sl (r.1.1.2.map i64), bl r.1.2.1, .sl (r.1.2.2.map i64), bl r.2.1.1, .sl (r.2.1.2.map i64), bl r.2.2.1, .sl (r.2.2.2.map i64)]
def lenOk (r : R4) : Prop := r.1.2.length ≤ 9223372036854775807 ∧ r.2.2.length ≤ 9223372036854775807
def goodR (r : R4) : Bool := goodB r.1.1 r.1.2 && goodB r.2.1 r.2.2 && !r.2.1 && decide (r.2.2.length ≠ 0) && decide ((Int.gcd (ev r.1.2) (ev r.2.2) : Int) = 1)
def shortR (k : Nat) (r : R4) : Bool := decide (r.1.2.length ≤ k) && decide (r.2.2.length ≤ k)

theorem pw40 {k : Nat} {l : List Int} (h : Lim l) (hl : l.length ≤ k) : ev l < pw k := by
  have := h.bound
  have := pw_le hl
  omega
/-- What a valid fraction is. -/
theorem goodR_rat {r : R4} {k : Nat} (h : goodR r = true) (hs : shortR k r = true) : ∃ q : Rat, RatP r.1.1 (r.1.2.map i64) r.2.1 (r.2.2.map i64) q ∧ Sz k q := by
  obtain ⟨⟨s, l⟩, t, m⟩ := r
  unfold goodR at h
  unfold shortR at hs
  simp only [Bool.and_eq_true, decide_eq_true_eq, Bool.not_eq_true'] at h hs
  obtain ⟨⟨⟨⟨h1, h2⟩, h3⟩, h4⟩, h5⟩ := h
  subst h3
  obtain ⟨b1, c1⟩ := goodB_big h1
  obtain ⟨b2, c2⟩ := goodB_big h2
  have k1 := goodB_iff.1 h1
  have k2 := goodB_iff.1 h2
  have hm : m ≠ [] := by rintro rfl; simp at h4
  have hpos := k2.1.pos hm
  have e2 : sg false (ev m) = ev m := rfl
  rw [e2] at b2
  refine ⟨Rat.divInt (sg s (ev l)) (ev m), ?_, Sz.divInt (by omega) ?_ ?_⟩
  · obtain ⟨e3, e4⟩ := divInt_parts (x := sg s (ev l)) (y := ev m) (by omega)
    have hg : (Int.gcd (sg s (ev l)) (ev m) : Int) = 1 := by
      rw [← h5]; unfold sg; split <;> simp
    rw [hg, if_neg (by omega), Int.tdiv_one] at e3 e4
    exact ⟨by rw [e3]; exact b1, by rw [e4]; exact b2⟩
  · have := pw40 k1.1.1 hs.1
    have := k1.1.1.bound
    unfold iabs sg; (repeat' split) <;> omega
  · have := pw40 k2.1.1 hs.2
    rw [iabs_of (by omega)]; exact this
theorem goodR_short {r : R4} (h : goodR r = true) : shortR 40 r = true := by
  unfold goodR at h
  unfold shortR
  simp only [Bool.and_eq_true, decide_eq_true_eq] at h ⊢
  exact ⟨(goodB_iff.1 h.1.1.1.1).2.1, (goodB_iff.1 h.1.1.1.2).2.1⟩

theorem num_one : Num [i64 1] 1 := ⟨[1], rfl, ⟨Lim.one.2 (by omega), by simp⟩, by simp [ev]⟩
theorem cmpI_eq {x y : Int} : cmpI x y = 0 ↔ x = y := by unfold cmpI; (repeat' split) <;> omega

theorem c_spec_GoodRat : Callable Tryz.prog 90 := ⟨_, Tryz.func90, rfl, by kernel_rfl⟩
theorem d_spec_GoodRat {s t : Bool} {a b : List PV} {l m : List Int} (ha : a = l.map i64) (hb : b = m.map i64) (hl : l.length ≤ 9223372036854775807) (hm : m.length ≤ 9223372036854775807) : Does Tryz.prog 90 [.agg [bl s, .sl a, bl t, .sl b]] (.pv (bl (goodR ((s, l), (t, m))))) [] := by
  refine does_of hT hM Tryz.func90 rfl (D := []) (by kernel_rfl) rfl rfl rfl (fun A K hA hK => ?_)
  have d1 := d_spec_GoodBig (s := s) ha hl
  have d2 := d_spec_GoodBig (s := t) hb hm
  have hG : goodR ((s, l), (t, m)) = (goodB s l && goodB t m && !t && decide (m.length ≠ 0) && decide ((Int.gcd (ev l) (ev m) : Int) = 1)) := rfl
  generalize goodR ((s, l), (t, m)) = G at *
  have hbl : b.length = m.length := by rw [hb]; simp
  have k1 := fun h => goodB_iff.1 (show goodB s l = true from h)
  have k2 := fun h => goodB_iff.1 (show goodB t m = true from h)
  generalize goodB s l = B1 at *
  generalize goodB t m = B2 at *
  have hg0 : (0 : Int) ≤ Int.gcd (ev l) (ev m) := by omega
  have dg := fun c hl hc => d_spec_l1Gcd (a := a) (b := b) (c := c) (x := ev l) (y := ev m) hl hc
  obtain ⟨c, hc⟩ := Num.ex hg0
  have dc := d_spec_l1Cmp hc num_one
  have dG := fun h1 h2 => d_spec_l1Gcd (a := a) (b := b) (c := c) (x := ev l) (y := ev m) (by rw [ha]; exact Num.of (k1 h1).1 rfl) (by rw [hb]; exact Num.of (k2 h2).1 rfl) ⟨by rw [ha]; simp; have := (k1 h1).2.1; omega, by rw [hb]; simp; have := (k2 h2).2.1; omega⟩ hc
  have lc := fun h1 h2 (h3 : m.length ≠ 0) => gcd_len (s := false) (t := false) (a := a) (b := b) (c := c) (x := ev l) (y := ev m) (big_pos (by rw [ha]; exact Num.of (k1 h1).1 rfl)) (big_pos (by rw [hb]; exact Num.of (k2 h2).1 rfl)) (by have := (k2 h2).1.pos (by intro e; rw [e] at h3; simp at h3); omega) hc
  have lm := fun h2 => (k2 h2).2.1
  have e0 := @cmpI_eq (Int.gcd (ev l) (ev m)) 1
  generalize (Int.gcd (ev l) (ev m) : Int) = g at *
  clear k1 k2 dg ha hb
  cases t
  all_goals
    cbv
    refine Ar.callT hA c_spec_GoodBig d1 rfl (fun h1 => ?_) (fun h1 => ?_)
    · cbv
      refine Ar.notT_ hA ?_
      cbv
      refine Ar.callT hA c_spec_GoodBig d2 rfl (fun h2 => ?_) (fun h2 => ?_)
      · have dG' := dG h1 h2
        have lm' := lm h2
        have lc' := lc h1 h2
        cbv
        refine Ar.notT_ hA ?_
        cbv
        first
        | exact hK _ _ (by rw [hG, h1, h2]; rfl) rfl
        | (refine Ar.len_ hA (fun n hn hn' => ?_)
           cbv
           refine Ar.eql_ hA (fun h3 => ?_) (fun h3 => ?_)
           · cbv
             exact hK _ _ (by rw [hG, h1, h2, decide_eq_false (by omega)]; rfl) rfl
           · have lc'' := lc' (by omega)
             have dc' := dc ⟨by omega, by simp⟩
             cbv
             refine Ar.call_ hA c_spec_l1Gcd dG' rfl ?_
             cbv
             refine Ar.callI hA c_spec_l1Cmp dc' rfl (fun r hr => ?_)
             cbv
             refine Ar.eql_ hA (fun h4 => ?_) (fun h4 => ?_)
             · cbv
               exact hK _ _ (by rw [hG, h1, h2, decide_eq_true (show m.length ≠ 0 by omega), decide_eq_true (e0.1 (by omega))]; rfl) rfl
             · cbv
               exact hK _ _ (by rw [hG, h1, h2, decide_eq_true (show m.length ≠ 0 by omega), decide_eq_false (mt e0.2 (by omega))]; rfl) rfl)
      · cbv
        refine Ar.notF_ hA ?_
        cbv
        exact hK _ _ (by rw [hG, h1, h2]; rfl) rfl
    · cbv
      refine Ar.notF_ hA ?_
      cbv
      exact hK _ _ (by rw [hG, h1]; rfl) rfl

theorem c_impl_GoodRat : Callable Tryz.prog 95 := ⟨_, Tryz.func95, rfl, by kernel_rfl⟩
theorem d_impl_GoodRat {s t : Bool} {a b : List PV} {l m : List Int} (ha : a = l.map i64) (hb : b = m.map i64) (hl : l.length ≤ 9223372036854775807) (hm : m.length ≤ 9223372036854775807) : Does Tryz.prog 95 [.agg [bl s, .sl a, bl t, .sl b]] (.pv (bl (goodR ((s, l), (t, m))))) [] := by
  refine does_of hT hM Tryz.func95 rfl (D := []) (by kernel_rfl) rfl rfl rfl (fun A K hA hK => ?_)
  obtain ⟨es, hes⟩ : ∃ es, es = [PV.agg [bl s, .sl a], .agg [bl t, .sl b]] := ⟨_, rfl⟩
  have d1 := d_impl_areBig (es := es) (l := [(s, l), (t, m)]) (by rw [hes, ha, hb]; rfl) (by simp) (by simp; exact ⟨hl, hm⟩)
  have hall : allB [(s, l), (t, m)] = (goodB s l && goodB t m) := by simp [allB]
  rw [hall, hes] at d1
  have hG : goodR ((s, l), (t, m)) = (goodB s l && goodB t m && !t && decide (m.length ≠ 0) && decide ((Int.gcd (ev l) (ev m) : Int) = 1)) := rfl
  generalize goodR ((s, l), (t, m)) = G at *
  have k1 := fun h : goodB s l = true => goodB_iff.1 h
  have k2 := fun h : goodB t m = true => goodB_iff.1 h
  have g1 := fun h : goodB s l = true => (goodB_big h).1
  have g2 := fun h : goodB t m = true => (goodB_big h).1
  rw [← ha] at g1
  rw [← hb] at g2
  have hgg : (Int.gcd (sg s (ev l)) (sg t (ev m)) : Int) = Int.gcd (ev l) (ev m) := by
    unfold sg; (repeat' split) <;> simp
  have e0 := @cmpI_eq (Int.gcd (ev l) (ev m)) 1
  have hg0 : (0 : Int) ≤ Int.gcd (ev l) (ev m) := by omega
  obtain ⟨c, hc⟩ := Num.ex hg0
  obtain ⟨s1, o1, ho1⟩ := Big.ex 1
  have d5 := d_impl_BigOf (n := 1) (by omega) ho1
  have lo := ho1.1.len (k := 1) (by unfold iabs; simp only [pw]; omega)
  have lal : a.length = l.length := by rw [ha]; simp
  have lbl : b.length = m.length := by rw [hb]; simp
  have hev : goodB t m = true → (0 < sg t (ev m) ↔ t = false ∧ m.length ≠ 0) := fun h => by
    have hk := k2 h
    have h0 := hk.1.1.bound.1
    cases t with
    | true =>
      have : sg true (ev m) = -(ev m) := rfl
      rw [this]; simp; omega
    | false =>
      have : sg false (ev m) = ev m := rfl
      rw [this]
      simp only [true_and]
      constructor
      · intro h1 h2
        rw [List.eq_nil_of_length_eq_zero h2] at h1; simp [ev] at h1
      · intro h1
        exact hk.1.pos (by intro e; rw [e] at h1; simp at h1)
  have dS := fun h => d_impl_Big_sign (g2 h)
  have hsg : 0 < sgn (sg t (ev m)) ↔ 0 < sg t (ev m) := by unfold sgn; (repeat' split) <;> omega
  have dD := fun h1 h2 => d_impl_Big_gcd (c := c) (g1 h1) (g2 h2) ⟨by have := (k1 h1).2.1; omega, by have := (k2 h2).2.1; omega⟩ (by rw [hgg]; exact hc)
  have lc := fun h1 h2 h3 => gcd_len (c := c) (g1 h1) (g2 h2) h3 (by rw [hgg]; exact hc)
  have dC := fun h => d_impl_compareBig (big_pos hc) ho1 h
  have lm := fun h : goodB t m = true => (k2 h).2.1
  generalize (Int.gcd (ev l) (ev m) : Int) = g at *
  generalize sgn (sg t (ev m)) = S at *
  generalize sg t (ev m) = Y at *
  clear hes k1 k2 hall ha hb
  cbv
  refine Ar.callT hA c_impl_areBig d1 rfl (fun h1 => ?_) (fun h1 => ?_)
  · rw [Bool.and_eq_true] at h1
    obtain ⟨h1, h2⟩ := h1
    have dS' := dS h2
    have dD' := dD h1 h2
    have lc' := lc h1 h2
    have lm' := lm h2
    have hev' := hev h2
    clear dS dD lc lm hev
    cbv
    refine Ar.callI hA c_impl_Big_sign dS' rfl (fun r hr => ?_)
    cbv
    refine Ar.gtr_ hA (fun h3 => ?_) (fun h3 => ?_)
    · have h4 := hsg.1 (by omega)
      have h5 := hev'.1 h4
      have lc'' := lc' (by omega)
      have dC' := dC ⟨by omega, by omega⟩
      cbv
      refine Ar.call_ hA c_impl_Big_gcd dD' rfl ?_
      cbv
      refine Ar.call_ hA c_impl_BigOf d5 rfl ?_
      cbv
      refine Ar.callI hA c_impl_compareBig dC' rfl (fun r2 hr2 => ?_)
      cbv
      refine Ar.eql_ hA (fun h6 => ?_) (fun h6 => ?_)
      · cbv
        exact hK _ _ (by rw [hG, h1, h2, h5.1, decide_eq_true h5.2, decide_eq_true (e0.1 (by omega))]; rfl) rfl
      · cbv
        exact hK _ _ (by rw [hG, h1, h2, h5.1, decide_eq_true h5.2, decide_eq_false (mt e0.2 (by omega))]; rfl) rfl
    · cbv
      refine hK _ _ ?_ rfl
      have h5 := mt hev'.2 (mt hsg.2 (by omega))
      have h6 : (!t && decide (m.length ≠ 0)) = false := by
        cases t with
        | true => rfl
        | false =>
          have h7 : ¬ m.length ≠ 0 := fun e => h5 ⟨rfl, e⟩
          rw [decide_eq_false h7]; rfl
      rw [hG, h1, h2]
      simp only [Bool.true_and]
      rw [h6]; rfl
  · cbv
    exact hK _ _ (by rw [hG, h1]; rfl) rfl

theorem c_impl_Rat_isShort : Callable Tryz.prog 84 := ⟨_, Tryz.func84, rfl, by kernel_rfl⟩
theorem d_impl_Rat_isShort {s t : Bool} {a b : List PV} {l m : List Int} {n : Int} {k : Nat} (ha : a = l.map i64) (hb : b = m.map i64) (hn : n = k) (hl : l.length ≤ 9223372036854775807) (hm : m.length ≤ 9223372036854775807) : Does Tryz.prog 84 [.agg [bl s, .sl a, bl t, .sl b], i64 n] (.pv (bl (shortR k ((s, l), (t, m))))) [] := by
  refine does_of hT hM Tryz.func84 rfl (D := []) (by kernel_rfl) rfl rfl rfl (fun A K hA hK => ?_)
  have hS : shortR k ((s, l), (t, m)) = (decide (l.length ≤ k) && decide (m.length ≤ k)) := rfl
  generalize shortR k ((s, l), (t, m)) = S at *
  have la : a.length = l.length := by rw [ha]; simp
  have lb : b.length = m.length := by rw [hb]; simp
  have hnk : n.toNat = k ∧ 0 ≤ n := by omega
  clear ha hb hn
  cbv
  refine Ar.len_ hA (fun n1 hn1 hn1' => ?_)
  cbv
  refine Ar.leq_ hA (fun h1 => ?_) (fun h1 => ?_)
  · cbv
    refine Ar.len_ hA (fun n2 hn2 hn2' => ?_)
    cbv
    refine Ar.leq_ hA (fun h2 => ?_) (fun h2 => ?_)
    · cbv
      exact hK _ _ (by rw [hS, decide_eq_true (show l.length ≤ k by omega), decide_eq_true (show m.length ≤ k by omega)]; rfl) rfl
    · cbv
      exact hK _ _ (by rw [hS, decide_eq_true (show l.length ≤ k by omega), decide_eq_false (show ¬ m.length ≤ k by omega)]; rfl) rfl
  · cbv
    exact hK _ _ (by rw [hS, decide_eq_false (show ¬ l.length ≤ k by omega)]; rfl) rfl

theorem c_impl_areRats : Callable Tryz.prog 117 := ⟨_, Tryz.func117, rfl, by kernel_rfl⟩
theorem d_impl_areRats {es : List PV} {l : List R4} (hes : es = l.map r4pv) (hb : l.length ≤ 9223372036854775807) (hb2 : ∀ r ∈ l, lenOk r) : Does Tryz.prog 117 [.sl es] (.pv (bl (l.all goodR))) [] := by
  refine does_of hT hM Tryz.func117 rfl (D := []) (by kernel_rfl) rfl rfl rfl (fun A K hA hK => ?_)
  have hlen : es.length = l.length := by simp [hes]
  cbv
  refine Ar.len_ hA (fun n hn hn' => ?_)
  cbv
  refine Ar.loop_ hA (α := Int) (fun i => (n - i).toNat) (fun i => 0 ≤ i ∧ i ≤ n ∧ ∀ p ∈ l.take i.toNat, goodR p = true) 15 (fun i => [(5, .pv (.sl es) []), (6, .pv (i64 n) []), (7, .pv (i64 i) [])]) (fun _ => []) 0 ⟨rfl, ⟨rfl, rfl, rfl, trivial⟩, trivial⟩ ⟨by omega, by omega, by simp⟩ ?_
  intro i s f ⟨h1, h2, h3⟩
  cbv
  refine Ar.lss_ hA (fun h => ?_) (fun h => ?_)
  · cbv
    refine Ar.nn_ hA (by omega) ?_
    cbv
    refine Ar.toN_ hA (fun j hj => ?_)
    cbv
    obtain ⟨⟨⟨ps, pl⟩, pt, pm⟩, hp⟩ : ∃ p, l[j]? = some p := ⟨l[j]'(by omega), List.getElem?_eq_getElem _⟩
    obtain ⟨e1, he1⟩ : ∃ e, e = pl.map i64 := ⟨_, rfl⟩
    obtain ⟨e2, he2⟩ : ∃ e, e = pm.map i64 := ⟨_, rfl⟩
    have hlo := hb2 _ (List.mem_of_getElem? hp)
    have d := d_impl_GoodRat (s := ps) (t := pt) he1 he2 hlo.1 hlo.2
    refine Ar.idx_ hA (x := .agg [bl ps, .sl e1, bl pt, .sl e2]) (by rw [hes, List.getElem?_map, hp, he1, he2]; rfl) ?_
    cbv
    refine Ar.callT hA c_impl_GoodRat d rfl (fun hb => ?_) (fun hb => ?_)
    · cbv
      refine Ar.notT_ hA ?_
      cbv
      refine Ar.add_ hA (by omega) (fun k hk => ?_)
      cbv
      refine ⟨k, by omega, ⟨by omega, by omega, ?_⟩, rfl, ⟨rfl, rfl, rfl, trivial⟩, trivial⟩
      rw [show k.toNat = j + 1 by omega, List.take_add_one, hp]
      intro q' hq'
      simp only [Option.toList_some, List.mem_append, List.mem_singleton] at hq'
      rcases hq' with hq' | rfl
      · exact h3 q' (by rw [← hj]; exact hq')
      · exact hb
    · cbv
      refine Ar.notF_ hA ?_
      cbv
      refine hK _ _ ?_ rfl
      have : l.all goodR = false := by
        rw [List.all_eq_false]
        exact ⟨_, List.mem_of_getElem? hp, by rw [hb]; simp⟩
      rw [this]
  · cbv
    refine hK _ _ ?_ rfl
    rw [List.take_of_length_le (by omega)] at h3
    have : l.all goodR = true := by rw [List.all_eq_true]; exact h3
    rw [this]

def isPt (k : Nat) (r : R8) : Bool := goodR r.1 && goodR r.2 && shortR k r.1 && shortR k r.2

theorem c_impl_isRPt : Callable Tryz.prog 83 := ⟨_, Tryz.func83, rfl, by kernel_rfl⟩
theorem d_impl_isRPt {s1 t1 s2 t2 : Bool} {a1 b1 a2 b2 : List PV} {l1 m1 l2 m2 : List Int} {n : Int} {k : Nat} (ha1 : a1 = l1.map i64) (hb1 : b1 = m1.map i64) (ha2 : a2 = l2.map i64) (hb2 : b2 = m2.map i64) (hn : n = k) (h1 : lenOk ((s1, l1), (t1, m1))) (h2 : lenOk ((s2, l2), (t2, m2))) : Does Tryz.prog 83 [.agg [bl s1, .sl a1, bl t1, .sl b1, bl s2, .sl a2, bl t2, .sl b2], i64 n] (.pv (bl (isPt k (((s1, l1), (t1, m1)), ((s2, l2), (t2, m2)))))) [] := by
  refine does_of hT hM Tryz.func83 rfl (D := []) (by kernel_rfl) rfl rfl rfl (fun A K hA hK => ?_)
  obtain ⟨es, hes⟩ : ∃ es, es = [PV.agg [bl s1, .sl a1, bl t1, .sl b1], .agg [bl s2, .sl a2, bl t2, .sl b2]] := ⟨_, rfl⟩
  have d1 := d_impl_areRats (es := es) (l := [((s1, l1), (t1, m1)), ((s2, l2), (t2, m2))]) (by rw [hes, ha1, hb1, ha2, hb2]; rfl) (by simp) (by simp; exact ⟨h1, h2⟩)
  have d2 := d_impl_Rat_isShort (s := s1) (t := t1) ha1 hb1 hn h1.1 h1.2
  have d3 := d_impl_Rat_isShort (s := s2) (t := t2) ha2 hb2 hn h2.1 h2.2
  have hG : isPt k (((s1, l1), (t1, m1)), ((s2, l2), (t2, m2))) = (([((s1, l1), (t1, m1)), ((s2, l2), (t2, m2))] : List R4).all goodR && shortR k ((s1, l1), (t1, m1)) && shortR k ((s2, l2), (t2, m2))) := by simp [isPt]
  rw [hes] at d1
  generalize ([((s1, l1), (t1, m1)), ((s2, l2), (t2, m2))] : List R4).all goodR = B1 at *
  generalize shortR k ((s1, l1), (t1, m1)) = B2 at *
  generalize shortR k ((s2, l2), (t2, m2)) = B3 at *
  generalize isPt k (((s1, l1), (t1, m1)), ((s2, l2), (t2, m2))) = G at *
  clear hes ha1 hb1 ha2 hb2 hn h1 h2
  cbv
  refine Ar.callT hA c_impl_areRats d1 rfl (fun h1 => ?_) (fun h1 => ?_)
  · cbv
    refine Ar.callT hA c_impl_Rat_isShort d2 rfl (fun h2 => ?_) (fun h2 => ?_)
    · cbv
      refine Ar.callT hA c_impl_Rat_isShort d3 rfl (fun h3 => ?_) (fun h3 => ?_)
      · cbv
        exact hK _ _ (by rw [hG, h1, h2, h3]; rfl) rfl
      · cbv
        exact hK _ _ (by rw [hG, h1, h2, h3]; rfl) rfl
    · cbv
      exact hK _ _ (by rw [hG, h1, h2]; rfl) rfl
  · cbv
    exact hK _ _ (by rw [hG, h1]; rfl) rfl

end Go.VAI
