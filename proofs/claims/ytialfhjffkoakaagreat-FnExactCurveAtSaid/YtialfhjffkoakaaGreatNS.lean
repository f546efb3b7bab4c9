/- Valid rings and curves; what the laws make of their arguments; GoodRing and GoodCurve. -/
import Derived.Test.YtialfhjffkoakaaGreatNR
namespace Go.VAI
open Go.Proofs
set_option maxRecDepth 100000
set_option maxHeartbeats 8000000

theorem c_spec_l12Small : Callable Tryz.prog 48 := ⟨_, Tryz.func48, rfl, by kernel_rfl⟩
theorem d_spec_l12Small {s t : Bool} {a b : List PV} {l m : List Int} (ha : a = l.map i64) (hb : b = m.map i64) (hl : l.length ≤ 9223372036854775807) (hm : m.length ≤ 9223372036854775807) : Does Tryz.prog 48 [.agg [bl s, .sl a, bl t, .sl b]] (.pv (bl (shortR 2 ((s, l), (t, m)) && goodR ((s, l), (t, m))))) [] := by
  refine does_of hT hM Tryz.func48 rfl (D := []) (by kernel_rfl) rfl rfl rfl (fun A K hA hK => ?_)
  have d := d_spec_GoodRat (s := s) (t := t) ha hb hl hm
  have hS : shortR 2 ((s, l), (t, m)) = (decide (l.length ≤ 2) && decide (m.length ≤ 2)) := rfl
  generalize shortR 2 ((s, l), (t, m)) = S at *
  generalize goodR ((s, l), (t, m)) = G at *
  have la : a.length = l.length := by rw [ha]; simp
  have lb : b.length = m.length := by rw [hb]; simp
  clear ha hb
  cbv
  refine Ar.len_ hA (fun n1 hn1 hn1' => ?_)
  cbv
  refine Ar.leq_ hA (fun h1 => ?_) (fun h1 => ?_)
  · cbv
    refine Ar.len_ hA (fun n2 hn2 hn2' => ?_)
    cbv
    refine Ar.leq_ hA (fun h2 => ?_) (fun h2 => ?_)
    · cbv
      refine Ar.callT hA c_spec_GoodRat d rfl (fun h3 => ?_) (fun h3 => ?_)
      · cbv
        exact hK _ _ (by rw [hS, h3, decide_eq_true (show l.length ≤ 2 by omega), decide_eq_true (show m.length ≤ 2 by omega)]; rfl) rfl
      · cbv
        exact hK _ _ (by rw [hS, h3, decide_eq_true (show l.length ≤ 2 by omega), decide_eq_true (show m.length ≤ 2 by omega)]; rfl) rfl
    · cbv
      exact hK _ _ (by rw [hS, decide_eq_true (show l.length ≤ 2 by omega), decide_eq_false (show ¬ m.length ≤ 2 by omega)]; rfl) rfl
  · cbv
    exact hK _ _ (by rw [hS, decide_eq_false (show ¬ l.length ≤ 2 by omega)]; rfl) rfl

theorem c_spec_l13Fits : Callable Tryz.prog 74 := ⟨_, Tryz.func74, rfl, by kernel_rfl⟩
theorem d_spec_l13Fits {s t : Bool} {a b : List PV} {l m : List Int} (ha : a = l.map i64) (hb : b = m.map i64) (hl : l.length ≤ 9223372036854775807) (hm : m.length ≤ 9223372036854775807) : Does Tryz.prog 74 [.agg [bl s, .sl a, bl t, .sl b]] (.pv (bl (shortR 8 ((s, l), (t, m)) && goodR ((s, l), (t, m))))) [] := by
  refine does_of hT hM Tryz.func74 rfl (D := []) (by kernel_rfl) rfl rfl rfl (fun A K hA hK => ?_)
  have d := d_spec_GoodRat (s := s) (t := t) ha hb hl hm
  have hS : shortR 8 ((s, l), (t, m)) = (decide (l.length ≤ 8) && decide (m.length ≤ 8)) := rfl
  generalize shortR 8 ((s, l), (t, m)) = S at *
  generalize goodR ((s, l), (t, m)) = G at *
  have la : a.length = l.length := by rw [ha]; simp
  have lb : b.length = m.length := by rw [hb]; simp
  clear ha hb
  cbv
  refine Ar.len_ hA (fun n1 hn1 hn1' => ?_)
  cbv
  refine Ar.leq_ hA (fun h1 => ?_) (fun h1 => ?_)
  · cbv
    refine Ar.len_ hA (fun n2 hn2 hn2' => ?_)
    cbv
    refine Ar.leq_ hA (fun h2 => ?_) (fun h2 => ?_)
    · cbv
      refine Ar.callT hA c_spec_GoodRat d rfl (fun h3 => ?_) (fun h3 => ?_)
      · cbv
        exact hK _ _ (by rw [hS, h3, decide_eq_true (show l.length ≤ 8 by omega), decide_eq_true (show m.length ≤ 8 by omega)]; rfl) rfl
      · cbv
        exact hK _ _ (by rw [hS, h3, decide_eq_true (show l.length ≤ 8 by omega), decide_eq_true (show m.length ≤ 8 by omega)]; rfl) rfl
    · cbv
      exact hK _ _ (by rw [hS, decide_eq_true (show l.length ≤ 8 by omega), decide_eq_false (show ¬ m.length ≤ 8 by omega)]; rfl) rfl
  · cbv
    exact hK _ _ (by rw [hS, decide_eq_false (show ¬ l.length ≤ 8 by omega)]; rfl) rfl

theorem isPt_spec {k : Nat} {r : R8} : (shortR k r.1 && goodR r.1 && (shortR k r.2 && goodR r.2)) = isPt k r := by
  unfold isPt
  cases goodR r.1 <;> cases goodR r.2 <;> cases shortR k r.1 <;> cases shortR k r.2 <;> rfl

theorem c_spec_l12Pt : Callable Tryz.prog 88 := ⟨_, Tryz.func88, rfl, by kernel_rfl⟩
theorem d_spec_l12Pt {s1 t1 s2 t2 : Bool} {a1 b1 a2 b2 : List PV} {l1 m1 l2 m2 : List Int} (ha1 : a1 = l1.map i64) (hb1 : b1 = m1.map i64) (ha2 : a2 = l2.map i64) (hb2 : b2 = m2.map i64) (h1 : lenOk ((s1, l1), (t1, m1))) (h2 : lenOk ((s2, l2), (t2, m2))) : Does Tryz.prog 88 [.agg [bl s1, .sl a1, bl t1, .sl b1, bl s2, .sl a2, bl t2, .sl b2]] (.pv (bl (isPt 2 (((s1, l1), (t1, m1)), ((s2, l2), (t2, m2)))))) [] := by
  refine does_of hT hM Tryz.func88 rfl (D := []) (by kernel_rfl) rfl rfl rfl (fun A K hA hK => ?_)
  have d1 := d_spec_l12Small (s := s1) (t := t1) ha1 hb1 h1.1 h1.2
  have d2 := d_spec_l12Small (s := s2) (t := t2) ha2 hb2 h2.1 h2.2
  rw [← isPt_spec] at hK
  generalize (shortR 2 (((s1, l1), (t1, m1)) : R4) && goodR ((s1, l1), (t1, m1))) = X at *
  generalize (shortR 2 (((s2, l2), (t2, m2)) : R4) && goodR ((s2, l2), (t2, m2))) = Y at *
  clear ha1 hb1 ha2 hb2 h1 h2
  cbv
  refine Ar.callT hA c_spec_l12Small d1 rfl (fun h1 => ?_) (fun h1 => ?_)
  · cbv
    refine Ar.callT hA c_spec_l12Small d2 rfl (fun h2 => ?_) (fun h2 => ?_)
    · cbv
      exact hK _ _ (by rw [h1, h2]; rfl) rfl
    · cbv
      exact hK _ _ (by rw [h1, h2]; rfl) rfl
  · cbv
    exact hK _ _ (by rw [h1]; rfl) rfl

theorem c_impl_GoodRing_1 : Callable Tryz.prog 82 := ⟨_, Tryz.func82, rfl, by kernel_rfl⟩
theorem d_impl_GoodRing_1 {s1 t1 s2 t2 : Bool} {a1 b1 a2 b2 : List PV} {l1 m1 l2 m2 : List Int} (ha1 : a1 = l1.map i64) (hb1 : b1 = m1.map i64) (ha2 : a2 = l2.map i64) (hb2 : b2 = m2.map i64) (h1 : lenOk ((s1, l1), (t1, m1))) (h2 : lenOk ((s2, l2), (t2, m2))) : Does Tryz.prog 82 [.agg [bl s1, .sl a1, bl t1, .sl b1, bl s2, .sl a2, bl t2, .sl b2]] (.pv (bl (!(isPt 8 (((s1, l1), (t1, m1)), ((s2, l2), (t2, m2))))))) [] := by
  refine does_of hT hM Tryz.func82 rfl (D := []) (by kernel_rfl) rfl rfl rfl (fun A K hA hK => ?_)
  have d := d_impl_isRPt (n := 8) (k := 8) ha1 hb1 ha2 hb2 rfl h1 h2
  generalize isPt 8 (((s1, l1), (t1, m1)), ((s2, l2), (t2, m2))) = G at *
  clear ha1 hb1 ha2 hb2 h1 h2
  cbv
  refine Ar.callT hA c_impl_isRPt d rfl (fun h => ?_) (fun h => ?_)
  all_goals
    cbv
    repeat' (first
      | (refine Ar.nn_ hA (by omega) ?_; cbv)
      | (refine Ar.toN_ hA (fun _ _ => ?_); cbv)
      | (refine Ar.notT_ hA ?_; cbv)
      | (refine Ar.notF_ hA ?_; cbv)
      | (refine Ar.lss_ hA (fun _ => ?_) (fun _ => ?_) <;> cbv)
      | (refine Ar.leq_ hA (fun _ => ?_) (fun _ => ?_) <;> cbv)
      | (refine Ar.gtr_ hA (fun _ => ?_) (fun _ => ?_) <;> cbv)
      | (refine Ar.geq_ hA (fun _ => ?_) (fun _ => ?_) <;> cbv)
      | (refine Ar.eql_ hA (fun _ => ?_) (fun _ => ?_) <;> cbv)
      | (refine Ar.neq_ hA (fun _ => ?_) (fun _ => ?_) <;> cbv)
      | (refine Ar.add_ hA (by omega) (fun _ _ => ?_); cbv)
      | (refine Ar.sub_ hA (by omega) (fun _ _ => ?_); cbv)
      | (refine Ar.neg_ hA (by omega) (fun _ _ => ?_); cbv)
      | (refine Ar.mulB hA 2000 2000 (by omega) (by omega) (by omega) (fun _ _ _ _ => ?_); cbv)
      | (refine Ar.mulB hA 3000000000 3000000000 (by omega) (by omega) (by omega) (fun _ _ _ _ => ?_); cbv)
      | (refine Ar.nz_ hA (by omega) ?_; cbv)
      | (refine Ar.rem_ hA (by omega) (fun _ _ => ?_); cbv)
      | (refine Ar.quo_ hA (by omega) (fun _ _ => ?_); cbv)
      | (refine Ar.mx_ hA (fun _ _ => ?_); cbv)
      | (refine Ar.mn_ hA (fun _ _ => ?_); cbv)
      | (refine Ar.len_ hA (fun _ _ _ => ?_); cbv)
      | (refine Ar.lenN_ hA (fun _ _ => ?_); cbv)
      | (refine Ar.bneq_ hA (fun _ => ?_) (fun _ => ?_) <;> cbv)
      | (refine Ar.beq_ hA (fun _ => ?_) (fun _ => ?_) <;> cbv)
      | (refine Ar.ofN_ hA (fun _ _ _ => ?_); cbv)
)
    exact hK _ _ (by rw [h]; rfl) rfl

theorem c_impl_GoodCurve_1 : Callable Tryz.prog 94 := ⟨_, Tryz.func94, rfl, by kernel_rfl⟩
theorem d_impl_GoodCurve_1 {s1 t1 s2 t2 : Bool} {a1 b1 a2 b2 : List PV} {l1 m1 l2 m2 : List Int} (ha1 : a1 = l1.map i64) (hb1 : b1 = m1.map i64) (ha2 : a2 = l2.map i64) (hb2 : b2 = m2.map i64) (h1 : lenOk ((s1, l1), (t1, m1))) (h2 : lenOk ((s2, l2), (t2, m2))) : Does Tryz.prog 94 [.agg [bl s1, .sl a1, bl t1, .sl b1, bl s2, .sl a2, bl t2, .sl b2]] (.pv (bl (!(isPt 2 (((s1, l1), (t1, m1)), ((s2, l2), (t2, m2))))))) [] := by
  refine does_of hT hM Tryz.func94 rfl (D := []) (by kernel_rfl) rfl rfl rfl (fun A K hA hK => ?_)
  have d := d_impl_isRPt (n := 2) (k := 2) ha1 hb1 ha2 hb2 rfl h1 h2
  generalize isPt 2 (((s1, l1), (t1, m1)), ((s2, l2), (t2, m2))) = G at *
  clear ha1 hb1 ha2 hb2 h1 h2
  cbv
  refine Ar.callT hA c_impl_isRPt d rfl (fun h => ?_) (fun h => ?_)
  all_goals
    cbv
    repeat' (first
      | (refine Ar.nn_ hA (by omega) ?_; cbv)
      | (refine Ar.toN_ hA (fun _ _ => ?_); cbv)
      | (refine Ar.notT_ hA ?_; cbv)
      | (refine Ar.notF_ hA ?_; cbv)
      | (refine Ar.lss_ hA (fun _ => ?_) (fun _ => ?_) <;> cbv)
      | (refine Ar.leq_ hA (fun _ => ?_) (fun _ => ?_) <;> cbv)
      | (refine Ar.gtr_ hA (fun _ => ?_) (fun _ => ?_) <;> cbv)
      | (refine Ar.geq_ hA (fun _ => ?_) (fun _ => ?_) <;> cbv)
      | (refine Ar.eql_ hA (fun _ => ?_) (fun _ => ?_) <;> cbv)
      | (refine Ar.neq_ hA (fun _ => ?_) (fun _ => ?_) <;> cbv)
      | (refine Ar.add_ hA (by omega) (fun _ _ => ?_); cbv)
      | (refine Ar.sub_ hA (by omega) (fun _ _ => ?_); cbv)
      | (refine Ar.neg_ hA (by omega) (fun _ _ => ?_); cbv)
      | (refine Ar.mulB hA 2000 2000 (by omega) (by omega) (by omega) (fun _ _ _ _ => ?_); cbv)
      | (refine Ar.mulB hA 3000000000 3000000000 (by omega) (by omega) (by omega) (fun _ _ _ _ => ?_); cbv)
      | (refine Ar.nz_ hA (by omega) ?_; cbv)
      | (refine Ar.rem_ hA (by omega) (fun _ _ => ?_); cbv)
      | (refine Ar.quo_ hA (by omega) (fun _ _ => ?_); cbv)
      | (refine Ar.mx_ hA (fun _ _ => ?_); cbv)
      | (refine Ar.mn_ hA (fun _ _ => ?_); cbv)
      | (refine Ar.len_ hA (fun _ _ _ => ?_); cbv)
      | (refine Ar.lenN_ hA (fun _ _ => ?_); cbv)
      | (refine Ar.bneq_ hA (fun _ => ?_) (fun _ => ?_) <;> cbv)
      | (refine Ar.beq_ hA (fun _ => ?_) (fun _ => ?_) <;> cbv)
      | (refine Ar.ofN_ hA (fun _ _ _ => ?_); cbv)
)
    exact hK _ _ (by rw [h]; rfl) rfl

theorem c_IndexRing : Callable Tryz.prog 116 := ⟨_, Tryz.func116, rfl, by kernel_rfl⟩
theorem c_ContainsRing : Callable Tryz.prog 81 := ⟨_, Tryz.func81, rfl, by kernel_rfl⟩
theorem d_IndexRing {es : List PV} {l : List R8} (hes : es = l.map r8pv) (hb : l.length ≤ 9223372036854775807) (hb2 : ∀ p ∈ l, lenOk p.1 ∧ lenOk p.2) : Does Tryz.prog 116 [.sl es, .fn 82 []] (.pv (i64 (firstAt (fun p => !(isPt 8 p)) l))) [] := by
  refine does_of hT hM Tryz.func116 rfl (D := []) (by kernel_rfl) rfl rfl rfl (fun A K hA hK => ?_)
  have hlen : es.length = l.length := by simp [hes]
  cbv
  refine Ar.len_ hA (fun n hn hn' => ?_)
  cbv
  refine Ar.loop_ hA (α := Int) (fun i => (n - i).toNat) (fun i => 0 ≤ i ∧ i ≤ n ∧ ∀ p ∈ l.take i.toNat, (!(isPt 8 p)) = false) 19 (fun i => [(0, .pv (.sl es) []), (1, .pv (.fn 82 []) []), (7, .pv (i64 n) []), (8, .pv (i64 i) [])]) (fun _ => []) 0 ⟨rfl, ⟨rfl, rfl, rfl, rfl, trivial⟩, trivial⟩ ⟨by omega, by omega, by simp⟩ ?_
  intro i s f ⟨h1, h2, h3⟩
  cbv
  refine Ar.lss_ hA (fun h => ?_) (fun h => ?_)
  · cbv
    refine Ar.nn_ hA (by omega) ?_
    cbv
    refine Ar.toN_ hA (fun j hj => ?_)
    cbv
    obtain ⟨p, hp⟩ : ∃ p, l[j]? = some p := ⟨l[j]'(by omega), List.getElem?_eq_getElem _⟩
    obtain ⟨ps1, pl1, pt1, pm1, ps2, pl2, pt2, pm2, hpe⟩ : ∃ s1 l1 t1 m1 s2 l2 t2 m2, p = (((s1, l1), (t1, m1)), ((s2, l2), (t2, m2))) := ⟨_, _, _, _, _, _, _, _, rfl⟩
    obtain ⟨e1, he1⟩ : ∃ e, e = pl1.map i64 := ⟨_, rfl⟩
    obtain ⟨e2, he2⟩ : ∃ e, e = pm1.map i64 := ⟨_, rfl⟩
    obtain ⟨e3, he3⟩ : ∃ e, e = pl2.map i64 := ⟨_, rfl⟩
    obtain ⟨e4, he4⟩ : ∃ e, e = pm2.map i64 := ⟨_, rfl⟩
    refine Ar.idx_ hA (x := .agg [bl ps1, .sl e1, bl pt1, .sl e2, bl ps2, .sl e3, bl pt2, .sl e4]) (by rw [hes, List.getElem?_map, hp, hpe, he1, he2, he3, he4]; rfl) ?_
    cbv
    have hlo := hb2 _ (List.mem_of_getElem? hp)
    rw [hpe] at hlo
    have d := d_impl_GoodRing_1 (s1 := ps1) (t1 := pt1) (s2 := ps2) (t2 := pt2) he1 he2 he3 he4 hlo.1 hlo.2
    rw [← hpe] at d
    generalize hB : isPt 8 p = B at d
    refine Ar.callT hA c_impl_GoodRing_1 d rfl (fun hb => ?_) (fun hb => ?_)
    · cbv
      refine hK _ _ ?_ rfl
      rw [firstAt_some (q := fun p => !(isPt 8 p)) hp (by show (!(isPt 8 p)) = true; rw [hB]; exact hb) (by rw [hj]; exact h3)]
      congr 3; omega
    · cbv
      refine Ar.add_ hA (by omega) (fun k hk => ?_)
      cbv
      refine ⟨k, by omega, ⟨by omega, by omega, ?_⟩, rfl, ⟨rfl, rfl, rfl, rfl, trivial⟩, trivial⟩
      rw [show k.toNat = j + 1 by omega, List.take_add_one, hp]
      intro q' hq'
      simp only [Option.toList_some, List.mem_append, List.mem_singleton] at hq'
      rcases hq' with hq' | rfl
      · exact h3 q' (by rw [← hj]; exact hq')
      · rw [hB]; exact hb
  · cbv
    refine hK _ _ ?_ rfl
    rw [List.take_of_length_le (by omega)] at h3
    rw [firstAt_none (q := fun p => !(isPt 8 p)) h3]
theorem d_ContainsRing {es : List PV} {l : List R8} (hes : es = l.map r8pv) (hb : l.length ≤ 9223372036854775807) (hb2 : ∀ p ∈ l, lenOk p.1 ∧ lenOk p.2) : Does Tryz.prog 81 [.sl es, .fn 82 []] (.pv (bl (!(l.all (isPt 8))))) [] := by
  refine does_of hT hM Tryz.func81 rfl (D := []) (by kernel_rfl) rfl rfl rfl (fun A K hA hK => ?_)
  have d := d_IndexRing hes hb hb2
  have h0 := firstAt_any (q := fun p => !(isPt 8 p)) (l := l)
  have h1 : (l.any fun p => !(isPt 8 p)) = !(l.all (isPt 8)) := by rw [List.all_eq_not_any_not]; simp
  rw [h1] at h0
  clear h1
  generalize (!(l.all (isPt 8))) = R at *
  generalize firstAt (fun p => !(isPt 8 p)) l = I at *
  cbv
  refine Ar.callI hA c_IndexRing d rfl (fun r hr => ?_)
  cbv
  refine Ar.geq_ hA (fun h => ?_) (fun h => ?_)
  · cbv
    exact hK _ _ (by rw [← h0]; simp; omega) rfl
  · cbv
    exact hK _ _ (by rw [← h0]; simp; omega) rfl

theorem c_IndexCurve : Callable Tryz.prog 116 := ⟨_, Tryz.func116, rfl, by kernel_rfl⟩
theorem c_ContainsCurve : Callable Tryz.prog 81 := ⟨_, Tryz.func81, rfl, by kernel_rfl⟩
theorem d_IndexCurve {es : List PV} {l : List R8} (hes : es = l.map r8pv) (hb : l.length ≤ 9223372036854775807) (hb2 : ∀ p ∈ l, lenOk p.1 ∧ lenOk p.2) : Does Tryz.prog 116 [.sl es, .fn 94 []] (.pv (i64 (firstAt (fun p => !(isPt 2 p)) l))) [] := by
  refine does_of hT hM Tryz.func116 rfl (D := []) (by kernel_rfl) rfl rfl rfl (fun A K hA hK => ?_)
  have hlen : es.length = l.length := by simp [hes]
  cbv
  refine Ar.len_ hA (fun n hn hn' => ?_)
  cbv
  refine Ar.loop_ hA (α := Int) (fun i => (n - i).toNat) (fun i => 0 ≤ i ∧ i ≤ n ∧ ∀ p ∈ l.take i.toNat, (!(isPt 2 p)) = false) 19 (fun i => [(0, .pv (.sl es) []), (1, .pv (.fn 94 []) []), (7, .pv (i64 n) []), (8, .pv (i64 i) [])]) (fun _ => []) 0 ⟨rfl, ⟨rfl, rfl, rfl, rfl, trivial⟩, trivial⟩ ⟨by omega, by omega, by simp⟩ ?_
  intro i s f ⟨h1, h2, h3⟩
  cbv
  refine Ar.lss_ hA (fun h => ?_) (fun h => ?_)
  · cbv
    refine Ar.nn_ hA (by omega) ?_
    cbv
    refine Ar.toN_ hA (fun j hj => ?_)
    cbv
    obtain ⟨p, hp⟩ : ∃ p, l[j]? = some p := ⟨l[j]'(by omega), List.getElem?_eq_getElem _⟩
    obtain ⟨ps1, pl1, pt1, pm1, ps2, pl2, pt2, pm2, hpe⟩ : ∃ s1 l1 t1 m1 s2 l2 t2 m2, p = (((s1, l1), (t1, m1)), ((s2, l2), (t2, m2))) := ⟨_, _, _, _, _, _, _, _, rfl⟩
    obtain ⟨e1, he1⟩ : ∃ e, e = pl1.map i64 := ⟨_, rfl⟩
    obtain ⟨e2, he2⟩ : ∃ e, e = pm1.map i64 := ⟨_, rfl⟩
    obtain ⟨e3, he3⟩ : ∃ e, e = pl2.map i64 := ⟨_, rfl⟩
    obtain ⟨e4, he4⟩ : ∃ e, e = pm2.map i64 := ⟨_, rfl⟩
    refine Ar.idx_ hA (x := .agg [bl ps1, .sl e1, bl pt1, .sl e2, bl ps2, .sl e3, bl pt2, .sl e4]) (by rw [hes, List.getElem?_map, hp, hpe, he1, he2, he3, he4]; rfl) ?_
    cbv
    have hlo := hb2 _ (List.mem_of_getElem? hp)
    rw [hpe] at hlo
    have d := d_impl_GoodCurve_1 (s1 := ps1) (t1 := pt1) (s2 := ps2) (t2 := pt2) he1 he2 he3 he4 hlo.1 hlo.2
    rw [← hpe] at d
    generalize hB : isPt 2 p = B at d
    refine Ar.callT hA c_impl_GoodCurve_1 d rfl (fun hb => ?_) (fun hb => ?_)
    · cbv
      refine hK _ _ ?_ rfl
      rw [firstAt_some (q := fun p => !(isPt 2 p)) hp (by show (!(isPt 2 p)) = true; rw [hB]; exact hb) (by rw [hj]; exact h3)]
      congr 3; omega
    · cbv
      refine Ar.add_ hA (by omega) (fun k hk => ?_)
      cbv
      refine ⟨k, by omega, ⟨by omega, by omega, ?_⟩, rfl, ⟨rfl, rfl, rfl, rfl, trivial⟩, trivial⟩
      rw [show k.toNat = j + 1 by omega, List.take_add_one, hp]
      intro q' hq'
      simp only [Option.toList_some, List.mem_append, List.mem_singleton] at hq'
      rcases hq' with hq' | rfl
      · exact h3 q' (by rw [← hj]; exact hq')
      · rw [hB]; exact hb
  · cbv
    refine hK _ _ ?_ rfl
    rw [List.take_of_length_le (by omega)] at h3
    rw [firstAt_none (q := fun p => !(isPt 2 p)) h3]
theorem d_ContainsCurve {es : List PV} {l : List R8} (hes : es = l.map r8pv) (hb : l.length ≤ 9223372036854775807) (hb2 : ∀ p ∈ l, lenOk p.1 ∧ lenOk p.2) : Does Tryz.prog 81 [.sl es, .fn 94 []] (.pv (bl (!(l.all (isPt 2))))) [] := by
  refine does_of hT hM Tryz.func81 rfl (D := []) (by kernel_rfl) rfl rfl rfl (fun A K hA hK => ?_)
  have d := d_IndexCurve hes hb hb2
  have h0 := firstAt_any (q := fun p => !(isPt 2 p)) (l := l)
  have h1 : (l.any fun p => !(isPt 2 p)) = !(l.all (isPt 2)) := by rw [List.all_eq_not_any_not]; simp
  rw [h1] at h0
  clear h1
  generalize (!(l.all (isPt 2))) = R at *
  generalize firstAt (fun p => !(isPt 2 p)) l = I at *
  cbv
  refine Ar.callI hA c_IndexCurve d rfl (fun r hr => ?_)
  cbv
  refine Ar.geq_ hA (fun h => ?_) (fun h => ?_)
  · cbv
    exact hK _ _ (by rw [← h0]; simp; omega) rfl
  · cbv
    exact hK _ _ (by rw [← h0]; simp; omega) rfl

def ringOk (l : List R8) : Bool := decide (l.length ≤ 40) && l.all (isPt 8)
def curveOk (l : List R8) : Bool := decide (1 ≤ l.length) && decide (l.length ≤ 5) && l.all (isPt 2)

theorem c_impl_GoodRing : Callable Tryz.prog 39 := ⟨_, Tryz.func39, rfl, by kernel_rfl⟩
theorem d_impl_GoodRing {es : List PV} {l : List R8} (hes : es = l.map r8pv) (hb : l.length ≤ 9223372036854775807) (hb2 : ∀ p ∈ l, lenOk p.1 ∧ lenOk p.2) : Does Tryz.prog 39 [.sl es] (.pv (bl (ringOk l))) [] := by
  refine does_of hT hM Tryz.func39 rfl (D := []) (by kernel_rfl) rfl rfl rfl (fun A K hA hK => ?_)
  have hlen : es.length = l.length := by simp [hes]
  have d := d_ContainsRing hes hb hb2
  have hG : ringOk l = (decide (l.length ≤ 40) && l.all (isPt 8)) := rfl
  generalize ringOk l = G at *
  generalize l.all (isPt 8) = B at *
  cbv
  refine Ar.len_ hA (fun n hn hn' => ?_)
  cbv
  refine Ar.leq_ hA (fun h => ?_) (fun h => ?_)
  · cbv
    refine Ar.callT hA c_ContainsRing d rfl (fun h1 => ?_) (fun h1 => ?_)
    all_goals
      cbv
      repeat' (first
        | (refine Ar.nn_ hA (by omega) ?_; cbv)
        | (refine Ar.toN_ hA (fun _ _ => ?_); cbv)
        | (refine Ar.notT_ hA ?_; cbv)
        | (refine Ar.notF_ hA ?_; cbv)
        | (refine Ar.lss_ hA (fun _ => ?_) (fun _ => ?_) <;> cbv)
        | (refine Ar.leq_ hA (fun _ => ?_) (fun _ => ?_) <;> cbv)
        | (refine Ar.gtr_ hA (fun _ => ?_) (fun _ => ?_) <;> cbv)
        | (refine Ar.geq_ hA (fun _ => ?_) (fun _ => ?_) <;> cbv)
        | (refine Ar.eql_ hA (fun _ => ?_) (fun _ => ?_) <;> cbv)
        | (refine Ar.neq_ hA (fun _ => ?_) (fun _ => ?_) <;> cbv)
        | (refine Ar.add_ hA (by omega) (fun _ _ => ?_); cbv)
        | (refine Ar.sub_ hA (by omega) (fun _ _ => ?_); cbv)
        | (refine Ar.neg_ hA (by omega) (fun _ _ => ?_); cbv)
        | (refine Ar.mulB hA 2000 2000 (by omega) (by omega) (by omega) (fun _ _ _ _ => ?_); cbv)
        | (refine Ar.mulB hA 3000000000 3000000000 (by omega) (by omega) (by omega) (fun _ _ _ _ => ?_); cbv)
        | (refine Ar.nz_ hA (by omega) ?_; cbv)
        | (refine Ar.rem_ hA (by omega) (fun _ _ => ?_); cbv)
        | (refine Ar.quo_ hA (by omega) (fun _ _ => ?_); cbv)
        | (refine Ar.mx_ hA (fun _ _ => ?_); cbv)
        | (refine Ar.mn_ hA (fun _ _ => ?_); cbv)
        | (refine Ar.len_ hA (fun _ _ _ => ?_); cbv)
        | (refine Ar.lenN_ hA (fun _ _ => ?_); cbv)
        | (refine Ar.bneq_ hA (fun _ => ?_) (fun _ => ?_) <;> cbv)
        | (refine Ar.beq_ hA (fun _ => ?_) (fun _ => ?_) <;> cbv)
        | (refine Ar.ofN_ hA (fun _ _ _ => ?_); cbv)
)
      exact hK _ _ (by rw [hG, decide_eq_true (show l.length ≤ 40 by omega)]; simp_all) rfl
  · cbv
    exact hK _ _ (by rw [hG, decide_eq_false (show ¬ l.length ≤ 40 by omega)]; rfl) rfl

theorem c_impl_GoodCurve : Callable Tryz.prog 52 := ⟨_, Tryz.func52, rfl, by kernel_rfl⟩
theorem d_impl_GoodCurve {es : List PV} {l : List R8} (hes : es = l.map r8pv) (hb : l.length ≤ 9223372036854775807) (hb2 : ∀ p ∈ l, lenOk p.1 ∧ lenOk p.2) : Does Tryz.prog 52 [.sl es] (.pv (bl (curveOk l))) [] := by
  refine does_of hT hM Tryz.func52 rfl (D := []) (by kernel_rfl) rfl rfl rfl (fun A K hA hK => ?_)
  have hlen : es.length = l.length := by simp [hes]
  have d := d_ContainsCurve hes hb hb2
  have hG : curveOk l = (decide (1 ≤ l.length) && decide (l.length ≤ 5) && l.all (isPt 2)) := rfl
  generalize curveOk l = G at *
  generalize l.all (isPt 2) = B at *
  cbv
  refine Ar.len_ hA (fun n hn hn' => ?_)
  cbv
  have e : (decide (1 ≤ n) && decide (n ≤ 5)) = (decide (1 ≤ l.length) && decide (l.length ≤ 5)) := by
    rw [decide_eq_decide.2 (show 1 ≤ n ↔ 1 ≤ l.length by omega), decide_eq_decide.2 (show n ≤ 5 ↔ l.length ≤ 5 by omega)]
  rw [← e] at hG
  refine Ar.callT hA c_impl_within d_impl_within rfl (fun h => ?_) (fun h => ?_)
  · cbv
    refine Ar.callT hA c_ContainsCurve d rfl (fun h1 => ?_) (fun h1 => ?_)
    all_goals
      cbv
      repeat' (first
        | (refine Ar.nn_ hA (by omega) ?_; cbv)
        | (refine Ar.toN_ hA (fun _ _ => ?_); cbv)
        | (refine Ar.notT_ hA ?_; cbv)
        | (refine Ar.notF_ hA ?_; cbv)
        | (refine Ar.lss_ hA (fun _ => ?_) (fun _ => ?_) <;> cbv)
        | (refine Ar.leq_ hA (fun _ => ?_) (fun _ => ?_) <;> cbv)
        | (refine Ar.gtr_ hA (fun _ => ?_) (fun _ => ?_) <;> cbv)
        | (refine Ar.geq_ hA (fun _ => ?_) (fun _ => ?_) <;> cbv)
        | (refine Ar.eql_ hA (fun _ => ?_) (fun _ => ?_) <;> cbv)
        | (refine Ar.neq_ hA (fun _ => ?_) (fun _ => ?_) <;> cbv)
        | (refine Ar.add_ hA (by omega) (fun _ _ => ?_); cbv)
        | (refine Ar.sub_ hA (by omega) (fun _ _ => ?_); cbv)
        | (refine Ar.neg_ hA (by omega) (fun _ _ => ?_); cbv)
        | (refine Ar.mulB hA 2000 2000 (by omega) (by omega) (by omega) (fun _ _ _ _ => ?_); cbv)
        | (refine Ar.mulB hA 3000000000 3000000000 (by omega) (by omega) (by omega) (fun _ _ _ _ => ?_); cbv)
        | (refine Ar.nz_ hA (by omega) ?_; cbv)
        | (refine Ar.rem_ hA (by omega) (fun _ _ => ?_); cbv)
        | (refine Ar.quo_ hA (by omega) (fun _ _ => ?_); cbv)
        | (refine Ar.mx_ hA (fun _ _ => ?_); cbv)
        | (refine Ar.mn_ hA (fun _ _ => ?_); cbv)
        | (refine Ar.len_ hA (fun _ _ _ => ?_); cbv)
        | (refine Ar.lenN_ hA (fun _ _ => ?_); cbv)
        | (refine Ar.bneq_ hA (fun _ => ?_) (fun _ => ?_) <;> cbv)
        | (refine Ar.beq_ hA (fun _ => ?_) (fun _ => ?_) <;> cbv)
        | (refine Ar.ofN_ hA (fun _ _ _ => ?_); cbv)
)
      exact hK _ _ (by rw [hG, h]; simp_all) rfl
  · cbv
    exact hK _ _ (by rw [hG, h]; rfl) rfl

theorem c_spec_GoodRing : Callable Tryz.prog 35 := ⟨_, Tryz.func35, rfl, by kernel_rfl⟩
theorem d_spec_GoodRing {es : List PV} {l : List R8} (hes : es = l.map r8pv) (hb : l.length ≤ 9223372036854775807) (hb2 : ∀ p ∈ l, lenOk p.1 ∧ lenOk p.2) : Does Tryz.prog 35 [.sl es] (.pv (bl (ringOk l))) [] := by
  refine does_of hT hM Tryz.func35 rfl (D := []) (by kernel_rfl) rfl rfl rfl (fun A K hA hK => ?_)
  have hlen : es.length = l.length := by simp [hes]
  have hG : ringOk l = (decide (l.length ≤ 40) && l.all (isPt 8)) := rfl
  generalize ringOk l = G at *
  cbv
  refine Ar.len_ hA (fun n hn hn' => ?_)
  cbv
  refine Ar.loop_ hA (α := Int) (fun i => (n - i).toNat) (fun i => 0 ≤ i ∧ i ≤ n ∧ ∀ p ∈ l.take i.toNat, isPt 8 p = true) 25 (fun i => [(0, .pv (.sl es) []), (5, .pv (.sl es) []), (6, .pv (i64 n) []), (7, .pv (i64 i) [])]) (fun _ => []) 0 ⟨rfl, ⟨rfl, rfl, rfl, rfl, trivial⟩, trivial⟩ ⟨by omega, by omega, by simp⟩ ?_
  intro i s f ⟨h1, h2, h3⟩
  cbv
  refine Ar.lss_ hA (fun h => ?_) (fun h => ?_)
  · cbv
    refine Ar.nn_ hA (by omega) ?_
    cbv
    refine Ar.toN_ hA (fun j hj => ?_)
    cbv
    obtain ⟨p, hp⟩ : ∃ p, l[j]? = some p := ⟨l[j]'(by omega), List.getElem?_eq_getElem _⟩
    obtain ⟨ps1, pl1, pt1, pm1, ps2, pl2, pt2, pm2, hpe⟩ : ∃ s1 l1 t1 m1 s2 l2 t2 m2, p = (((s1, l1), (t1, m1)), ((s2, l2), (t2, m2))) := ⟨_, _, _, _, _, _, _, _, rfl⟩
    obtain ⟨e1, he1⟩ : ∃ e, e = pl1.map i64 := ⟨_, rfl⟩
    obtain ⟨e2, he2⟩ : ∃ e, e = pm1.map i64 := ⟨_, rfl⟩
    obtain ⟨e3, he3⟩ : ∃ e, e = pl2.map i64 := ⟨_, rfl⟩
    obtain ⟨e4, he4⟩ : ∃ e, e = pm2.map i64 := ⟨_, rfl⟩
    refine Ar.idx_ hA (x := .agg [bl ps1, .sl e1, bl pt1, .sl e2, bl ps2, .sl e3, bl pt2, .sl e4]) (by rw [hes, List.getElem?_map, hp, hpe, he1, he2, he3, he4]; rfl) ?_
    cbv
    have hlo := hb2 _ (List.mem_of_getElem? hp)
    rw [hpe] at hlo
    have d1 := d_spec_l13Fits (s := ps1) (t := pt1) he1 he2 hlo.1.1 hlo.1.2
    have d2 := d_spec_l13Fits (s := ps2) (t := pt2) he3 he4 hlo.2.1 hlo.2.2
    have hsame : (shortR 8 (((ps1, pl1), (pt1, pm1)) : R4) && goodR ((ps1, pl1), (pt1, pm1)) && (shortR 8 (((ps2, pl2), (pt2, pm2)) : R4) && goodR ((ps2, pl2), (pt2, pm2)))) = isPt 8 p := by rw [hpe]; exact @isPt_spec 8 (((ps1, pl1), (pt1, pm1)), ((ps2, pl2), (pt2, pm2)))
    generalize (shortR 8 (((ps1, pl1), (pt1, pm1)) : R4) && goodR ((ps1, pl1), (pt1, pm1))) = X at d1 hsame
    generalize (shortR 8 (((ps2, pl2), (pt2, pm2)) : R4) && goodR ((ps2, pl2), (pt2, pm2))) = Y at d2 hsame
    have bad : (X && Y) = false → l.all (isPt 8) = false := fun h => by
      rw [List.all_eq_false]
      exact ⟨_, List.mem_of_getElem? hp, by rw [← hsame, h]; simp⟩
    refine Ar.callT hA c_spec_l13Fits d1 rfl (fun hb1 => ?_) (fun hb1 => ?_)
    · cbv
      refine Ar.notT_ hA ?_
      cbv
      refine Ar.callT hA c_spec_l13Fits d2 rfl (fun hb2 => ?_) (fun hb2 => ?_)
      · cbv
        refine Ar.notT_ hA ?_
        cbv
        refine Ar.add_ hA (by omega) (fun k hk => ?_)
        cbv
        refine ⟨k, by omega, ⟨by omega, by omega, ?_⟩, rfl, ⟨rfl, rfl, rfl, rfl, trivial⟩, trivial⟩
        rw [show k.toNat = j + 1 by omega, List.take_add_one, hp]
        intro q' hq'
        simp only [Option.toList_some, List.mem_append, List.mem_singleton] at hq'
        rcases hq' with hq' | rfl
        · exact h3 q' (by rw [← hj]; exact hq')
        · rw [← hsame, hb1, hb2]; rfl
      · cbv
        refine Ar.notF_ hA ?_
        cbv
        exact hK _ _ (by rw [hG, bad (by rw [hb1, hb2]; rfl)]; simp) rfl
    · cbv
      refine Ar.notF_ hA ?_
      cbv
      exact hK _ _ (by rw [hG, bad (by rw [hb1]; rfl)]; simp) rfl
  · rw [List.take_of_length_le (by omega)] at h3
    have hall : l.all (isPt 8) = true := by rw [List.all_eq_true]; exact h3
    rw [hall] at hG
    cbv
    refine Ar.len_ hA (fun n5 hn5 hn5' => ?_)
    cbv
    refine Ar.leq_ hA (fun h4 => ?_) (fun h4 => ?_)
    · cbv
      exact hK _ _ (by rw [hG, decide_eq_true (show l.length ≤ 40 by omega)]; rfl) rfl
    · cbv
      exact hK _ _ (by rw [hG, decide_eq_false (show ¬ l.length ≤ 40 by omega)]; rfl) rfl

theorem c_spec_GoodCurve : Callable Tryz.prog 47 := ⟨_, Tryz.func47, rfl, by kernel_rfl⟩
theorem d_spec_GoodCurve {es : List PV} {l : List R8} (hes : es = l.map r8pv) (hb : l.length ≤ 9223372036854775807) (hb2 : ∀ p ∈ l, lenOk p.1 ∧ lenOk p.2) : Does Tryz.prog 47 [.sl es] (.pv (bl (curveOk l))) [] := by
  refine does_of hT hM Tryz.func47 rfl (D := []) (by kernel_rfl) rfl rfl rfl (fun A K hA hK => ?_)
  have hlen : es.length = l.length := by simp [hes]
  have hG : curveOk l = (decide (1 ≤ l.length) && decide (l.length ≤ 5) && l.all (isPt 2)) := rfl
  generalize curveOk l = G at *
  cbv
  refine Ar.len_ hA (fun n hn hn' => ?_)
  cbv
  refine Ar.loop_ hA (α := Int) (fun i => (n - i).toNat) (fun i => 0 ≤ i ∧ i ≤ n ∧ ∀ p ∈ l.take i.toNat, isPt 2 p = true) 18 (fun i => [(0, .pv (.sl es) []), (5, .pv (.sl es) []), (6, .pv (i64 n) []), (7, .pv (i64 i) [])]) (fun _ => []) 0 ⟨rfl, ⟨rfl, rfl, rfl, rfl, trivial⟩, trivial⟩ ⟨by omega, by omega, by simp⟩ ?_
  intro i s f ⟨h1, h2, h3⟩
  cbv
  refine Ar.lss_ hA (fun h => ?_) (fun h => ?_)
  · cbv
    refine Ar.nn_ hA (by omega) ?_
    cbv
    refine Ar.toN_ hA (fun j hj => ?_)
    cbv
    obtain ⟨p, hp⟩ : ∃ p, l[j]? = some p := ⟨l[j]'(by omega), List.getElem?_eq_getElem _⟩
    obtain ⟨ps1, pl1, pt1, pm1, ps2, pl2, pt2, pm2, hpe⟩ : ∃ s1 l1 t1 m1 s2 l2 t2 m2, p = (((s1, l1), (t1, m1)), ((s2, l2), (t2, m2))) := ⟨_, _, _, _, _, _, _, _, rfl⟩
    obtain ⟨e1, he1⟩ : ∃ e, e = pl1.map i64 := ⟨_, rfl⟩
    obtain ⟨e2, he2⟩ : ∃ e, e = pm1.map i64 := ⟨_, rfl⟩
    obtain ⟨e3, he3⟩ : ∃ e, e = pl2.map i64 := ⟨_, rfl⟩
    obtain ⟨e4, he4⟩ : ∃ e, e = pm2.map i64 := ⟨_, rfl⟩
    refine Ar.idx_ hA (x := .agg [bl ps1, .sl e1, bl pt1, .sl e2, bl ps2, .sl e3, bl pt2, .sl e4]) (by rw [hes, List.getElem?_map, hp, hpe, he1, he2, he3, he4]; rfl) ?_
    cbv
    have hlo := hb2 _ (List.mem_of_getElem? hp)
    rw [hpe] at hlo
    have d1 := d_spec_l12Pt (s1 := ps1) (t1 := pt1) (s2 := ps2) (t2 := pt2) he1 he2 he3 he4 hlo.1 hlo.2
    rw [← hpe] at d1
    generalize hB : isPt 2 p = B at d1
    refine Ar.callT hA c_spec_l12Pt d1 rfl (fun hb1 => ?_) (fun hb1 => ?_)
    · cbv
      refine Ar.notT_ hA ?_
      cbv
      refine Ar.add_ hA (by omega) (fun k hk => ?_)
      cbv
      refine ⟨k, by omega, ⟨by omega, by omega, ?_⟩, rfl, ⟨rfl, rfl, rfl, rfl, trivial⟩, trivial⟩
      rw [show k.toNat = j + 1 by omega, List.take_add_one, hp]
      intro q' hq'
      simp only [Option.toList_some, List.mem_append, List.mem_singleton] at hq'
      rcases hq' with hq' | rfl
      · exact h3 q' (by rw [← hj]; exact hq')
      · rw [hB]; exact hb1
    · cbv
      refine Ar.notF_ hA ?_
      cbv
      have bad : l.all (isPt 2) = false := by
        rw [List.all_eq_false]
        exact ⟨_, List.mem_of_getElem? hp, by rw [hB, hb1]; simp⟩
      exact hK _ _ (by rw [hG, bad]; simp) rfl
  · rw [List.take_of_length_le (by omega)] at h3
    have hall : l.all (isPt 2) = true := by rw [List.all_eq_true]; exact h3
    rw [hall] at hG
    cbv
    refine Ar.len_ hA (fun n5 hn5 hn5' => ?_)
    cbv
    have e : (decide (1 ≤ n5) && decide (n5 ≤ 5)) = (decide (1 ≤ l.length) && decide (l.length ≤ 5)) := by
      rw [decide_eq_decide.2 (show 1 ≤ n5 ↔ 1 ≤ l.length by omega), decide_eq_decide.2 (show n5 ≤ 5 ↔ l.length ≤ 5 by omega)]
    rw [← e, Bool.and_true] at hG
    refine Ar.callT hA c_spec_l1In d_spec_l1In rfl (fun h => ?_) (fun h => ?_)
    all_goals
      cbv
      exact hK _ _ (by rw [hG, h]) rfl

end Go.VAI
