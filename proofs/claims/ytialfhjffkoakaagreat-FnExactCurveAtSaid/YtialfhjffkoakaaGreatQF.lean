/- The laws CurveAt and RingArea. -/
import Derived.Test.YtialfhjffkoakaaGreatQE
namespace Go.VAI
open Go.Proofs
set_option maxRecDepth 100000
set_option maxHeartbeats 8000000

theorem Does.wkIf2 {P : Program} {f : FuncId} {args : List PV} {c : Prop} [Decidable c] {C : List PV} {sz : Nat} {u1 u2 : RU} {outs : List PV} (h : Does P f args (if c then .row C sz u1 else .row C sz u2) outs) : Does P f args (.pv (.sl C)) outs := by
  split at h
  · exact h.wk
  · exact h.wk
theorem bez_of {t : Rat} {ps : List (Rat × Rat)} : ∀ n, bezQ t (n + 1) ps = rowQ t (bezQ t n ps) := fun _ => rfl

/-- A row that is filled, step by step: what is there behind i steps. -/
theorem take_step {C r : List PV} {x : PV} {i : Nat} (h : r = C.take i) (hx : C[i]? = some x) : r ++ [x] = C.take (i + 1) := by
  rw [h, List.take_add_one, hx]; rfl

theorem c_impl_rows : Callable Tryz.prog 54 := ⟨_, Tryz.func54, rfl, by kernel_rfl⟩
theorem d_impl_rows {es : List PV} {ps : List (Rat × Rat)} {t : Rat} {s5 t5 : Bool} {a5 b5 : List PV} {C : List PV} (hes : es = ps.map p8) (hl : 1 ≤ ps.length ∧ ps.length ≤ 5) (hz : ∀ p ∈ ps, Szp 2 p) (h5 : RatP s5 a5 t5 b5 t) (ht : Sz 2 t) (hC : C = (List.range ps.length).map fun j => .sl ((bezQ t j ps).map p8)) : Does Tryz.prog 54 [.sl es, rpv s5 a5 t5 b5] (if C.length = 1 then .row C 1 (.sh []) else .row C 1 (.sh [13])) [] := by
  refine does_of hT hM Tryz.func54 rfl (D := []) (by kernel_rfl) rfl rfl rfl (fun A K hA hK => ?_)
  obtain ⟨R, hR⟩ : ∃ R : Nat → List PV, ∀ j, R j = (bezQ t j ps).map p8 := ⟨fun j => (bezQ t j ps).map p8, fun _ => rfl⟩
  have hlen : ∀ j, (R j).length = ps.length - j := fun j => by rw [hR, List.length_map, bezQ_len]
  have hes0 : es = R 0 := by rw [hR]; exact hes
  have hCl : C.length = ps.length := by rw [hC]; simp
  have hCx : ∀ j, j < ps.length → C[j]? = some (.sl (R j)) := fun j hj => by rw [hC, hR, List.getElem?_map, List.getElem?_range hj]; rfl
  have hstep : ∀ j i, j + 1 < ps.length → i + 1 < ps.length - j → ∃ s1 a1 t1 b1 s2 a2 t2 b2 s3 a3 t3 b3 s4 a4 t4 b4 s6 a6 t6 b6 s7 a7 t7 b7, (R j)[i]? = some (ppv s1 a1 t1 b1 s2 a2 t2 b2) ∧ (R j)[i + 1]? = some (ppv s3 a3 t3 b3 s4 a4 t4 b4) ∧ (R (j + 1))[i]? = some (ppv s6 a6 t6 b6 s7 a7 t7 b7) ∧ Does Tryz.prog 65 [ppv s1 a1 t1 b1 s2 a2 t2 b2, ppv s3 a3 t3 b3 s4 a4 t4 b4, rpv s5 a5 t5 b5] (.pv (ppv s6 a6 t6 b6 s7 a7 t7 b7)) [] := fun j i hj hi => by
    have hzj := bezQ_sz ht hz (k := j) (by omega)
    obtain ⟨s1, a1, t1, b1, s2, a2, t2, b2, s3, a3, t3, b3, s4, a4, t4, b4, s6, a6, t6, b6, s7, a7, t7, b7, x1, x2, x3, q1, q2, q3, q4, q6, q7⟩ := mix_step (hR j) hzj h5 ht (by omega) (i := i) (by rw [bezQ_len]; omega)
    exact ⟨s1, a1, t1, b1, s2, a2, t2, b2, s3, a3, t3, b3, s4, a4, t4, b4, s6, a6, t6, b6, s7, a7, t7, b7, x1, x2, by rw [hR]; exact x3, (d_impl_mix q1 q2 q3 q4 h5 (hzj _ (List.getElem_mem _)) (hzj _ (List.getElem_mem _)) ht (by omega) q6 q7).wk⟩
  clear hR hes hz h5 ht hC
  generalize ps.length = n at *
  have hC1 : [PV.sl es] = C.take 1 := by
    have := take_step (C := C) (r := []) (i := 0) rfl (hCx 0 (by omega))
    rw [← hes0] at this; exact this
  cbv
  refine Ar.loop_ hA (α := Bool × Nat × List PV × List PV) (fun x => n - x.2.1) (fun x => x.2.1 + 1 ≤ n ∧ x.2.2.1 = R x.2.1 ∧ x.2.2.2 = C.take (x.2.1 + 1) ∧ (x.1 = true ↔ x.2.1 = 0)) 40
    (fun x => [(0, match x.1 with
      | true => .pv (.sl x.2.2.1) []
      | false => .own 13 none), (3, .ref 3 0), (5, .own 9 none)])
    (fun x => match x.1 with
      | true => [(3, some (.cell [.pv (bl s5) [], .pv (.sl a5) [], .pv (bl t5) [], .pv (.sl b5) []])), (9, some (.row x.2.2.2 1 (.sh []) false))]
      | false => [(3, some (.cell [.pv (bl s5) [], .pv (.sl a5) [], .pv (bl t5) [], .pv (.sl b5) []])), (9, some (.row x.2.2.2 1 (.sh [13]) false)), (13, some (.row x.2.2.1 8 (.sh []) false))]) (true, 0, es, [.sl es])
    (by refine ⟨?_, ⟨?_, ?_, ?_, trivial⟩, ?_, ?_, trivial⟩ <;> cbv) ⟨by show 0 + 1 ≤ n; omega, hes0, hC1, by simp⟩ ?_
  rintro ⟨fl, j, cur, r⟩ st f ⟨h1, h2, h3, h4⟩
  simp only at h1 h2 h3 h4
  have hcl : cur.length = n - j := by rw [h2, hlen]
  have hend : ¬ j + 1 < n → r = C := fun h => by rw [h3, List.take_of_length_le (by omega)]
  have hrl : r.length = j + 1 := by rw [h3]; simp; omega
  have hst : ∀ i, j + 1 < n → i + 1 < n - j → ∃ s1 a1 t1 b1 s2 a2 t2 b2 s3 a3 t3 b3 s4 a4 t4 b4 s6 a6 t6 b6 s7 a7 t7 b7, cur[i]? = some (ppv s1 a1 t1 b1 s2 a2 t2 b2) ∧ cur[i + 1]? = some (ppv s3 a3 t3 b3 s4 a4 t4 b4) ∧ (R (j + 1))[i]? = some (ppv s6 a6 t6 b6 s7 a7 t7 b7) ∧ Does Tryz.prog 65 [ppv s1 a1 t1 b1 s2 a2 t2 b2, ppv s3 a3 t3 b3 s4 a4 t4 b4, rpv s5 a5 t5 b5] (.pv (ppv s6 a6 t6 b6 s7 a7 t7 b7)) [] := fun i hi hj => by rw [h2]; exact hstep j i hi hj
  have hnx : j + 1 < n → r ++ [.sl (R (j + 1))] = C.take (j + 2) := fun h => take_step h3 (hCx (j + 1) h)
  have hNl : (R (j + 1)).length = n - (j + 1) := hlen _
  clear hstep h2 h3 hCx hC1 hlen hes0
  obtain ⟨N, hN⟩ : ∃ N, N = R (j + 1) := ⟨_, rfl⟩
  rw [← hN] at hnx hNl
  simp only [← hN] at hst
  cases fl
  all_goals
    cbv
    refine Ar.len_ hA (fun n2 hn2 hn2' => ?_)
    cbv
    refine Ar.gtr_ hA (fun h => ?_) (fun h => ?_)
    · have hst' := fun i => hst i (by omega)
      have hnx' := hnx (by omega)
      clear hst hnx hend
      cbv
      refine Ar.loop_ hA (α := Bool × Int × List PV) (fun x => n - x.2.1.toNat) (fun x => 1 ≤ x.2.1 ∧ x.2.1.toNat ≤ n - j ∧ x.2.2 = N.take (x.2.1.toNat - 1) ∧ (x.1 = true ↔ x.2.1 = 1)) 40
        (fun x => [(0, .pv (.sl cur) []), (3, .ref 3 0), (5, .own 9 none), (6, .own 13 none), (7, .pv (i64 x.2.1) [])])
        (fun x => [(3, some (.cell [.pv (bl s5) [], .pv (.sl a5) [], .pv (bl t5) [], .pv (.sl b5) []])), (9, some (.row r 1 (.sh []) false)), (13, some (.row x.2.2 8 (ruB x.1) false))]) (true, 1, [])
        (by refine ⟨?_, ⟨?_, ?_, ?_, ?_, ?_, trivial⟩, ?_, ?_, ?_, trivial⟩ <;> cbv) ⟨by show (1 : Int) ≤ 1; omega, by show (1 : Int).toNat ≤ n - j; omega, by simp, by simp⟩ ?_
      rintro ⟨fl2, i, q⟩ st2 f2 ⟨g1, g2, g3, g4⟩
      simp only at g1 g2 g3 g4
      have hql : q.length ≤ 1000 := by rw [g3]; simp; omega
      have hq0 : ¬ i.toNat < n - j → q = N := fun h => by rw [g3, List.take_of_length_le (by omega)]
      have hs2 : i.toNat < n - j → ∃ s1 a1 t1 b1 s2 a2 t2 b2 s3 a3 t3 b3 s4 a4 t4 b4 s6 a6 t6 b6 s7 a7 t7 b7, (∀ k, k = i.toNat - 1 → cur[k]? = some (ppv s1 a1 t1 b1 s2 a2 t2 b2)) ∧ (∀ k, k = i.toNat → cur[k]? = some (ppv s3 a3 t3 b3 s4 a4 t4 b4)) ∧ q ++ [ppv s6 a6 t6 b6 s7 a7 t7 b7] = N.take i.toNat ∧ Does Tryz.prog 65 [ppv s1 a1 t1 b1 s2 a2 t2 b2, ppv s3 a3 t3 b3 s4 a4 t4 b4, rpv s5 a5 t5 b5] (.pv (ppv s6 a6 t6 b6 s7 a7 t7 b7)) [] := fun h => by
        obtain ⟨s1, a1, t1, b1, s2, a2, t2, b2, s3, a3, t3, b3, s4, a4, t4, b4, s6, a6, t6, b6, s7, a7, t7, b7, x1, x2, x3, x4⟩ := hst' (i.toNat - 1) (by omega)
        refine ⟨s1, a1, t1, b1, s2, a2, t2, b2, s3, a3, t3, b3, s4, a4, t4, b4, s6, a6, t6, b6, s7, a7, t7, b7, fun k hk => by rw [hk]; exact x1, fun k hk => by rw [hk, show i.toNat = i.toNat - 1 + 1 by omega]; exact x2, ?_, x4⟩
        have := take_step g3 x3
        rw [this]; congr 1; omega
      clear hst' g3
      cases fl2
      all_goals
        cbv
        refine Ar.len_ hA (fun n3 hn3 hn3' => ?_)
        cbv
        refine Ar.lss_ hA (fun h5 => ?_) (fun h5 => ?_)
        · obtain ⟨s1, a1, t1, b1, s2, a2, t2, b2, s3, a3, t3, b3, s4, a4, t4, b4, s6, a6, t6, b6, s7, a7, t7, b7, x1, x2, x3, d⟩ := hs2 (by omega)
          cbv
          repeat' (first
            | apply And.intro
            | (refine Ar.sub_ hA (by omega) (fun _ _ => ?_); cbv)
            | (refine Ar.nn_ hA (by omega) ?_; cbv)
            | (refine Ar.toN_ hA (fun _ _ => ?_); cbv)
            | (refine Ar.idx_ hA (x1 _ (by omega)) ?_; cbv)
            | (refine Ar.idx_ hA (x2 _ (by omega)) ?_; cbv)
            | (refine Ar.call_ hA c_impl_mix d rfl ?_; cbv)
            | (refine Ar.app_ hA (fun r' hr' => ?_); cbv)
            | (refine Ar.fitsL_ hA (by rw [hr']; simp; omega) ?_; cbv)
            | (refine Ar.add_ hA (by omega) (fun k' hk' => ?_); cbv))
          all_goals
            exact ⟨(false, k', r'), by show n - k'.toNat < n - i.toNat; omega, ⟨by show 1 ≤ k'; omega, by show k'.toNat ≤ n - j; omega, by show r' = N.take (k'.toNat - 1); rw [hr', x3, show k'.toNat - 1 = i.toNat by omega], by show false = true ↔ k' = 1; simp; omega⟩, by refine ⟨?_, ⟨?_, ?_, ?_, ?_, ?_, trivial⟩, ?_, ?_, ?_, trivial⟩ <;> cbv⟩
        · have he := hq0 (by omega)
          subst he
          first
            | (exfalso; have := g4.1 rfl; omega)
            | (cbv
               refine Ar.app_ hA (fun r' hr' => ?_)
               cbv
               refine Ar.fitsL_ hA (by rw [hr']; simp; omega) ?_
               cbv
               exact ⟨(false, j + 1, q, r'), by show n - (j + 1) < n - j; omega, ⟨by show j + 1 + 1 ≤ n; omega, hN, by show r' = C.take (j + 2); rw [hr', hnx'], by show false = true ↔ j + 1 = 0; simp⟩, by refine ⟨?_, ⟨?_, ?_, ?_, trivial⟩, ?_, ?_, ?_, trivial⟩ <;> cbv⟩)
    · have he := hend (by omega)
      subst he
      cbv
      first
        | (refine hK _ _ ?_ rfl
           rw [if_neg (by have := mt h4.2 (by simp); omega)]; done)
        | (refine hK _ _ ?_ rfl
           rw [if_pos (by have := h4.1 rfl; omega)]; done)

theorem c_impl_CurveAt : Callable Tryz.prog 21 := ⟨_, Tryz.func21, rfl, by kernel_rfl⟩
theorem d_impl_CurveAt {es : List PV} {ps : List (Rat × Rat)} {t : Rat} {s5 t5 : Bool} {a5 b5 : List PV} {C : R8} {B : Bool} {q : Rat × Rat} (hes : es = ps.map p8) (hl : 1 ≤ ps.length ∧ ps.length ≤ 5) (hz : ∀ p ∈ ps, Szp 2 p) (h5 : RatP s5 a5 t5 b5 t) (ht : Sz 2 t) (dg : Does Tryz.prog 52 [.sl es] (.pv (bl true)) []) (ds : Does Tryz.prog 53 [rpv s5 a5 t5 b5] (.pv (bl true)) []) (hq : (bezQ t (ps.length - 1) ps)[0]? = some q) (hC : C = res8 q) (hB : B = okP q) : Does Tryz.prog 21 [.sl es, rpv s5 a5 t5 b5] (.tup [rs8 C, .pv (bl B)]) [] := by
  refine does_of hT hM Tryz.func21 rfl (D := []) (by kernel_rfl) rfl rfl rfl (fun A K hA hK => ?_)
  obtain ⟨s1, a1, t1, b1, s2, a2, t2, b2, hpe, q1, q2⟩ := p8_ex q
  have hqz : Szp 137 q := bezQ_sz ht hz (k := ps.length - 1) (by omega) q (List.mem_of_getElem? hq)
  have df := d_impl_checkedRPt q1 q2 hqz (by omega)
  rw [← hC, ← hB] at df
  obtain ⟨R, hR⟩ : ∃ R : List PV, R = (List.range ps.length).map fun j => .sl ((bezQ t j ps).map p8) := ⟨_, rfl⟩
  have dr := Does.wkIf2 (d_impl_rows hes hl hz h5 ht hR)
  obtain ⟨L, hL⟩ : ∃ L, L = (bezQ t (ps.length - 1) ps).map p8 := ⟨_, rfl⟩
  have hR0 : R[ps.length - 1]? = some (.sl L) := by rw [hR, hL, List.getElem?_map, List.getElem?_range (by omega)]; rfl
  have hL0 : L[0]? = some (ppv s1 a1 t1 b1 s2 a2 t2 b2) := by rw [hL, List.getElem?_map, hq, ← hpe]; rfl
  have hRl : R.length = ps.length := by rw [hR]; simp
  obtain ⟨⟨⟨cs1, cl1⟩, ct1, cm1⟩, ⟨cs2, cl2⟩, ct2, cm2⟩ := C
  have df : Does Tryz.prog 55 [ppv s1 a1 t1 b1 s2 a2 t2 b2] (.tup [prs cs1 (cl1.map i64) ct1 (cm1.map i64) cs2 (cl2.map i64) ct2 (cm2.map i64), .pv (bl B)]) [] := df
  have hK : ∀ rs' outs', rs' = RS.tup [prs cs1 (cl1.map i64) ct1 (cm1.map i64) cs2 (cl2.map i64) ct2 (cm2.map i64), .pv (bl B)] → outs' = [] → K rs' outs' := hK
  generalize cl1.map i64 = w1 at *
  generalize cm1.map i64 = w2 at *
  generalize cl2.map i64 = w3 at *
  generalize cm2.map i64 = w4 at *
  clear hC hB hpe q1 q2 hqz h5 ht hz hq hL hR hes
  generalize ps.length = n at *
  cbv
  repeat' (first
    | (refine Ar.notT_ hA ?_; cbv)
    | (refine Ar.notF_ hA ?_; cbv)
    | (refine Ar.call_ hA c_impl_GoodCurve dg rfl ?_; cbv)
    | (refine Ar.call_ hA c_impl_isShare ds rfl ?_; cbv)
    | (refine Ar.call_ hA c_impl_rows dr rfl ?_; cbv))
  refine Ar.len_ hA (fun n2 hn2 hn2' => ?_)
  cbv
  refine Ar.sub_ hA (by omega) (fun n3 hn3 => ?_)
  cbv
  refine Ar.nn_ hA (by omega) ?_
  cbv
  refine Ar.toN_ hA (fun m hm => ?_)
  cbv
  refine Ar.idx_ hA (x := .sl L) (by rw [show m = n - 1 by omega]; exact hR0) ?_
  cbv
  refine Ar.nn_ hA (by omega) ?_
  cbv
  refine Ar.toN_ hA (fun m2 hm2 => ?_)
  cbv
  refine Ar.idx_ hA (x := ppv s1 a1 t1 b1 s2 a2 t2 b2) (by rw [hm2]; exact hL0) ?_
  cbv
  refine Ar.call_ hA c_impl_checkedRPt df rfl ?_
  cbv
  exact hK _ _ rfl rfl

theorem rat_rat {s t : Bool} {a b : List PV} {l m : List Int} {k : Nat} (ha : a = l.map i64) (hb : b = m.map i64) (h : (goodR ((s, l), (t, m)) && shortR k ((s, l), (t, m))) = true) : ∃ q, RatP s a t b q ∧ Sz k q := by
  rw [Bool.and_eq_true] at h
  rw [ha, hb]; exact goodR_rat h.1 h.2

theorem both_CurveAt {es : List PV} {l : List R8} (hes : es = l.map r8pv) (hm : l.length ≤ 9223372036854775807) (ho : ∀ p ∈ l, lenOk p.1 ∧ lenOk p.2) {s5 t5 : Bool} {a5 b5 : List PV} {l5 m5 : List Int} (ha5 : a5 = l5.map i64) (hb5 : b5 = m5.map i64) (h5 : lenOk ((s5, l5), (t5, m5))) :
    ∃ (C : R8) (G : Bool), len8 1048576 C ∧ Does Tryz.prog 19 [.sl es, rpv s5 a5 t5 b5] (.tup [.pv (r8pv C), .pv (bl G)]) [] ∧ Does Tryz.prog 21 [.sl es, rpv s5 a5 t5 b5] (.tup [rs8 C, .pv (bl G)]) [] := by
  have dg := d_spec_GoodCurve hes hm ho
  have di := d_impl_GoodCurve hes hm ho
  have e3 := d_impl_isShare (s := s5) (t := t5) ha5 hb5 h5
  have f3 := d_spec_l12Small (s := s5) (t := t5) ha5 hb5 h5.1 h5.2
  rw [Bool.and_comm] at f3
  have g3 := @rat_rat s5 t5 a5 b5 l5 m5 2 ha5 hb5
  generalize (goodR ((s5, l5), (t5, m5)) && shortR 2 ((s5, l5), (t5, m5))) = B3 at *
  by_cases hw : curveOk l = true ∧ B3 = true
  · obtain ⟨hw, rfl⟩ := hw
    rw [hw] at dg di
    obtain ⟨hl, ps, hps, hz⟩ := curve_ex hw
    have hes' := p8_rows hes hps
    have hpl : ps.length = l.length := by rw [hps]; simp
    obtain ⟨t, tt, tz⟩ := g3 rfl
    have hql : (bezQ t (ps.length - 1) ps).length = 1 := by rw [bezQ_len]; omega
    obtain ⟨q, hq⟩ : ∃ q, (bezQ t (ps.length - 1) ps)[0]? = some q := ⟨_, List.getElem?_eq_getElem (by omega)⟩
    refine ⟨res8 q, okP q, res8_len _, ?_, d_impl_CurveAt hes' (by omega) hz tt tz di e3 hq rfl rfl⟩
    exact (d_spec_CurveAt hes' (by omega) hz tt tz dg f3 hq (s6 := (res8 q).1.1.1) (a6 := (res8 q).1.1.2.map i64) (t6 := (res8 q).1.2.1) (b6 := (res8 q).1.2.2.map i64) (s7 := (res8 q).2.1.1) (a7 := (res8 q).2.1.2.map i64) (t7 := (res8 q).2.2.1) (b7 := (res8 q).2.2.2.map i64) rfl rfl).wk
  · refine ⟨z8, false, ⟨⟨by simp [z8, z4], by simp [z8, z4]⟩, ⟨by simp [z8, z4], by simp [z8, z4]⟩⟩, ?_, ?_⟩
    · have : Does Tryz.prog 19 [.sl es, rpv s5 a5 t5 b5] (.tup [.ag [.pv (bl false), .pv (.val (.slice none 0 0)), .pv (bl false), .pv (.val (.slice none 0 0)), .pv (bl false), .pv (.val (.slice none 0 0)), .pv (bl false), .pv (.val (.slice none 0 0))], .pv (bl false)]) [] := by
        clear g3 e3 di ha5 hb5 h5 hes hm ho
        generalize curveOk l = B1 at *
        cases B1 <;> cases B3 <;> first | (exact absurd ⟨rfl, rfl⟩ hw) | skip
        all_goals
          clear hw
          refine does_of hT hM Tryz.func19 rfl (D := []) (by kernel_rfl) rfl rfl rfl (fun A K hA hK => ?_)
          cbv
          repeat' (first
            | (refine Ar.notT_ hA ?_; cbv)
            | (refine Ar.notF_ hA ?_; cbv)
            | (refine Ar.call_ hA c_spec_GoodCurve dg rfl ?_; cbv)
            | (refine Ar.call_ hA c_spec_l12Small f3 rfl ?_; cbv))
          exact hK _ _ rfl rfl
      exact this.nr.wk
    · have : Does Tryz.prog 21 [.sl es, rpv s5 a5 t5 b5] (.tup [.ag [.pv (bl false), .pv (.val (.slice none 0 0)), .pv (bl false), .pv (.val (.slice none 0 0)), .pv (bl false), .pv (.val (.slice none 0 0)), .pv (bl false), .pv (.val (.slice none 0 0))], .pv (bl false)]) [] := by
        clear g3 f3 dg ha5 hb5 h5 hes hm ho
        generalize curveOk l = B1 at *
        cases B1 <;> cases B3 <;> first | (exact absurd ⟨rfl, rfl⟩ hw) | skip
        all_goals
          clear hw
          refine does_of hT hM Tryz.func21 rfl (D := []) (by kernel_rfl) rfl rfl rfl (fun A K hA hK => ?_)
          cbv
          repeat' (first
            | (refine Ar.notT_ hA ?_; cbv)
            | (refine Ar.notF_ hA ?_; cbv)
            | (refine Ar.call_ hA c_impl_GoodCurve di rfl ?_; cbv)
            | (refine Ar.call_ hA c_impl_isShare e3 rfl ?_; cbv))
          exact hK _ _ rfl rfl
      exact this.nr

theorem c_laws_FnExactCurveAt : Callable Tryz.prog 4 := ⟨_, Tryz.func4, rfl, by kernel_rfl⟩
theorem d_laws_FnExactCurveAt {es0 : List PV} {l0 : List R8} {s11 t11 : Bool} {a11 b11 : List PV} {l11 m11 : List Int} (h0 : es0 = l0.map r8pv ∧ l0.length ≤ 9223372036854775807 ∧ ∀ p ∈ l0, lenOk p.1 ∧ lenOk p.2) (h1 : a11 = l11.map i64 ∧ b11 = m11.map i64 ∧ l11.length ≤ 9223372036854775807 ∧ m11.length ≤ 9223372036854775807) : Does Tryz.prog 4 [.sl es0, rpv s11 a11 t11 b11] (.pv (bl true)) [] := by
  refine does_of hT hM Tryz.func4 rfl (D := [(8, [0, 1, 2, 3, 4, 5, 6, 8]), (31, [0, 1, 2, 3, 4, 5, 6, 8])]) (by kernel_rfl) rfl rfl rfl (fun A K hA hK => ?_)
  obtain ⟨hes0, hm0, ho0⟩ := h0
  obtain ⟨ha11, hb11, ho11, ho12⟩ := h1
  obtain ⟨CR0, G, hCR0, dS, dI⟩ := both_CurveAt hes0 hm0 ho0 ha11 hb11 ⟨ho11, ho12⟩
  obtain ⟨⟨⟨sR01, lR01⟩, tR01, mR01⟩, ⟨sR02, lR02⟩, tR02, mR02⟩ := CR0
  obtain ⟨aR01, haR01⟩ : ∃ e, e = lR01.map i64 := ⟨_, rfl⟩
  obtain ⟨bR01, hbR01⟩ : ∃ e, e = mR01.map i64 := ⟨_, rfl⟩
  obtain ⟨aR02, haR02⟩ : ∃ e, e = lR02.map i64 := ⟨_, rfl⟩
  obtain ⟨bR02, hbR02⟩ : ∃ e, e = mR02.map i64 := ⟨_, rfl⟩
  have dS : Does Tryz.prog 19 [.sl es0, rpv s11 a11 t11 b11] (.tup [.pv (ppv sR01 aR01 tR01 bR01 sR02 aR02 tR02 bR02), .pv (bl G)]) [] := by rw [haR01, hbR01, haR02, hbR02]; exact dS
  have dI : Does Tryz.prog 21 [.sl es0, rpv s11 a11 t11 b11] (.tup [prs sR01 aR01 tR01 bR01 sR02 aR02 tR02 bR02, .pv (bl G)]) [] := by rw [haR01, hbR01, haR02, hbR02]; exact dI
  have cS : Callable Tryz.prog 19 := ⟨_, Tryz.func19, rfl, by kernel_rfl⟩
  have cI : Callable Tryz.prog 21 := ⟨_, Tryz.func21, rfl, by kernel_rfl⟩
  refine abod_awp ⟨Nat.le_of_ble_eq_true rfl, rfl, rfl⟩ ?_
  refine awp_cutV 6 (fun K1 hK1 => ?_)
  cbv
  have dz0 := d_laws_szRPtS (x := 1048576) hes0 hm0 ho0 ⟨by omega, by omega⟩
  have hz0 := fun h => @szRow_ok l0 (1048576) 1048576 (by omega) h
  generalize szRow l0 (1048576) = Z0 at *
  refine Ar.callI hA c_laws_szRPtS dz0 rfl (fun r0 hr0 => ?_)
  cbv
  refine Ar.lss_ hA (fun h => ?_) (fun h => ?_)
  · cbv
    exact hK _ _ rfl rfl
  obtain rfl := hr0
  obtain ⟨z0, y0, hle0⟩ := hz0 (by omega)
  cbv
  have dz1 := d_laws_szRat (s := s11) (t := t11) (x := r0) ha11 hb11 ho11 ho12 ⟨by omega, by omega⟩
  have hle1 := @sz4_le ((s11, l11), (t11, m11)) (r0) (by omega)
  have hz1 : 0 ≤ sz4 ((s11, l11), (t11, m11)) (r0) → len4 1048576 ((s11, l11), (t11, m11)) := fun h => by
    have := sz4_ok h
    simp only at this
    exact ⟨by show l11.length ≤ _; omega, by show m11.length ≤ _; omega⟩
  generalize sz4 ((s11, l11), (t11, m11)) (r0) = Z1 at *
  refine Ar.callI hA c_laws_szRat dz1 rfl (fun r1 hr1 => ?_)
  cbv
  refine Ar.lss_ hA (fun h => ?_) (fun h => ?_)
  · cbv
    exact hK _ _ rfl rfl
  obtain rfl := hr1
  have z1 := hz1 (by omega)
  cbv
  have tt0 := d_laws_toRPtS hes0 z0 y0
  have qq0 := d_laws_eqRPtS hes0 z0 y0
  obtain ⟨ms0, hms0⟩ : ∃ m, m = (mkL mk8 nx8 l0 (1)).map r8pv := ⟨_, rfl⟩
  obtain ⟨k01, hk01⟩ : ∃ k, k = nxL nx8 l0 (1) := ⟨_, rfl⟩
  have mm0 := d_laws_markRPtS hes0 z0 y0 ⟨by omega, by omega⟩ hms0 hk01
  have hq0 : 0 ≤ k01 ∧ k01 ≤ (1) + 4404019200000 := by
    have := nxL_take_le (nx := nx8) (ok := len8 1048576) (fun _ _ => nx8_le) (l := l0) (k := 1) (n := l0.length) (by assumption) (by assumption) (by omega)
    rw [List.take_length, ← hk01] at this
    exact this
  have tt1 := d_laws_toRat (s := s11) (t := t11) ha11 hb11 z1
  have qq1 := d_laws_eqRat (s := s11) (t := t11) ha11 hb11 z1
  obtain ⟨k11, hk11⟩ : ∃ k, k = onFrom l11.length (k01) := ⟨_, rfl⟩
  obtain ⟨k12, hk12⟩ : ∃ k, k = onFrom m11.length k11 := ⟨_, rfl⟩
  obtain ⟨c11, hc11⟩ : ∃ c, c = (countUp l11.length (k01)).map i64 := ⟨_, rfl⟩
  obtain ⟨d11, hd11⟩ : ∃ c, c = (countUp m11.length k11).map i64 := ⟨_, rfl⟩
  have mm1 := d_laws_markRat (s := s11) (t := t11) (k := k01) (d := d11) (r := k12) ha11 hb11 z1 ⟨by omega, by omega⟩ hc11 (by rw [hd11, hk11]) (by rw [hk12, hk11])
  have hq1 : 0 ≤ k12 ∧ k12 ≤ (k01) + 2097152 := by have h1 := z1; obtain ⟨x1, x2⟩ := h1; simp only at x1 x2; unfold onFrom at hk11 hk12; omega
  have zR0 := hCR0
  have qqR0 := d_laws_eqRPt (s1 := sR01) (t1 := tR01) (s2 := sR02) (t2 := tR02) haR01 hbR01 haR02 hbR02 hCR0
  obtain ⟨kR01, hkR01⟩ : ∃ k, k = onFrom lR01.length (1) := ⟨_, rfl⟩
  obtain ⟨kR02, hkR02⟩ : ∃ k, k = onFrom mR01.length kR01 := ⟨_, rfl⟩
  obtain ⟨kR03, hkR03⟩ : ∃ k, k = onFrom lR02.length kR02 := ⟨_, rfl⟩
  obtain ⟨kR04, hkR04⟩ : ∃ k, k = onFrom mR02.length kR03 := ⟨_, rfl⟩
  obtain ⟨cR01, hcR01⟩ : ∃ c, c = (countUp lR01.length (1)).map i64 := ⟨_, rfl⟩
  obtain ⟨dR01, hdR01⟩ : ∃ c, c = (countUp mR01.length kR01).map i64 := ⟨_, rfl⟩
  obtain ⟨cR02, hcR02⟩ : ∃ c, c = (countUp lR02.length kR02).map i64 := ⟨_, rfl⟩
  obtain ⟨dR02, hdR02⟩ : ∃ c, c = (countUp mR02.length kR03).map i64 := ⟨_, rfl⟩
  have mmR0 := d_laws_markRPt (s1 := sR01) (t1 := tR01) (s2 := sR02) (t2 := tR02) haR01 hbR01 haR02 hbR02 hCR0 ⟨by omega, by omega⟩ hkR01 hkR02 hkR03 hcR01 hdR01 hcR02 hdR02 hkR04
  have hqR0 : 0 ≤ kR04 ∧ kR04 ≤ (1) + 4194304 := by have h1 := zR0; obtain ⟨⟨x1, x2⟩, x3, x4⟩ := h1; simp only at x1 x2 x3 x4; unfold onFrom at hkR01 hkR02 hkR03 hkR04; omega
  have hhR0 := d_laws_heldRPt (s1 := sR01) (t1 := tR01) (s2 := sR02) (t2 := tR02) hCR0.1.1 hCR0.1.2 hCR0.2.1 hCR0.2.2 ⟨by omega, by omega⟩ hkR01 hkR02 hkR03 hcR01 hdR01 hcR02 hdR02 hkR04
  try clear hes0 hm0 ho0 z0 y0 hz0 hle0 dz0 ha11 hb11 ho11 ho12 z1 hz1 hle1 dz1
  refine awp_flat hK1 [0, 3, 4] [3] (fun s f => ?_)
  refine awp_cutV 5 (fun K1 hK1 => ?_)
  apply shareU
  case k =>
    intro hB
    cbv
    repeat' (first
      | (refine Ar.notT_ hA ?_; cbv)
      | (refine Ar.notF_ hA ?_; cbv)
      | apply And.intro
      | (refine Ar.call_ hA cS dS rfl ?_; cbv)
      | (refine Ar.call_ hA cI dI rfl ?_; cbv)
      | (refine Ar.call_ hA c_laws_toRPtS tt0 rfl ?_; cbv)
      | (refine Ar.call_ hA c_laws_eqRPtS qq0 rfl ?_; cbv)
      | (refine Ar.call_ hA c_laws_markRPtS mm0 rfl ?_; cbv)
      | (refine Ar.call_ hA c_laws_toRat tt1 rfl ?_; cbv)
      | (refine Ar.call_ hA c_laws_eqRat qq1 rfl ?_; cbv)
      | (refine Ar.call_ hA c_laws_markRat mm1 rfl ?_; cbv)
      | (refine Ar.call_ hA c_laws_eqRPt qqR0 rfl ?_; cbv)
      | (refine Ar.call_ hA c_laws_markRPt mmR0 rfl ?_; cbv)
      | (refine Ar.call_ hA c_laws_heldRPt hhR0 rfl ?_; cbv)
      | (refine Ar.bneq_ hA (fun h => absurd rfl h) (fun _ => ?_); cbv)
      | (refine Ar.neq_ hA (fun h => absurd rfl h) (fun _ => ?_); cbv)
      | (refine Ar.lss_ hA (fun h => absurd h (by omega)) (fun _ => ?_); cbv))
    all_goals
      refine flatK [0, 3, 4, 6, 7, 8, 9, 10, 11] [3, 6, 9, 10, 32, 36, 38, 42, 4128, 4132, 4134, 4138, 8224, 8228, 8230, 8234, 12320, 12324, 12326, 12330] (fun s f => ?_)
      cbv
      revert s f
      exact hB.it
  intro s f
  subst hK1
  refine awp_cutV 5 (fun K1 hK1 => ?_)
  apply shareU
  case k =>
    intro hB
    cbv
    repeat' (first
      | (refine Ar.notT_ hA ?_; cbv)
      | (refine Ar.notF_ hA ?_; cbv)
      | apply And.intro
      | (refine Ar.call_ hA cS dS rfl ?_; cbv)
      | (refine Ar.call_ hA cI dI rfl ?_; cbv)
      | (refine Ar.call_ hA c_laws_toRPtS tt0 rfl ?_; cbv)
      | (refine Ar.call_ hA c_laws_eqRPtS qq0 rfl ?_; cbv)
      | (refine Ar.call_ hA c_laws_markRPtS mm0 rfl ?_; cbv)
      | (refine Ar.call_ hA c_laws_toRat tt1 rfl ?_; cbv)
      | (refine Ar.call_ hA c_laws_eqRat qq1 rfl ?_; cbv)
      | (refine Ar.call_ hA c_laws_markRat mm1 rfl ?_; cbv)
      | (refine Ar.call_ hA c_laws_eqRPt qqR0 rfl ?_; cbv)
      | (refine Ar.call_ hA c_laws_markRPt mmR0 rfl ?_; cbv)
      | (refine Ar.call_ hA c_laws_heldRPt hhR0 rfl ?_; cbv)
      | (refine Ar.bneq_ hA (fun h => absurd rfl h) (fun _ => ?_); cbv)
      | (refine Ar.neq_ hA (fun h => absurd rfl h) (fun _ => ?_); cbv)
      | (refine Ar.lss_ hA (fun h => absurd h (by omega)) (fun _ => ?_); cbv))
    all_goals
      refine flatK [0, 3, 4, 6, 7, 10, 11, 12] [3, 6, 10, 32, 42, 4128, 4138, 8224, 8234, 12320, 12330] (fun s f => ?_)
      cbv
      revert s f
      exact hB.it
  intro s f
  subst hK1
  refine awp_cutV 5 (fun K1 hK1 => ?_)
  apply shareU
  case k =>
    intro hB
    cbv
    repeat' (first
      | (refine Ar.notT_ hA ?_; cbv)
      | (refine Ar.notF_ hA ?_; cbv)
      | apply And.intro
      | (refine Ar.call_ hA cS dS rfl ?_; cbv)
      | (refine Ar.call_ hA cI dI rfl ?_; cbv)
      | (refine Ar.call_ hA c_laws_toRPtS tt0 rfl ?_; cbv)
      | (refine Ar.call_ hA c_laws_eqRPtS qq0 rfl ?_; cbv)
      | (refine Ar.call_ hA c_laws_markRPtS mm0 rfl ?_; cbv)
      | (refine Ar.call_ hA c_laws_toRat tt1 rfl ?_; cbv)
      | (refine Ar.call_ hA c_laws_eqRat qq1 rfl ?_; cbv)
      | (refine Ar.call_ hA c_laws_markRat mm1 rfl ?_; cbv)
      | (refine Ar.call_ hA c_laws_eqRPt qqR0 rfl ?_; cbv)
      | (refine Ar.call_ hA c_laws_markRPt mmR0 rfl ?_; cbv)
      | (refine Ar.call_ hA c_laws_heldRPt hhR0 rfl ?_; cbv)
      | (refine Ar.bneq_ hA (fun h => absurd rfl h) (fun _ => ?_); cbv)
      | (refine Ar.neq_ hA (fun h => absurd rfl h) (fun _ => ?_); cbv)
      | (refine Ar.lss_ hA (fun h => absurd h (by omega)) (fun _ => ?_); cbv))
    all_goals
      refine flatK [0, 3, 4, 6, 7, 10, 13, 14] [3, 6, 10, 32, 42, 4128, 4138, 8224, 8234, 12320, 12330] (fun s f => ?_)
      cbv
      revert s f
      exact hB.it
  intro s f
  subst hK1
  refine awp_cutV 5 (fun K1 hK1 => ?_)
  apply shareU
  case k =>
    intro hB
    cbv
    repeat' (first
      | (refine Ar.notT_ hA ?_; cbv)
      | (refine Ar.notF_ hA ?_; cbv)
      | apply And.intro
      | (refine Ar.call_ hA cS dS rfl ?_; cbv)
      | (refine Ar.call_ hA cI dI rfl ?_; cbv)
      | (refine Ar.call_ hA c_laws_toRPtS tt0 rfl ?_; cbv)
      | (refine Ar.call_ hA c_laws_eqRPtS qq0 rfl ?_; cbv)
      | (refine Ar.call_ hA c_laws_markRPtS mm0 rfl ?_; cbv)
      | (refine Ar.call_ hA c_laws_toRat tt1 rfl ?_; cbv)
      | (refine Ar.call_ hA c_laws_eqRat qq1 rfl ?_; cbv)
      | (refine Ar.call_ hA c_laws_markRat mm1 rfl ?_; cbv)
      | (refine Ar.call_ hA c_laws_eqRPt qqR0 rfl ?_; cbv)
      | (refine Ar.call_ hA c_laws_markRPt mmR0 rfl ?_; cbv)
      | (refine Ar.call_ hA c_laws_heldRPt hhR0 rfl ?_; cbv)
      | (refine Ar.bneq_ hA (fun h => absurd rfl h) (fun _ => ?_); cbv)
      | (refine Ar.neq_ hA (fun h => absurd rfl h) (fun _ => ?_); cbv)
      | (refine Ar.lss_ hA (fun h => absurd h (by omega)) (fun _ => ?_); cbv))
    all_goals
      refine flatK [4, 10, 13, 14] [10, 42, 4138, 8234, 12330] (fun s f => ?_)
      cbv
      revert s f
      exact hB.it
  intro s f
  subst hK1
  show awp _ _ _ _ _
  cbv
  repeat' (first
    | (refine Ar.notT_ hA ?_; cbv)
    | (refine Ar.notF_ hA ?_; cbv)
    | apply And.intro
    | (refine Ar.call_ hA cS dS rfl ?_; cbv)
    | (refine Ar.call_ hA cI dI rfl ?_; cbv)
    | (refine Ar.call_ hA c_laws_toRPtS tt0 rfl ?_; cbv)
    | (refine Ar.call_ hA c_laws_eqRPtS qq0 rfl ?_; cbv)
    | (refine Ar.call_ hA c_laws_markRPtS mm0 rfl ?_; cbv)
    | (refine Ar.call_ hA c_laws_toRat tt1 rfl ?_; cbv)
    | (refine Ar.call_ hA c_laws_eqRat qq1 rfl ?_; cbv)
    | (refine Ar.call_ hA c_laws_markRat mm1 rfl ?_; cbv)
    | (refine Ar.call_ hA c_laws_eqRPt qqR0 rfl ?_; cbv)
    | (refine Ar.call_ hA c_laws_markRPt mmR0 rfl ?_; cbv)
    | (refine Ar.call_ hA c_laws_heldRPt hhR0 rfl ?_; cbv)
    | (refine Ar.bneq_ hA (fun h => absurd rfl h) (fun _ => ?_); cbv)
    | (refine Ar.neq_ hA (fun h => absurd rfl h) (fun _ => ?_); cbv)
    | (refine Ar.lss_ hA (fun h => absurd h (by omega)) (fun _ => ?_); cbv))
  all_goals exact hK _ _ rfl rfl

end Go.VAI
