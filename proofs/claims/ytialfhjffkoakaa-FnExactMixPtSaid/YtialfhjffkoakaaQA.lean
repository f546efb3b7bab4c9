/- The law MixPt. -/
import Derived.Test.YtialfhjffkoakaaNX
import Derived.Test.YtialfhjffkoakaaIP
import Derived.Test.YtialfhjffkoakaaCU
namespace Go.VAI
open Go.Proofs
set_option maxRecDepth 100000
set_option maxHeartbeats 8000000

theorem hasV_RPt {r : PV} (h : hasV 6 42 r) : ∃ s1 a1 t1 b1 s2 a2 t2 b2, ∃ l1 m1 l2 m2 : List Int, r = .agg [bl s1, .sl a1, bl t1, .sl b1, bl s2, .sl a2, bl t2, .sl b2] ∧ a1 = l1.map i64 ∧ b1 = m1.map i64 ∧ a2 = l2.map i64 ∧ b2 = m2.map i64 ∧ lenOk ((s1, l1), (t1, m1)) ∧ lenOk ((s2, l2), (t2, m2)) := by
  obtain ⟨ls, rfl, a1, b1, rfl, ⟨a2, b2, rfl, ⟨a3, b3, rfl, ⟨s1, rfl⟩, a4, b4, rfl, ⟨l1, rfl, m1, k1⟩, rfl⟩, a5, b5, rfl, ⟨a6, b6, rfl, ⟨s2, rfl⟩, a7, b7, rfl, ⟨l2, rfl, m2, k2⟩, rfl⟩, rfl⟩, a8, b8, rfl, ⟨a9, b9, rfl, ⟨a10, b10, rfl, ⟨s3, rfl⟩, a11, b11, rfl, ⟨l3, rfl, m3, k3⟩, rfl⟩, a12, b12, rfl, ⟨a13, b13, rfl, ⟨s4, rfl⟩, a14, b14, rfl, ⟨l4, rfl, m4, k4⟩, rfl⟩, rfl⟩, rfl⟩ := h
  obtain ⟨i1, rfl⟩ := ints_of' k1
  obtain ⟨i2, rfl⟩ := ints_of' k2
  obtain ⟨i3, rfl⟩ := ints_of' k3
  obtain ⟨i4, rfl⟩ := ints_of' k4
  exact ⟨_, _, _, _, _, _, _, _, i1, i2, i3, i4, rfl, rfl, rfl, rfl, rfl, ⟨by simpa using m1, by simpa using m2⟩, ⟨by simpa using m3, by simpa using m4⟩⟩

/-- What a valid point is. -/
theorem pt_rat {k : Nat} {s1 t1 s2 t2 : Bool} {a1 b1 a2 b2 : List PV} {l1 m1 l2 m2 : List Int} (ha1 : a1 = l1.map i64) (hb1 : b1 = m1.map i64) (ha2 : a2 = l2.map i64) (hb2 : b2 = m2.map i64) (h : isPt k (((s1, l1), (t1, m1)), ((s2, l2), (t2, m2))) = true) : ∃ p : Rat × Rat, RatP s1 a1 t1 b1 p.1 ∧ RatP s2 a2 t2 b2 p.2 ∧ Szp k p := by
  unfold isPt at h
  simp only [Bool.and_eq_true] at h
  obtain ⟨x, hx, hx'⟩ := goodR_rat h.1.1.1 h.1.2
  obtain ⟨y, hy, hy'⟩ := goodR_rat h.1.1.2 h.2
  exact ⟨(x, y), by rw [ha1, hb1]; exact hx, by rw [ha2, hb2]; exact hy, hx', hy'⟩
theorem res8_len (p : Rat × Rat) : len8 1048576 (res8 p) := by
  unfold res8 okP
  split
  · rename_i h
    simp only [Bool.and_eq_true, fits_iff] at h
    have := @b8_len p 40 h
    exact ⟨⟨by have := this.1.1; omega, by have := this.1.2; omega⟩, ⟨by have := this.2.1; omega, by have := this.2.2; omega⟩⟩
  · exact ⟨⟨by simp [z8, z4], by simp [z8, z4]⟩, ⟨by simp [z8, z4], by simp [z8, z4]⟩⟩
theorem rs8_pv (r : R8) : wk2 (rs8 r) = .pv (r8pv r) := rfl
theorem rs4_pv (r : R4) : wk2 (rs4 r) = .pv (r4pv r) := rfl

theorem both_MixPt {s1 t1 s2 t2 s3 t3 s4 t4 s5 t5 : Bool} {a1 b1 a2 b2 a3 b3 a4 b4 a5 b5 : List PV} {l1 m1 l2 m2 l3 m3 l4 m4 l5 m5 : List Int} (ha1 : a1 = l1.map i64) (hb1 : b1 = m1.map i64) (ha2 : a2 = l2.map i64) (hb2 : b2 = m2.map i64) (h1 : lenOk ((s1, l1), (t1, m1))) (h2 : lenOk ((s2, l2), (t2, m2))) (ha3 : a3 = l3.map i64) (hb3 : b3 = m3.map i64) (ha4 : a4 = l4.map i64) (hb4 : b4 = m4.map i64) (h3 : lenOk ((s3, l3), (t3, m3))) (h4 : lenOk ((s4, l4), (t4, m4))) (ha5 : a5 = l5.map i64) (hb5 : b5 = m5.map i64) (h5 : lenOk ((s5, l5), (t5, m5))) :
    ∃ (C : R8) (G : Bool), len8 1048576 C ∧ Does Try.prog 20 [ppv s1 a1 t1 b1 s2 a2 t2 b2, ppv s3 a3 t3 b3 s4 a4 t4 b4, rpv s5 a5 t5 b5] (.tup [.pv (r8pv C), .pv (bl G)]) [] ∧ Does Try.prog 23 [ppv s1 a1 t1 b1 s2 a2 t2 b2, ppv s3 a3 t3 b3 s4 a4 t4 b4, rpv s5 a5 t5 b5] (.tup [rs8 C, .pv (bl G)]) [] := by
  have e1 := d_impl_isRPt (n := 2) (k := 2) ha1 hb1 ha2 hb2 rfl h1 h2
  have e2 := d_impl_isRPt (n := 2) (k := 2) ha3 hb3 ha4 hb4 rfl h3 h4
  have e3 := d_impl_isShare (s := s5) (t := t5) ha5 hb5 h5
  have f1 := d_spec_l12Pt (s1 := s1) (t1 := t1) (s2 := s2) (t2 := t2) ha1 hb1 ha2 hb2 h1 h2
  have f2 := d_spec_l12Pt (s1 := s3) (t1 := t3) (s2 := s4) (t2 := t4) ha3 hb3 ha4 hb4 h3 h4
  have f3 := d_spec_l12Small (s := s5) (t := t5) ha5 hb5 h5.1 h5.2
  have g1 := @pt_rat 2 s1 t1 s2 t2 _ _ _ _ _ _ _ _ ha1 hb1 ha2 hb2
  have g2 := @pt_rat 2 s3 t3 s4 t4 _ _ _ _ _ _ _ _ ha3 hb3 ha4 hb4
  have g3 : goodR ((s5, l5), (t5, m5)) = true → shortR 2 ((s5, l5), (t5, m5)) = true → ∃ q, RatP s5 a5 t5 b5 q ∧ Sz 2 q := fun x y => by rw [ha5, hb5]; exact goodR_rat x y
  rw [Bool.and_comm] at f3
  generalize isPt 2 (((s1, l1), (t1, m1)), ((s2, l2), (t2, m2))) = B1 at *
  generalize isPt 2 (((s3, l3), (t3, m3)), ((s4, l4), (t4, m4))) = B2 at *
  have g3 : (goodR ((s5, l5), (t5, m5)) && shortR 2 ((s5, l5), (t5, m5))) = true → ∃ q, RatP s5 a5 t5 b5 q ∧ Sz 2 q := fun h => by rw [Bool.and_eq_true] at h; exact g3 h.1 h.2
  generalize (goodR ((s5, l5), (t5, m5)) && shortR 2 ((s5, l5), (t5, m5))) = B3 at *
  clear ha1 hb1 ha2 hb2 h1 h2 ha3 hb3 ha4 hb4 h3 h4 ha5 hb5 h5
  have c1 : Callable Try.prog 62 := ⟨_, Try.func62, rfl, by kernel_rfl⟩
  have c2 : Callable Try.prog 57 := ⟨_, Try.func57, rfl, by kernel_rfl⟩
  by_cases hB : B1 = true ∧ B2 = true ∧ B3 = true
  · obtain ⟨rfl, rfl, rfl⟩ := hB
    obtain ⟨p, p1, p2, pz⟩ := g1 rfl
    obtain ⟨q, q1, q2, qz⟩ := g2 rfl
    obtain ⟨t, tt, tz⟩ := g3 rfl
    obtain ⟨u1, x1, v1, y1, r1⟩ := RatP.ex (mixR t p.1 q.1)
    obtain ⟨u2, x2, v2, y2, r2⟩ := RatP.ex (mixR t p.2 q.2)
    have dm := d_impl_mix p1 p2 q1 q2 tt pz qz tz (by omega) r1 r2
    have ds := d_spec_l12Mix p1 p2 q1 q2 tt pz qz tz (by omega) r1 r2
    have hz : Szp 11 (mixP t p q) := Szp.mixP tz pz qz
    have dc := d_impl_checkedRPt (p := mixP t p q) r1 r2 hz (by omega)
    have df := (d_spec_l12Fits (p := mixP t p q) r1 r2 hz (by omega))
    refine ⟨res8 (mixP t p q), okP (mixP t p q), res8_len _, ?_, ?_⟩
    · have df' : Does Try.prog 59 [ppv u1 x1 v1 y1 u2 x2 v2 y2] (.tup [.pv (r8pv (res8 (mixP t p q))), .pv (bl (okP (mixP t p q)))]) [] := df.wk
      generalize okP (mixP t p q) = G at *
      obtain ⟨s6, a6, t6, b6, s7, a7, t7, b7, hV⟩ : ∃ s6 a6 t6 b6 s7 a7 t7 b7, r8pv (res8 (mixP t p q)) = ppv s6 a6 t6 b6 s7 a7 t7 b7 := ⟨_, _, _, _, _, _, _, _, rfl⟩
      rw [hV] at df' ⊢
      clear hV
      clear r1 r2 p1 p2 pz q1 q2 qz tt tz g1 g2 g3 dc df hz dm e1 e2 e3
      refine Does.wk (rs := .tup [vrs8 s6 a6 t6 b6 s7 a7 t7 b7, .pv (bl G)]) ?_
      refine does_of hT hM Try.func20 rfl (D := []) (by kernel_rfl) rfl rfl rfl (fun A K hA hK => ?_)
      cbv
      repeat' (first
        | (refine Ar.notT_ hA ?_; cbv)
        | (refine Ar.notF_ hA ?_; cbv)
        | (refine Ar.call_ hA c_spec_l12Pt f1 rfl ?_; cbv)
        | (refine Ar.call_ hA c_spec_l12Pt f2 rfl ?_; cbv)
        | (refine Ar.call_ hA c_spec_l12Small f3 rfl ?_; cbv)
        | (refine Ar.call_ hA c_spec_l12Mix ds rfl ?_; cbv)
        | (refine Ar.call_ hA c_spec_l12Fits df' rfl ?_; cbv))
      exact hK _ _ rfl rfl
    · obtain ⟨C, hC⟩ : ∃ C, C = res8 (mixP t p q) := ⟨_, rfl⟩
      rw [← hC] at dc ⊢
      generalize okP (mixP t p q) = G at *
      obtain ⟨⟨⟨cs1, cl1⟩, ct1, cm1⟩, ⟨cs2, cl2⟩, ct2, cm2⟩ := C
      show Does Try.prog 23 _ (.tup [prs cs1 (cl1.map i64) ct1 (cm1.map i64) cs2 (cl2.map i64) ct2 (cm2.map i64), .pv (bl G)]) []
      have dc : Does Try.prog 64 [ppv u1 x1 v1 y1 u2 x2 v2 y2] (.tup [prs cs1 (cl1.map i64) ct1 (cm1.map i64) cs2 (cl2.map i64) ct2 (cm2.map i64), .pv (bl G)]) [] := dc
      generalize cl1.map i64 = w1 at *
      generalize cm1.map i64 = w2 at *
      generalize cl2.map i64 = w3 at *
      generalize cm2.map i64 = w4 at *
      clear r1 r2 p1 p2 pz q1 q2 qz tt tz g1 g2 g3 df hz ds f1 f2 f3 hC
      refine does_of hT hM Try.func23 rfl (D := []) (by kernel_rfl) rfl rfl rfl (fun A K hA hK => ?_)
      cbv
      repeat' (first
        | (refine Ar.notT_ hA ?_; cbv)
        | (refine Ar.notF_ hA ?_; cbv)
        | (refine Ar.call_ hA c_impl_isRPt e1 rfl ?_; cbv)
        | (refine Ar.call_ hA c_impl_isRPt e2 rfl ?_; cbv)
        | (refine Ar.call_ hA c_impl_isShare e3 rfl ?_; cbv)
        | (refine Ar.call_ hA c_impl_mix dm rfl ?_; cbv)
        | (refine Ar.call_ hA c_impl_checkedRPt dc rfl ?_; cbv))
      exact hK _ _ rfl rfl
  · refine ⟨z8, false, ⟨⟨by simp [z8, z4], by simp [z8, z4]⟩, ⟨by simp [z8, z4], by simp [z8, z4]⟩⟩, ?_, ?_⟩
    · have : Does Try.prog 20 [ppv s1 a1 t1 b1 s2 a2 t2 b2, ppv s3 a3 t3 b3 s4 a4 t4 b4, rpv s5 a5 t5 b5] (.tup [.ag [.pv (bl false), .pv (.val (.slice none 0 0)), .pv (bl false), .pv (.val (.slice none 0 0)), .pv (bl false), .pv (.val (.slice none 0 0)), .pv (bl false), .pv (.val (.slice none 0 0))], .pv (bl false)]) [] := by
        clear g1 g2 g3 e1 e2 e3
        cases B1 <;> cases B2 <;> cases B3 <;> first | (exact absurd ⟨rfl, rfl, rfl⟩ hB) | skip
        all_goals
          clear hB
          refine does_of hT hM Try.func20 rfl (D := []) (by kernel_rfl) rfl rfl rfl (fun A K hA hK => ?_)
          cbv
          repeat' (first
            | (refine Ar.notT_ hA ?_; cbv)
            | (refine Ar.notF_ hA ?_; cbv)
            | (refine Ar.call_ hA c_spec_l12Pt f1 rfl ?_; cbv)
            | (refine Ar.call_ hA c_spec_l12Pt f2 rfl ?_; cbv)
            | (refine Ar.call_ hA c_spec_l12Small f3 rfl ?_; cbv))
          exact hK _ _ rfl rfl
      exact this.nr.wk
    · have : Does Try.prog 23 [ppv s1 a1 t1 b1 s2 a2 t2 b2, ppv s3 a3 t3 b3 s4 a4 t4 b4, rpv s5 a5 t5 b5] (.tup [.ag [.pv (bl false), .pv (.val (.slice none 0 0)), .pv (bl false), .pv (.val (.slice none 0 0)), .pv (bl false), .pv (.val (.slice none 0 0)), .pv (bl false), .pv (.val (.slice none 0 0))], .pv (bl false)]) [] := by
        clear g1 g2 g3 f1 f2 f3
        cases B1 <;> cases B2 <;> cases B3 <;> first | (exact absurd ⟨rfl, rfl, rfl⟩ hB) | skip
        all_goals
          clear hB
          refine does_of hT hM Try.func23 rfl (D := []) (by kernel_rfl) rfl rfl rfl (fun A K hA hK => ?_)
          cbv
          repeat' (first
            | (refine Ar.notT_ hA ?_; cbv)
            | (refine Ar.notF_ hA ?_; cbv)
            | (refine Ar.call_ hA c_impl_isRPt e1 rfl ?_; cbv)
            | (refine Ar.call_ hA c_impl_isRPt e2 rfl ?_; cbv)
            | (refine Ar.call_ hA c_impl_isShare e3 rfl ?_; cbv))
          exact hK _ _ rfl rfl
      exact this.nr

theorem c_laws_FnExactMixPt : Callable Try.prog 4 := ⟨_, Try.func4, rfl, by kernel_rfl⟩
theorem d_laws_FnExactMixPt {s01 t01 s02 t02 : Bool} {a01 b01 a02 b02 : List PV} {l01 m01 l02 m02 : List Int} {s11 t11 s12 t12 : Bool} {a11 b11 a12 b12 : List PV} {l11 m11 l12 m12 : List Int} {s21 t21 : Bool} {a21 b21 : List PV} {l21 m21 : List Int} (h0 : a01 = l01.map i64 ∧ b01 = m01.map i64 ∧ a02 = l02.map i64 ∧ b02 = m02.map i64 ∧ lenOk ((s01, l01), (t01, m01)) ∧ lenOk ((s02, l02), (t02, m02))) (h1 : a11 = l11.map i64 ∧ b11 = m11.map i64 ∧ a12 = l12.map i64 ∧ b12 = m12.map i64 ∧ lenOk ((s11, l11), (t11, m11)) ∧ lenOk ((s12, l12), (t12, m12))) (h2 : a21 = l21.map i64 ∧ b21 = m21.map i64 ∧ l21.length ≤ 9223372036854775807 ∧ m21.length ≤ 9223372036854775807) : Does Try.prog 4 [ppv s01 a01 t01 b01 s02 a02 t02 b02, ppv s11 a11 t11 b11 s12 a12 t12 b12, rpv s21 a21 t21 b21] (.pv (bl true)) [] := by
  refine does_of hT hM Try.func4 rfl (D := [(11, [0, 1, 2, 3, 4, 5, 6, 7, 8, 10]), (38, [0, 1, 2, 3, 4, 5, 6, 7, 8, 10])]) (by kernel_rfl) rfl rfl rfl (fun A K hA hK => ?_)
  obtain ⟨ha01, hb01, ha02, hb02, ho01, ho02⟩ := h0
  obtain ⟨ha11, hb11, ha12, hb12, ho11, ho12⟩ := h1
  obtain ⟨ha21, hb21, ho21, ho22⟩ := h2
  obtain ⟨CR0, G, hCR0, dS, dI⟩ := both_MixPt ha01 hb01 ha02 hb02 ho01 ho02 ha11 hb11 ha12 hb12 ho11 ho12 ha21 hb21 ⟨ho21, ho22⟩
  obtain ⟨⟨⟨sR01, lR01⟩, tR01, mR01⟩, ⟨sR02, lR02⟩, tR02, mR02⟩ := CR0
  obtain ⟨aR01, haR01⟩ : ∃ e, e = lR01.map i64 := ⟨_, rfl⟩
  obtain ⟨bR01, hbR01⟩ : ∃ e, e = mR01.map i64 := ⟨_, rfl⟩
  obtain ⟨aR02, haR02⟩ : ∃ e, e = lR02.map i64 := ⟨_, rfl⟩
  obtain ⟨bR02, hbR02⟩ : ∃ e, e = mR02.map i64 := ⟨_, rfl⟩
  have dS : Does Try.prog 20 [ppv s01 a01 t01 b01 s02 a02 t02 b02, ppv s11 a11 t11 b11 s12 a12 t12 b12, rpv s21 a21 t21 b21] (.tup [.pv (ppv sR01 aR01 tR01 bR01 sR02 aR02 tR02 bR02), .pv (bl G)]) [] := by rw [haR01, hbR01, haR02, hbR02]; exact dS
  have dI : Does Try.prog 23 [ppv s01 a01 t01 b01 s02 a02 t02 b02, ppv s11 a11 t11 b11 s12 a12 t12 b12, rpv s21 a21 t21 b21] (.tup [prs sR01 aR01 tR01 bR01 sR02 aR02 tR02 bR02, .pv (bl G)]) [] := by rw [haR01, hbR01, haR02, hbR02]; exact dI
  have cS : Callable Try.prog 20 := ⟨_, Try.func20, rfl, by kernel_rfl⟩
  have cI : Callable Try.prog 23 := ⟨_, Try.func23, rfl, by kernel_rfl⟩
  refine abod_awp ⟨Nat.le_of_ble_eq_true rfl, rfl, rfl⟩ ?_
  refine awp_cutV 8 (fun K1 hK1 => ?_)
  cbv
  have dz0 := d_laws_szRPt (s1 := s01) (t1 := t01) (s2 := s02) (t2 := t02) (x := 1048576) ha01 hb01 ha02 hb02 ho01 ho02 ⟨by omega, by omega⟩
  have hle0 := @sz8_le (((s01, l01), (t01, m01)), ((s02, l02), (t02, m02))) (1048576) (by omega)
  have hz0 : 0 ≤ sz8 (((s01, l01), (t01, m01)), ((s02, l02), (t02, m02))) (1048576) → len8 1048576 (((s01, l01), (t01, m01)), ((s02, l02), (t02, m02))) := fun h => by
    have := sz8_ok h
    simp only at this
    exact ⟨⟨by show l01.length ≤ _; omega, by show m01.length ≤ _; omega⟩, ⟨by show l02.length ≤ _; omega, by show m02.length ≤ _; omega⟩⟩
  generalize sz8 (((s01, l01), (t01, m01)), ((s02, l02), (t02, m02))) (1048576) = Z0 at *
  refine Ar.callI hA c_laws_szRPt dz0 rfl (fun r0 hr0 => ?_)
  cbv
  refine Ar.lss_ hA (fun h => ?_) (fun h => ?_)
  · cbv
    exact hK _ _ rfl rfl
  obtain rfl := hr0
  have z0 := hz0 (by omega)
  cbv
  have dz1 := d_laws_szRPt (s1 := s11) (t1 := t11) (s2 := s12) (t2 := t12) (x := r0) ha11 hb11 ha12 hb12 ho11 ho12 ⟨by omega, by omega⟩
  have hle1 := @sz8_le (((s11, l11), (t11, m11)), ((s12, l12), (t12, m12))) (r0) (by omega)
  have hz1 : 0 ≤ sz8 (((s11, l11), (t11, m11)), ((s12, l12), (t12, m12))) (r0) → len8 1048576 (((s11, l11), (t11, m11)), ((s12, l12), (t12, m12))) := fun h => by
    have := sz8_ok h
    simp only at this
    exact ⟨⟨by show l11.length ≤ _; omega, by show m11.length ≤ _; omega⟩, ⟨by show l12.length ≤ _; omega, by show m12.length ≤ _; omega⟩⟩
  generalize sz8 (((s11, l11), (t11, m11)), ((s12, l12), (t12, m12))) (r0) = Z1 at *
  refine Ar.callI hA c_laws_szRPt dz1 rfl (fun r1 hr1 => ?_)
  cbv
  refine Ar.lss_ hA (fun h => ?_) (fun h => ?_)
  · cbv
    exact hK _ _ rfl rfl
  obtain rfl := hr1
  have z1 := hz1 (by omega)
  cbv
  have dz2 := d_laws_szRat (s := s21) (t := t21) (x := r1) ha21 hb21 ho21 ho22 ⟨by omega, by omega⟩
  have hle2 := @sz4_le ((s21, l21), (t21, m21)) (r1) (by omega)
  have hz2 : 0 ≤ sz4 ((s21, l21), (t21, m21)) (r1) → len4 1048576 ((s21, l21), (t21, m21)) := fun h => by
    have := sz4_ok h
    simp only at this
    exact ⟨by show l21.length ≤ _; omega, by show m21.length ≤ _; omega⟩
  generalize sz4 ((s21, l21), (t21, m21)) (r1) = Z2 at *
  refine Ar.callI hA c_laws_szRat dz2 rfl (fun r2 hr2 => ?_)
  cbv
  refine Ar.lss_ hA (fun h => ?_) (fun h => ?_)
  · cbv
    exact hK _ _ rfl rfl
  obtain rfl := hr2
  have z2 := hz2 (by omega)
  cbv
  have tt0 := d_laws_toRPt (s1 := s01) (t1 := t01) (s2 := s02) (t2 := t02) ha01 hb01 ha02 hb02 z0
  have qq0 := d_laws_eqRPt (s1 := s01) (t1 := t01) (s2 := s02) (t2 := t02) ha01 hb01 ha02 hb02 z0
  obtain ⟨k01, hk01⟩ : ∃ k, k = onFrom l01.length (1) := ⟨_, rfl⟩
  obtain ⟨k02, hk02⟩ : ∃ k, k = onFrom m01.length k01 := ⟨_, rfl⟩
  obtain ⟨k03, hk03⟩ : ∃ k, k = onFrom l02.length k02 := ⟨_, rfl⟩
  obtain ⟨k04, hk04⟩ : ∃ k, k = onFrom m02.length k03 := ⟨_, rfl⟩
  obtain ⟨c01, hc01⟩ : ∃ c, c = (countUp l01.length (1)).map i64 := ⟨_, rfl⟩
  obtain ⟨d01, hd01⟩ : ∃ c, c = (countUp m01.length k01).map i64 := ⟨_, rfl⟩
  obtain ⟨c02, hc02⟩ : ∃ c, c = (countUp l02.length k02).map i64 := ⟨_, rfl⟩
  obtain ⟨d02, hd02⟩ : ∃ c, c = (countUp m02.length k03).map i64 := ⟨_, rfl⟩
  have mm0 := d_laws_markRPt (s1 := s01) (t1 := t01) (s2 := s02) (t2 := t02) ha01 hb01 ha02 hb02 z0 ⟨by omega, by omega⟩ hk01 hk02 hk03 hc01 hd01 hc02 hd02 hk04
  have hq0 : 0 ≤ k04 ∧ k04 ≤ (1) + 4194304 := by have h1 := z0; obtain ⟨⟨x1, x2⟩, x3, x4⟩ := h1; simp only at x1 x2 x3 x4; unfold onFrom at hk01 hk02 hk03 hk04; omega
  have tt1 := d_laws_toRPt (s1 := s11) (t1 := t11) (s2 := s12) (t2 := t12) ha11 hb11 ha12 hb12 z1
  have qq1 := d_laws_eqRPt (s1 := s11) (t1 := t11) (s2 := s12) (t2 := t12) ha11 hb11 ha12 hb12 z1
  obtain ⟨k11, hk11⟩ : ∃ k, k = onFrom l11.length (k04) := ⟨_, rfl⟩
  obtain ⟨k12, hk12⟩ : ∃ k, k = onFrom m11.length k11 := ⟨_, rfl⟩
  obtain ⟨k13, hk13⟩ : ∃ k, k = onFrom l12.length k12 := ⟨_, rfl⟩
  obtain ⟨k14, hk14⟩ : ∃ k, k = onFrom m12.length k13 := ⟨_, rfl⟩
  obtain ⟨c11, hc11⟩ : ∃ c, c = (countUp l11.length (k04)).map i64 := ⟨_, rfl⟩
  obtain ⟨d11, hd11⟩ : ∃ c, c = (countUp m11.length k11).map i64 := ⟨_, rfl⟩
  obtain ⟨c12, hc12⟩ : ∃ c, c = (countUp l12.length k12).map i64 := ⟨_, rfl⟩
  obtain ⟨d12, hd12⟩ : ∃ c, c = (countUp m12.length k13).map i64 := ⟨_, rfl⟩
  have mm1 := d_laws_markRPt (s1 := s11) (t1 := t11) (s2 := s12) (t2 := t12) ha11 hb11 ha12 hb12 z1 ⟨by omega, by omega⟩ hk11 hk12 hk13 hc11 hd11 hc12 hd12 hk14
  have hq1 : 0 ≤ k14 ∧ k14 ≤ (k04) + 4194304 := by have h1 := z1; obtain ⟨⟨x1, x2⟩, x3, x4⟩ := h1; simp only at x1 x2 x3 x4; unfold onFrom at hk11 hk12 hk13 hk14; omega
  have tt2 := d_laws_toRat (s := s21) (t := t21) ha21 hb21 z2
  have qq2 := d_laws_eqRat (s := s21) (t := t21) ha21 hb21 z2
  obtain ⟨k21, hk21⟩ : ∃ k, k = onFrom l21.length (k14) := ⟨_, rfl⟩
  obtain ⟨k22, hk22⟩ : ∃ k, k = onFrom m21.length k21 := ⟨_, rfl⟩
  obtain ⟨c21, hc21⟩ : ∃ c, c = (countUp l21.length (k14)).map i64 := ⟨_, rfl⟩
  obtain ⟨d21, hd21⟩ : ∃ c, c = (countUp m21.length k21).map i64 := ⟨_, rfl⟩
  have mm2 := d_laws_markRat (s := s21) (t := t21) (k := k14) (d := d21) (r := k22) ha21 hb21 z2 ⟨by omega, by omega⟩ hc21 (by rw [hd21, hk21]) (by rw [hk22, hk21])
  have hq2 : 0 ≤ k22 ∧ k22 ≤ (k14) + 2097152 := by have h1 := z2; obtain ⟨x1, x2⟩ := h1; simp only at x1 x2; unfold onFrom at hk21 hk22; omega
  have zR0 := hCR0
  have qqR0 := d_laws_eqRPt (s1 := sR01) (t1 := tR01) (s2 := sR02) (t2 := tR02) haR01 hbR01 haR02 hbR02 hCR0
  obtain ⟨kR01, hkR01⟩ : ∃ k, k = onFrom lR01.length (1) := ⟨_, rfl⟩
  obtain ⟨kR02, hkR02⟩ : ∃ k, k = onFrom mR01.length kR01 := ⟨_, rfl⟩
  obtain ⟨kR03, hkR03⟩ : ∃ k, k = onFrom lR02.length kR02 := ⟨_, rfl⟩
  obtain ⟨kR04, hkR04⟩ : ∃ k, k = onFrom mR02.length kR03 := ⟨_, rfl⟩
  obtain ⟨cR01, hcR01⟩ : ∃ c, c = (countUp lR01.length (1)).map i64 := ⟨_, rfl⟩
  obtain ⟨dR01, hdR01⟩ : ∃ c, c = (countUp mR01.length kR01).map i64 := ⟨_, rfl⟩
  obtain ⟨cR02, hcR02⟩ : ∃ c, c = (countUp lR02.length kR02).map i64 := ⟨_, rfl⟩
  obtain ⟨dR02, hdR02⟩ : ∃ c, c = (countUp mR02.length kR03).map i64 := ⟨_, rfl⟩
  have mmR0 := d_laws_markRPt (s1 := sR01) (t1 := tR01) (s2 := sR02) (t2 := tR02) haR01 hbR01 haR02 hbR02 hCR0 ⟨by omega, by omega⟩ hkR01 hkR02 hkR03 hcR01 hdR01 hcR02 hdR02 hkR04
  have hqR0 : 0 ≤ kR04 ∧ kR04 ≤ (1) + 4194304 := by have h1 := zR0; obtain ⟨⟨x1, x2⟩, x3, x4⟩ := h1; simp only at x1 x2 x3 x4; unfold onFrom at hkR01 hkR02 hkR03 hkR04; omega
  have hhR0 := d_laws_heldRPt (s1 := sR01) (t1 := tR01) (s2 := sR02) (t2 := tR02) hCR0.1.1 hCR0.1.2 hCR0.2.1 hCR0.2.2 ⟨by omega, by omega⟩ hkR01 hkR02 hkR03 hcR01 hdR01 hcR02 hdR02 hkR04
  try clear ha01 hb01 ha02 hb02 ho01 ho02 z0 hz0 hle0 dz0 ha11 hb11 ha12 hb12 ho11 ho12 z1 hz1 hle1 dz1 ha21 hb21 ho21 ho22 z2 hz2 hle2 dz2
  refine awp_flat hK1 [3, 4, 5, 6] [3, 4, 5] (fun s f => ?_)
  refine awp_cutV 5 (fun K1 hK1 => ?_)
  apply shareU
  case k =>
    intro hB
    cbv
    repeat' (first
      | (refine Ar.notT_ hA ?_; cbv)
      | (refine Ar.notF_ hA ?_; cbv)
      | apply And.intro
      | (refine Ar.call_ hA cS dS rfl ?_; cbv)
      | (refine Ar.call_ hA cI dI rfl ?_; cbv)
      | (refine Ar.call_ hA c_laws_toRPt tt0 rfl ?_; cbv)
      | (refine Ar.call_ hA c_laws_eqRPt qq0 rfl ?_; cbv)
      | (refine Ar.call_ hA c_laws_markRPt mm0 rfl ?_; cbv)
      | (refine Ar.call_ hA c_laws_toRPt tt1 rfl ?_; cbv)
      | (refine Ar.call_ hA c_laws_eqRPt qq1 rfl ?_; cbv)
      | (refine Ar.call_ hA c_laws_markRPt mm1 rfl ?_; cbv)
      | (refine Ar.call_ hA c_laws_toRat tt2 rfl ?_; cbv)
      | (refine Ar.call_ hA c_laws_eqRat qq2 rfl ?_; cbv)
      | (refine Ar.call_ hA c_laws_markRat mm2 rfl ?_; cbv)
      | (refine Ar.call_ hA c_laws_eqRPt qqR0 rfl ?_; cbv)
      | (refine Ar.call_ hA c_laws_markRPt mmR0 rfl ?_; cbv)
      | (refine Ar.call_ hA c_laws_heldRPt hhR0 rfl ?_; cbv)
      | (refine Ar.bneq_ hA (fun h => absurd rfl h) (fun _ => ?_); cbv)
      | (refine Ar.neq_ hA (fun h => absurd rfl h) (fun _ => ?_); cbv)
      | (refine Ar.lss_ hA (fun h => absurd h (by omega)) (fun _ => ?_); cbv))
    all_goals
      refine flatK [3, 4, 5, 6, 8, 9, 10, 11, 12, 13, 14] [3, 4, 5, 8, 10, 11, 12, 13, 42, 46, 48, 50, 55, 4138, 4142, 4144, 4146, 4151, 8234, 8238, 8240, 8242, 8247, 12330, 12334, 12336, 12338, 12343] (fun s f => ?_)
      cbv
      revert s f
      exact hB.it
  intro s f
  subst hK1
  refine awp_cutV 5 (fun K1 hK1 => ?_)
  apply shareU
  case k =>
    intro hB
    cbv
    repeat' (first
      | (refine Ar.notT_ hA ?_; cbv)
      | (refine Ar.notF_ hA ?_; cbv)
      | apply And.intro
      | (refine Ar.call_ hA cS dS rfl ?_; cbv)
      | (refine Ar.call_ hA cI dI rfl ?_; cbv)
      | (refine Ar.call_ hA c_laws_toRPt tt0 rfl ?_; cbv)
      | (refine Ar.call_ hA c_laws_eqRPt qq0 rfl ?_; cbv)
      | (refine Ar.call_ hA c_laws_markRPt mm0 rfl ?_; cbv)
      | (refine Ar.call_ hA c_laws_toRPt tt1 rfl ?_; cbv)
      | (refine Ar.call_ hA c_laws_eqRPt qq1 rfl ?_; cbv)
      | (refine Ar.call_ hA c_laws_markRPt mm1 rfl ?_; cbv)
      | (refine Ar.call_ hA c_laws_toRat tt2 rfl ?_; cbv)
      | (refine Ar.call_ hA c_laws_eqRat qq2 rfl ?_; cbv)
      | (refine Ar.call_ hA c_laws_markRat mm2 rfl ?_; cbv)
      | (refine Ar.call_ hA c_laws_eqRPt qqR0 rfl ?_; cbv)
      | (refine Ar.call_ hA c_laws_markRPt mmR0 rfl ?_; cbv)
      | (refine Ar.call_ hA c_laws_heldRPt hhR0 rfl ?_; cbv)
      | (refine Ar.bneq_ hA (fun h => absurd rfl h) (fun _ => ?_); cbv)
      | (refine Ar.neq_ hA (fun h => absurd rfl h) (fun _ => ?_); cbv)
      | (refine Ar.lss_ hA (fun h => absurd h (by omega)) (fun _ => ?_); cbv))
    all_goals
      refine flatK [3, 4, 5, 6, 8, 9, 10, 11, 12, 13, 14, 15] [3, 4, 5, 8, 10, 11, 12, 13, 42, 46, 48, 50, 55, 4138, 4142, 4144, 4146, 4151, 8234, 8238, 8240, 8242, 8247, 12330, 12334, 12336, 12338, 12343] (fun s f => ?_)
      cbv
      revert s f
      exact hB.it
  intro s f
  subst hK1
  refine awp_cutV 5 (fun K1 hK1 => ?_)
  apply shareU
  case k =>
    intro hB
    cbv
    repeat' (first
      | (refine Ar.notT_ hA ?_; cbv)
      | (refine Ar.notF_ hA ?_; cbv)
      | apply And.intro
      | (refine Ar.call_ hA cS dS rfl ?_; cbv)
      | (refine Ar.call_ hA cI dI rfl ?_; cbv)
      | (refine Ar.call_ hA c_laws_toRPt tt0 rfl ?_; cbv)
      | (refine Ar.call_ hA c_laws_eqRPt qq0 rfl ?_; cbv)
      | (refine Ar.call_ hA c_laws_markRPt mm0 rfl ?_; cbv)
      | (refine Ar.call_ hA c_laws_toRPt tt1 rfl ?_; cbv)
      | (refine Ar.call_ hA c_laws_eqRPt qq1 rfl ?_; cbv)
      | (refine Ar.call_ hA c_laws_markRPt mm1 rfl ?_; cbv)
      | (refine Ar.call_ hA c_laws_toRat tt2 rfl ?_; cbv)
      | (refine Ar.call_ hA c_laws_eqRat qq2 rfl ?_; cbv)
      | (refine Ar.call_ hA c_laws_markRat mm2 rfl ?_; cbv)
      | (refine Ar.call_ hA c_laws_eqRPt qqR0 rfl ?_; cbv)
      | (refine Ar.call_ hA c_laws_markRPt mmR0 rfl ?_; cbv)
      | (refine Ar.call_ hA c_laws_heldRPt hhR0 rfl ?_; cbv)
      | (refine Ar.bneq_ hA (fun h => absurd rfl h) (fun _ => ?_); cbv)
      | (refine Ar.neq_ hA (fun h => absurd rfl h) (fun _ => ?_); cbv)
      | (refine Ar.lss_ hA (fun h => absurd h (by omega)) (fun _ => ?_); cbv))
    all_goals
      refine flatK [3, 4, 5, 6, 8, 9, 13, 16] [3, 4, 5, 8, 13, 42, 55, 4138, 4151, 8234, 8247, 12330, 12343] (fun s f => ?_)
      cbv
      revert s f
      exact hB.it
  intro s f
  subst hK1
  refine awp_cutV 5 (fun K1 hK1 => ?_)
  apply shareU
  case k =>
    intro hB
    cbv
    repeat' (first
      | (refine Ar.notT_ hA ?_; cbv)
      | (refine Ar.notF_ hA ?_; cbv)
      | apply And.intro
      | (refine Ar.call_ hA cS dS rfl ?_; cbv)
      | (refine Ar.call_ hA cI dI rfl ?_; cbv)
      | (refine Ar.call_ hA c_laws_toRPt tt0 rfl ?_; cbv)
      | (refine Ar.call_ hA c_laws_eqRPt qq0 rfl ?_; cbv)
      | (refine Ar.call_ hA c_laws_markRPt mm0 rfl ?_; cbv)
      | (refine Ar.call_ hA c_laws_toRPt tt1 rfl ?_; cbv)
      | (refine Ar.call_ hA c_laws_eqRPt qq1 rfl ?_; cbv)
      | (refine Ar.call_ hA c_laws_markRPt mm1 rfl ?_; cbv)
      | (refine Ar.call_ hA c_laws_toRat tt2 rfl ?_; cbv)
      | (refine Ar.call_ hA c_laws_eqRat qq2 rfl ?_; cbv)
      | (refine Ar.call_ hA c_laws_markRat mm2 rfl ?_; cbv)
      | (refine Ar.call_ hA c_laws_eqRPt qqR0 rfl ?_; cbv)
      | (refine Ar.call_ hA c_laws_markRPt mmR0 rfl ?_; cbv)
      | (refine Ar.call_ hA c_laws_heldRPt hhR0 rfl ?_; cbv)
      | (refine Ar.bneq_ hA (fun h => absurd rfl h) (fun _ => ?_); cbv)
      | (refine Ar.neq_ hA (fun h => absurd rfl h) (fun _ => ?_); cbv)
      | (refine Ar.lss_ hA (fun h => absurd h (by omega)) (fun _ => ?_); cbv))
    all_goals
      refine flatK [3, 4, 5, 6, 8, 9, 13, 16, 17] [3, 4, 5, 8, 13, 42, 55, 4138, 4151, 8234, 8247, 12330, 12343] (fun s f => ?_)
      cbv
      revert s f
      exact hB.it
  intro s f
  subst hK1
  refine awp_cutV 5 (fun K1 hK1 => ?_)
  apply shareU
  case k =>
    intro hB
    cbv
    repeat' (first
      | (refine Ar.notT_ hA ?_; cbv)
      | (refine Ar.notF_ hA ?_; cbv)
      | apply And.intro
      | (refine Ar.call_ hA cS dS rfl ?_; cbv)
      | (refine Ar.call_ hA cI dI rfl ?_; cbv)
      | (refine Ar.call_ hA c_laws_toRPt tt0 rfl ?_; cbv)
      | (refine Ar.call_ hA c_laws_eqRPt qq0 rfl ?_; cbv)
      | (refine Ar.call_ hA c_laws_markRPt mm0 rfl ?_; cbv)
      | (refine Ar.call_ hA c_laws_toRPt tt1 rfl ?_; cbv)
      | (refine Ar.call_ hA c_laws_eqRPt qq1 rfl ?_; cbv)
      | (refine Ar.call_ hA c_laws_markRPt mm1 rfl ?_; cbv)
      | (refine Ar.call_ hA c_laws_toRat tt2 rfl ?_; cbv)
      | (refine Ar.call_ hA c_laws_eqRat qq2 rfl ?_; cbv)
      | (refine Ar.call_ hA c_laws_markRat mm2 rfl ?_; cbv)
      | (refine Ar.call_ hA c_laws_eqRPt qqR0 rfl ?_; cbv)
      | (refine Ar.call_ hA c_laws_markRPt mmR0 rfl ?_; cbv)
      | (refine Ar.call_ hA c_laws_heldRPt hhR0 rfl ?_; cbv)
      | (refine Ar.bneq_ hA (fun h => absurd rfl h) (fun _ => ?_); cbv)
      | (refine Ar.neq_ hA (fun h => absurd rfl h) (fun _ => ?_); cbv)
      | (refine Ar.lss_ hA (fun h => absurd h (by omega)) (fun _ => ?_); cbv))
    all_goals
      refine flatK [6, 16, 17] [] (fun s f => ?_)
      cbv
      revert s f
      exact hB.it
  intro s f
  subst hK1
  show awp _ _ _ _ _
  cbv
  repeat' (first
    | (refine Ar.notT_ hA ?_; cbv)
    | (refine Ar.notF_ hA ?_; cbv)
    | apply And.intro
    | (refine Ar.call_ hA cS dS rfl ?_; cbv)
    | (refine Ar.call_ hA cI dI rfl ?_; cbv)
    | (refine Ar.call_ hA c_laws_toRPt tt0 rfl ?_; cbv)
    | (refine Ar.call_ hA c_laws_eqRPt qq0 rfl ?_; cbv)
    | (refine Ar.call_ hA c_laws_markRPt mm0 rfl ?_; cbv)
    | (refine Ar.call_ hA c_laws_toRPt tt1 rfl ?_; cbv)
    | (refine Ar.call_ hA c_laws_eqRPt qq1 rfl ?_; cbv)
    | (refine Ar.call_ hA c_laws_markRPt mm1 rfl ?_; cbv)
    | (refine Ar.call_ hA c_laws_toRat tt2 rfl ?_; cbv)
    | (refine Ar.call_ hA c_laws_eqRat qq2 rfl ?_; cbv)
    | (refine Ar.call_ hA c_laws_markRat mm2 rfl ?_; cbv)
    | (refine Ar.call_ hA c_laws_eqRPt qqR0 rfl ?_; cbv)
    | (refine Ar.call_ hA c_laws_markRPt mmR0 rfl ?_; cbv)
    | (refine Ar.call_ hA c_laws_heldRPt hhR0 rfl ?_; cbv)
    | (refine Ar.bneq_ hA (fun h => absurd rfl h) (fun _ => ?_); cbv)
    | (refine Ar.neq_ hA (fun h => absurd rfl h) (fun _ => ?_); cbv)
    | (refine Ar.lss_ hA (fun h => absurd h (by omega)) (fun _ => ?_); cbv))
  all_goals exact hK _ _ rfl rfl

end Go.VAI
