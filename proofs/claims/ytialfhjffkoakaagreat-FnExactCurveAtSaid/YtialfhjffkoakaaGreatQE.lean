/- Rows of mixtures; the laws CurveAt and RingArea. -/
import Derived.Test.YtialfhjffkoakaaGreatQC
namespace Go.VAI
open Go.Proofs
set_option maxRecDepth 100000
set_option maxHeartbeats 8000000

/-! ### Rows of mixtures -/

def rowQ (t : Rat) : List (Rat × Rat) → List (Rat × Rat)
  | a :: b :: l => mixP t a b :: rowQ t (b :: l)
  | _ => []
theorem rowQ_len (t : Rat) : ∀ l : List (Rat × Rat), (rowQ t l).length = l.length - 1
  | [] => rfl
  | [_] => rfl
  | a :: b :: l => by simp only [rowQ, List.length_cons]; rw [rowQ_len t (b :: l)]; simp
theorem rowQ_get {t : Rat} : ∀ {l : List (Rat × Rat)} {i : Nat} {a b : Rat × Rat}, l[i]? = some a → l[i + 1]? = some b → (rowQ t l)[i]? = some (mixP t a b)
  | [], i, a, b, h, _ => by simp at h
  | [_], 0, a, b, _, h => by simp at h
  | [_], i + 1, a, b, h, _ => by simp at h
  | x :: y :: l, 0, a, b, h, h' => by simp at h h'; subst h h'; rfl
  | x :: y :: l, i + 1, a, b, h, h' => by
    simp only [List.getElem?_cons_succ] at h h'
    simp only [rowQ, List.getElem?_cons_succ]
    exact rowQ_get (l := y :: l) h (by simpa using h')
theorem rowQ_sz {t : Rat} {kt k : Nat} (ht : Sz kt t) {l : List (Rat × Rat)} (h : ∀ p ∈ l, Szp k p) : ∀ p ∈ rowQ t l, Szp (2 * k + 2 * kt + 3) p := by
  intro p hp
  obtain ⟨i, hi, rfl⟩ := List.getElem_of_mem hp
  have hl := rowQ_len t l
  have h1 : l[i]? = some (l[i]'(by omega)) := List.getElem?_eq_getElem _
  have h2 : l[i + 1]? = some (l[i + 1]'(by omega)) := List.getElem?_eq_getElem _
  have := rowQ_get (t := t) h1 h2
  rw [List.getElem?_eq_getElem hi] at this
  rw [Option.some.inj this]
  have := Szp.mixP ht (h _ (List.getElem_mem (by omega : i < l.length))) (h _ (List.getElem_mem (by omega : i + 1 < l.length)))
  exact ⟨this.1.mono (by omega), this.2.mono (by omega)⟩
def bezQ (t : Rat) : Nat → List (Rat × Rat) → List (Rat × Rat)
  | 0, l => l
  | k + 1, l => rowQ t (bezQ t k l)
theorem bezQ_len (t : Rat) (l : List (Rat × Rat)) : ∀ k, (bezQ t k l).length = l.length - k
  | 0 => rfl
  | k + 1 => by simp only [bezQ]; rw [rowQ_len, bezQ_len t l k]; omega
theorem bezQ_sz {t : Rat} (ht : Sz 2 t) {l : List (Rat × Rat)} (h : ∀ p ∈ l, Szp 2 p) {k : Nat} (hk : k ≤ 4) : ∀ p ∈ bezQ t k l, Szp 137 p := by
  have e : ∀ {m n : Nat} {l : List (Rat × Rat)}, (∀ p ∈ l, Szp m p) → m ≤ n → ∀ p ∈ l, Szp n p := fun h hm p hp => ⟨(h p hp).1.mono hm, (h p hp).2.mono hm⟩
  have a0 : ∀ p ∈ bezQ t 0 l, Szp 2 p := h
  have a1 : ∀ p ∈ bezQ t 1 l, Szp 11 p := rowQ_sz ht a0
  have a2 : ∀ p ∈ bezQ t 2 l, Szp 29 p := rowQ_sz ht a1
  have a3 : ∀ p ∈ bezQ t 3 l, Szp 65 p := rowQ_sz ht a2
  have a4 : ∀ p ∈ bezQ t 4 l, Szp 137 p := rowQ_sz ht a3
  match k, hk with
  | 0, _ => exact e a0 (by omega)
  | 1, _ => exact e a1 (by omega)
  | 2, _ => exact e a2 (by omega)
  | 3, _ => exact e a3 (by omega)
  | 4, _ => exact e a4 (by omega)
  | n + 5, h => omega

/-- What a step of a row of mixtures needs. -/
theorem mix_step {es : List PV} {ps : List (Rat × Rat)} {k kt : Nat} {t : Rat} {s5 t5 : Bool} {a5 b5 : List PV} (hes : es = ps.map p8) (hz : ∀ p ∈ ps, Szp k p) (h5 : RatP s5 a5 t5 b5 t) (ht : Sz kt t) (hb : 3 * k + 2 * kt + 3 ≤ 90000) {i : Nat} (hi : i + 1 < ps.length) :
    ∃ s1 a1 t1 b1 s2 a2 t2 b2 s3 a3 t3 b3 s4 a4 t4 b4 s6 a6 t6 b6 s7 a7 t7 b7, es[i]? = some (ppv s1 a1 t1 b1 s2 a2 t2 b2) ∧ es[i + 1]? = some (ppv s3 a3 t3 b3 s4 a4 t4 b4) ∧ ((rowQ t ps).map p8)[i]? = some (ppv s6 a6 t6 b6 s7 a7 t7 b7) ∧
      RatP s1 a1 t1 b1 (ps[i]'(by omega)).1 ∧ RatP s2 a2 t2 b2 (ps[i]'(by omega)).2 ∧ RatP s3 a3 t3 b3 (ps[i + 1]'hi).1 ∧ RatP s4 a4 t4 b4 (ps[i + 1]'hi).2 ∧ RatP s6 a6 t6 b6 (mixR t (ps[i]'(by omega)).1 (ps[i + 1]'hi).1) ∧ RatP s7 a7 t7 b7 (mixR t (ps[i]'(by omega)).2 (ps[i + 1]'hi).2) := by
  obtain ⟨s1, a1, t1, b1, s2, a2, t2, b2, e1, q1, q2⟩ := p8_ex (ps[i]'(by omega))
  obtain ⟨s3, a3, t3, b3, s4, a4, t4, b4, e2, q3, q4⟩ := p8_ex (ps[i + 1]'hi)
  obtain ⟨s6, a6, t6, b6, s7, a7, t7, b7, e3, q6, q7⟩ := p8_ex (mixP t (ps[i]'(by omega)) (ps[i + 1]'hi))
  refine ⟨s1, a1, t1, b1, s2, a2, t2, b2, s3, a3, t3, b3, s4, a4, t4, b4, s6, a6, t6, b6, s7, a7, t7, b7, ?_, ?_, ?_, q1, q2, q3, q4, q6, q7⟩
  · rw [hes, List.getElem?_map, List.getElem?_eq_getElem (by omega), ← e1]; rfl
  · rw [hes, List.getElem?_map, List.getElem?_eq_getElem hi, ← e2]; rfl
  · rw [List.getElem?_map, rowQ_get (List.getElem?_eq_getElem (by omega)) (List.getElem?_eq_getElem hi), ← e3]; rfl

theorem c_spec_l12Row : Callable Tryz.prog 49 := ⟨_, Tryz.func49, rfl, by kernel_rfl⟩
theorem d_spec_l12Row {es : List PV} {ps : List (Rat × Rat)} {C : List PV} {k kt : Nat} {t : Rat} {s5 t5 : Bool} {a5 b5 : List PV} (hes : es = ps.map p8) (hC : C = (rowQ t ps).map p8) (hl : ps.length ≤ 1000) (hz : ∀ p ∈ ps, Szp k p) (h5 : RatP s5 a5 t5 b5 t) (ht : Sz kt t) (hb : 3 * k + 2 * kt + 3 ≤ 90000) : Does Tryz.prog 49 [.sl es, rpv s5 a5 t5 b5] (if C.length = 0 then .row C 8 .free else .row C 8 (.sh [])) [] := by
  refine does_of hT hM Tryz.func49 rfl (D := []) (by kernel_rfl) rfl rfl rfl (fun A K hA hK => ?_)
  have hlen : es.length = ps.length := by simp [hes]
  have hCl : C.length = ps.length - 1 := by rw [hC]; simp [rowQ_len]
  cbv
  refine Ar.loop_ hA (α := Bool × Int × List PV) (fun x => (ps.length - x.2.1.toNat)) (fun x => 0 ≤ x.2.1 ∧ x.2.1.toNat ≤ C.length ∧ x.2.2 = C.take x.2.1.toNat ∧ (x.1 = true ↔ x.2.1 = 0)) 29 (fun x => [(0, .pv (.sl es) []), (3, .ref 3 0), (5, .own 5 none), (6, .pv (i64 x.2.1) [])]) (fun x => [(3, some (.cell [.pv (bl s5) [], .pv (.sl a5) [], .pv (bl t5) [], .pv (.sl b5) []])), (5, some (.row x.2.2 8 (ruB x.1) false))]) (true, 0, []) (by refine ⟨?_, ⟨?_, ?_, ?_, ?_, trivial⟩, ?_, ?_, trivial⟩ <;> cbv) ⟨by show (0 : Int) ≤ 0; omega, by show (0 : Int).toNat ≤ _; simp, by simp, by simp⟩ ?_
  rintro ⟨fl, i, r⟩ s f ⟨h1, h2, h3, h4⟩
  simp only at h1 h2 h3 h4
  have hend : ¬ i.toNat + 1 < ps.length → r = C := fun h => by rw [h3, List.take_of_length_le (by omega)]
  have hstep : i.toNat + 1 < ps.length → ∃ s1 a1 t1 b1 s2 a2 t2 b2 s3 a3 t3 b3 s4 a4 t4 b4 s6 a6 t6 b6 s7 a7 t7 b7, (∀ j, j = i.toNat → es[j]? = some (ppv s1 a1 t1 b1 s2 a2 t2 b2)) ∧ (∀ j, j = i.toNat + 1 → es[j]? = some (ppv s3 a3 t3 b3 s4 a4 t4 b4)) ∧ r ++ [ppv s6 a6 t6 b6 s7 a7 t7 b7] = C.take (i.toNat + 1) ∧ r.length ≤ 1000 ∧ Does Tryz.prog 91 [ppv s1 a1 t1 b1 s2 a2 t2 b2, ppv s3 a3 t3 b3 s4 a4 t4 b4, rpv s5 a5 t5 b5] (.pv (ppv s6 a6 t6 b6 s7 a7 t7 b7)) [] := fun h => by
    obtain ⟨s1, a1, t1, b1, s2, a2, t2, b2, s3, a3, t3, b3, s4, a4, t4, b4, s6, a6, t6, b6, s7, a7, t7, b7, x1, x2, x3, q1, q2, q3, q4, q6, q7⟩ := mix_step hes hz h5 ht hb h
    refine ⟨s1, a1, t1, b1, s2, a2, t2, b2, s3, a3, t3, b3, s4, a4, t4, b4, s6, a6, t6, b6, s7, a7, t7, b7, fun j hj => by rw [hj]; exact x1, fun j hj => by rw [hj]; exact x2, ?_, by rw [h3]; simp; omega, (d_spec_l12Mix q1 q2 q3 q4 h5 (hz _ (List.getElem_mem _)) (hz _ (List.getElem_mem _)) ht (by omega) q6 q7).wk⟩
    rw [h3, List.take_add_one, hC, x3]; rfl
  clear h3 hes hz hC
  cases fl
  all_goals
    cbv
    refine Ar.add_ hA (by omega) (fun i1 hi1 => ?_)
    cbv
    refine Ar.len_ hA (fun n2 hn2 hn2' => ?_)
    cbv
    refine Ar.lss_ hA (fun h => ?_) (fun h => ?_)
    · obtain ⟨s1, a1, t1, b1, s2, a2, t2, b2, s3, a3, t3, b3, s4, a4, t4, b4, s6, a6, t6, b6, s7, a7, t7, b7, x1, x2, x3, x4, d⟩ := hstep (by omega)
      cbv
      repeat' (first
        | apply And.intro
        | (refine Ar.nn_ hA (by omega) ?_; cbv)
        | (refine Ar.toN_ hA (fun _ _ => ?_); cbv)
        | (refine Ar.idx_ hA (x1 _ (by omega)) ?_; cbv)
        | (refine Ar.idx_ hA (x2 _ (by omega)) ?_; cbv)
        | (refine Ar.call_ hA c_spec_l12Mix d rfl ?_; cbv)
        | (refine Ar.app_ hA (fun r' hr' => ?_); cbv)
        | (refine Ar.fitsL_ hA (by rw [hr']; simp; omega) ?_; cbv)
        | (refine Ar.add_ hA (by omega) (fun k' hk' => ?_); cbv))
      all_goals
        exact ⟨(false, k', r'), by show ps.length - k'.toNat < ps.length - i.toNat; omega, ⟨by show 0 ≤ k'; omega, by show k'.toNat ≤ C.length; omega, by show r' = C.take k'.toNat; rw [hr', x3, show k'.toNat = i.toNat + 1 by omega], by show false = true ↔ k' = 0; simp; omega⟩, by refine ⟨?_, ⟨?_, ?_, ?_, ?_, trivial⟩, ?_, ?_, trivial⟩ <;> cbv⟩
    · have he := hend (by omega)
      subst he
      cbv
      first
        | (refine hK _ _ ?_ rfl
           rw [if_neg (by have := mt h4.2 (by simp); omega)]; done)
        | (refine hK _ _ ?_ rfl
           rw [if_pos (by have := h4.1 rfl; omega)]; done)

theorem rows_ne {n : Nat} (h : 1 ≤ n) : ∃ m, n = m + 1 := ⟨n - 1, by omega⟩

theorem c_spec_CurveAt : Callable Tryz.prog 19 := ⟨_, Tryz.func19, rfl, by kernel_rfl⟩
theorem d_spec_CurveAt {es : List PV} {ps : List (Rat × Rat)} {t : Rat} {s5 t5 : Bool} {a5 b5 : List PV} {s6 t6 s7 t7 : Bool} {a6 b6 a7 b7 : List PV} {B : Bool} {q : Rat × Rat} (hes : es = ps.map p8) (hl : 1 ≤ ps.length ∧ ps.length ≤ 5) (hz : ∀ p ∈ ps, Szp 2 p) (h5 : RatP s5 a5 t5 b5 t) (ht : Sz 2 t) (dg : Does Tryz.prog 47 [.sl es] (.pv (bl true)) []) (ds : Does Tryz.prog 48 [rpv s5 a5 t5 b5] (.pv (bl true)) []) (hq : (bezQ t (ps.length - 1) ps)[0]? = some q) (hV : ppv s6 a6 t6 b6 s7 a7 t7 b7 = r8pv (res8 q)) (hB : B = okP q) : Does Tryz.prog 19 [.sl es, rpv s5 a5 t5 b5] (.tup [vrs8 s6 a6 t6 b6 s7 a7 t7 b7, .pv (bl B)]) [] := by
  refine does_of hT hM Tryz.func19 rfl (D := []) (by kernel_rfl) rfl rfl rfl (fun A K hA hK => ?_)
  obtain ⟨s1, a1, t1, b1, s2, a2, t2, b2, hpe, q1, q2⟩ := p8_ex q
  have hqz : Szp 137 q := bezQ_sz ht hz (k := ps.length - 1) (by omega) q (List.mem_of_getElem? hq)
  have df : Does Tryz.prog 50 [ppv s1 a1 t1 b1 s2 a2 t2 b2] (.tup [.pv (ppv s6 a6 t6 b6 s7 a7 t7 b7), .pv (bl B)]) [] := by rw [hV, hB]; exact (d_spec_l12Fits q1 q2 hqz (by omega)).wk
  have hq0 : ((bezQ t (ps.length - 1) ps).map p8)[0]? = some (ppv s1 a1 t1 b1 s2 a2 t2 b2) := by rw [List.getElem?_map, hq, ← hpe]; rfl
  have hrow : ∀ j, j + 1 < ps.length → Does Tryz.prog 49 [.sl ((bezQ t j ps).map p8), rpv s5 a5 t5 b5] (.pv (.sl ((bezQ t (j + 1) ps).map p8))) [] := fun j hj =>
    Does.wkIf1 (d_spec_l12Row rfl rfl (by rw [bezQ_len]; omega) (bezQ_sz ht hz (by omega)) h5 ht (by omega))
  have hlen : ∀ j, ((bezQ t j ps).map p8).length = ps.length - j := fun j => by rw [List.length_map, bezQ_len]
  have hes0 : es = (bezQ t 0 ps).map p8 := hes
  generalize (fun j => (bezQ t j ps).map p8) = R at *
  clear hV hB hpe q1 q2 hqz h5 ht hz hq
  obtain ⟨R, hR⟩ : ∃ R : Nat → List PV, ∀ j, R j = (bezQ t j ps).map p8 := ⟨fun j => (bezQ t j ps).map p8, fun _ => rfl⟩
  simp only [← hR] at hq0 hrow hlen hes0
  clear hR hes
  have hlen0 : es.length = ps.length := by rw [hes0, hlen]; rfl
  generalize ps.length = n at *
  cbv
  refine Ar.call_ hA c_spec_GoodCurve dg rfl ?_
  cbv
  refine Ar.notT_ hA ?_
  cbv
  refine Ar.call_ hA c_spec_l12Small ds rfl ?_
  cbv
  refine Ar.notT_ hA ?_
  cbv
  refine Ar.loop_ hA (α := Nat × List PV) (fun x => n - x.1) (fun x => x.1 + 1 ≤ n ∧ x.2 = R x.1) 27 (fun x => [(0, .pv (.sl x.2) []), (3, .ref 3 0), (4, .ref 4 0)]) (fun _ => [(3, some (.cell [.pv (bl s5) [], .pv (.sl a5) [], .pv (bl t5) [], .pv (.sl b5) []])), (4, some (.cell ([bl false, .val (.slice none 0 0), bl false, .val (.slice none 0 0), bl false, .val (.slice none 0 0), bl false, .val (.slice none 0 0)].map (Slot.pv · []))))]) (0, es) (by refine ⟨?_, ⟨?_, ?_, ?_, trivial⟩, ?_, ?_, trivial⟩ <;> cbv) ⟨by show 0 + 1 ≤ n; omega, hes0⟩ ?_
  rintro ⟨j, r⟩ s f ⟨h1, h2⟩
  simp only at h1 h2
  have hrl : r.length = n - j := by rw [h2, hlen]
  have hst : j + 1 < n → Does Tryz.prog 49 [.sl r, rpv s5 a5 t5 b5] (.pv (.sl (R (j + 1)))) [] := fun h => by rw [h2]; exact hrow j h
  have hend : ¬ j + 1 < n → r[0]? = some (ppv s1 a1 t1 b1 s2 a2 t2 b2) := fun h => by rw [h2, show j = n - 1 by omega]; exact hq0
  clear h2 hrow hq0
  obtain ⟨r2, hr2⟩ : ∃ r2, r2 = R (j + 1) := ⟨_, rfl⟩
  rw [← hr2] at hst
  cbv
  refine Ar.len_ hA (fun n2 hn2 hn2' => ?_)
  cbv
  refine Ar.gtr_ hA (fun h => ?_) (fun h => ?_)
  · have d := hst (by omega)
    cbv
    refine Ar.call_ hA c_spec_l12Row d rfl ?_
    cbv
    exact ⟨(j + 1, r2), by show n - (j + 1) < n - j; omega, ⟨by show j + 1 + 1 ≤ n; omega, hr2⟩, by refine ⟨?_, ⟨?_, ?_, ?_, trivial⟩, ?_, ?_, trivial⟩ <;> cbv⟩
  · have hx := hend (by omega)
    cbv
    refine Ar.nn_ hA (by omega) ?_
    cbv
    refine Ar.toN_ hA (fun m hm => ?_)
    cbv
    refine Ar.idx_ hA (x := ppv s1 a1 t1 b1 s2 a2 t2 b2) (by rw [hm]; exact hx) ?_
    cbv
    refine Ar.call_ hA c_spec_l12Fits df rfl ?_
    cbv
    exact hK _ _ rfl rfl

end Go.VAI
