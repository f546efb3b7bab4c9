/- The law RingArea. -/
import Derived.Test.YtialfhjffkoakaaGreatQC
namespace Go.VAI
open Go.Proofs
set_option maxRecDepth 100000
set_option maxHeartbeats 8000000

abbrev zrs : RS := .ag [.pv (bl false), .pv (.val (.slice none 0 0)), .pv (bl false), .pv (.val (.slice none 0 0))]
abbrev zsl : List Slot := [.pv (bl false) [], .pv (.val (.slice none 0 0)) [], .pv (bl false) [], .pv (.val (.slice none 0 0)) []]
theorem zero_cast : ((0 : Int) : Rat) = 0 := rfl
theorem two_cast : ((2 : Int) : Rat) = 2 := rfl
theorem sz_zero : Sz 1 (0 : Rat) := by rw [← zero_cast]; exact Sz.int (by unfold iabs; simp only [pw]; omega) (by omega)
theorem sz_two : Sz 1 (2 : Rat) := by rw [← two_cast]; exact Sz.int (by unfold iabs; simp only [pw]; omega) (by omega)
theorem res4_len (q : Rat) : len4 1048576 (res4 q) := by
  unfold res4
  split
  · rename_i h
    have := b4_len (fits_iff.1 h)
    exact ⟨by have := this.1; omega, by have := this.2; omega⟩
  · exact ⟨by simp [z4], by simp [z4]⟩

/-- A term of the area, and the sum of the first. -/
def crossQ (ps : List (Rat × Rat)) (i : Nat) : Rat := (ps.getD i (0, 0)).1 * (ps.getD ((i + 1) % ps.length) (0, 0)).2 - (ps.getD ((i + 1) % ps.length) (0, 0)).1 * (ps.getD i (0, 0)).2
def areaS (ps : List (Rat × Rat)) : Nat → Rat
  | 0 => 0
  | i + 1 => areaS ps i + crossQ ps i
theorem getD_sz {ps : List (Rat × Rat)} {k : Nat} (h : ∀ p ∈ ps, Szp k p) {i : Nat} (hi : i < ps.length) : Szp k (ps.getD i (0, 0)) := by
  rw [List.getD_eq_getElem?_getD, List.getElem?_eq_getElem hi]; exact h _ (List.getElem_mem _)
theorem crossQ_sz {ps : List (Rat × Rat)} (h : ∀ p ∈ ps, Szp 8 p) {i : Nat} (hi : i < ps.length) : Sz 33 (crossQ ps i) := by
  have h1 := getD_sz h hi
  have h2 := getD_sz h (i := (i + 1) % ps.length) (Nat.mod_lt _ (by omega))
  exact (h1.1.mul h2.2).sub (h2.1.mul h1.2)
theorem areaS_sz {ps : List (Rat × Rat)} (h : ∀ p ∈ ps, Szp 8 p) : ∀ i, i ≤ ps.length → Sz (1 + 34 * i) (areaS ps i)
  | 0, _ => sz_zero
  | i + 1, hi => ((areaS_sz h i (by omega)).add (crossQ_sz h (by omega))).mono (by omega)
/-- What a step of the sum needs. -/
theorem area_step {es : List PV} {ps : List (Rat × Rat)} (hes : es = ps.map p8) {i : Nat} (hi : i < ps.length) :
    ∃ s1 a1 t1 b1 s2 a2 t2 b2 s3 a3 t3 b3 s4 a4 t4 b4, es[i]? = some (ppv s1 a1 t1 b1 s2 a2 t2 b2) ∧ es[(i + 1) % ps.length]? = some (ppv s3 a3 t3 b3 s4 a4 t4 b4) ∧
      RatP s1 a1 t1 b1 (ps.getD i (0, 0)).1 ∧ RatP s2 a2 t2 b2 (ps.getD i (0, 0)).2 ∧ RatP s3 a3 t3 b3 (ps.getD ((i + 1) % ps.length) (0, 0)).1 ∧ RatP s4 a4 t4 b4 (ps.getD ((i + 1) % ps.length) (0, 0)).2 := by
  have hm : (i + 1) % ps.length < ps.length := Nat.mod_lt _ (by omega)
  obtain ⟨s1, a1, t1, b1, s2, a2, t2, b2, e1, q1, q2⟩ := p8_ex (ps.getD i (0, 0))
  obtain ⟨s3, a3, t3, b3, s4, a4, t4, b4, e2, q3, q4⟩ := p8_ex (ps.getD ((i + 1) % ps.length) (0, 0))
  refine ⟨s1, a1, t1, b1, s2, a2, t2, b2, s3, a3, t3, b3, s4, a4, t4, b4, ?_, ?_, q1, q2, q3, q4⟩
  · rw [hes, List.getElem?_map, ← e1, List.getD_eq_getElem?_getD, List.getElem?_eq_getElem hi]; rfl
  · rw [hes, List.getElem?_map, ← e2, List.getD_eq_getElem?_getD, List.getElem?_eq_getElem hm]; rfl


theorem c_impl_ringArea : Callable Tryz.prog 41 := ⟨_, Tryz.func41, rfl, by kernel_rfl⟩
theorem d_impl_ringArea {es : List PV} {ps : List (Rat × Rat)} {s t : Bool} {a b : List PV} (hes : es = ps.map p8) (hl : ps.length ≤ 40) (hz : ∀ p ∈ ps, Szp 8 p) (hr : RatP s a t b (areaS ps ps.length / 2)) : Does Tryz.prog 41 [.sl es] (rrs s a t b) [] := by
  refine does_of hT hM Tryz.func41 rfl (D := []) (by kernel_rfl) rfl rfl rfl (fun A K hA hK => ?_)
  have hlen : es.length = ps.length := by simp [hes]
  obtain ⟨u0, x0, v0, y0, r0⟩ := RatP.ex ((0 : Int) : Rat)
  have dw := wk_impl_whole (n := 0) (by omega) r0
  cbv
  refine Ar.call_ hA c_impl_whole dw rfl ?_
  cbv
  refine Ar.len_ hA (fun n hn hn' => ?_)
  cbv
  refine Ar.loop_ hA (α := Int × Bool × List PV × Bool × List PV) (fun x => (n - x.1).toNat) (fun x => 0 ≤ x.1 ∧ x.1 ≤ n ∧ RatP x.2.1 x.2.2.1 x.2.2.2.1 x.2.2.2.2 (areaS ps x.1.toNat)) 39
    (fun x => [(0, .pv (.sl es) []), (2, .ref 2 0), (3, .ref 3 0), (8, .pv (.sl es) []), (9, .pv (i64 n) []), (10, .pv (i64 x.1) [])])
    (fun x => [(2, some (.cell zsl)), (3, some (.cell [.pv (bl x.2.1) [], .pv (.sl x.2.2.1) [], .pv (bl x.2.2.2.1) [], .pv (.sl x.2.2.2.2) []]))]) (0, u0, x0, v0, y0)
    (by refine ⟨?_, ⟨?_, ?_, ?_, ?_, ?_, ?_, trivial⟩, ?_, ?_, trivial⟩ <;> cbv) ⟨by show (0 : Int) ≤ 0; omega, by show 0 ≤ n; omega, by show RatP u0 x0 v0 y0 (areaS ps 0); exact r0⟩ ?_
  rintro ⟨i, u, x, v, y⟩ st f ⟨g1, g2, g3⟩
  simp only at g1 g2 g3
  cbv
  refine Ar.lss_ hA (fun h => ?_) (fun h => ?_)
  · have hi : i.toNat < ps.length := by omega
    obtain ⟨s1, a1, t1, b1, s2, a2, t2, b2, s3, a3, t3, b3, s4, a4, t4, b4, e1, e2, q1, q2, q3, q4⟩ := area_step hes hi
    have z1 := getD_sz hz hi
    have z2 := getD_sz hz (i := (i.toNat + 1) % ps.length) (Nat.mod_lt _ (by omega))
    have z3 := areaS_sz hz i.toNat (by omega)
    have z4 := crossQ_sz hz hi
    obtain ⟨w1, k1, w2, k2, m1⟩ := RatP.ex ((ps.getD i.toNat (0, 0)).1 * (ps.getD ((i.toNat + 1) % ps.length) (0, 0)).2)
    obtain ⟨w3, k3, w4, k4, m2⟩ := RatP.ex ((ps.getD ((i.toNat + 1) % ps.length) (0, 0)).1 * (ps.getD i.toNat (0, 0)).2)
    obtain ⟨w5, k5, w6, k6, m3⟩ := RatP.ex (crossQ ps i.toNat)
    obtain ⟨w7, k7, w8, k8, m4⟩ := RatP.ex (areaS ps (i.toNat + 1))
    have d1 := wk_impl_Rat_mul q1 q4 z1.1 z2.2 (by omega) m1
    have d2 := wk_impl_Rat_mul q3 q2 z2.1 z1.2 (by omega) m2
    have d3 := wk_impl_Rat_sub m1 m2 (z1.1.mul z2.2) (z2.1.mul z1.2) (by omega) m3
    have d4 := wk_impl_Rat_add g3 m3 z3 z4 (by omega) m4
    have hx1 : ∀ j, j = i.toNat → es[j]? = some (ppv s1 a1 t1 b1 s2 a2 t2 b2) := fun j hj => by rw [hj]; exact e1
    have hx2 : ∀ (c : Int) (j : Nat), c = (i + 1) % n → j = c.toNat → es[j]? = some (ppv s3 a3 t3 b3 s4 a4 t4 b4) := fun c j hc hj => by
      rw [hj, hc, ← e2]; congr 1
      have e3 : n = (ps.length : Int) := by omega
      have e4 : i + 1 = ((i.toNat + 1 : Nat) : Int) := by omega
      rw [e3, e4, ← Int.natCast_emod]; rfl
    have hc0 : 0 ≤ (i + 1) % n := Int.emod_nonneg _ (by omega)
    have e5 : ∀ m : Int, 0 ≤ m → m.toNat = es.length → m = n := fun m h1 h2 => by omega
    clear e1 e2 q1 q2 q3 q4 z1 z2 z3 z4 m1 m2 m3 g3 hes hz hr
    cbv
    refine Ar.nn_ hA (by omega) ?_
    cbv
    refine Ar.toN_ hA (fun j hj => ?_)
    cbv
    refine Ar.idx_ hA (hx1 _ hj) ?_
    cbv
    refine Ar.add_ hA (by omega) (fun i1 hi1 => ?_)
    cbv
    refine Ar.len_ hA (fun n2 hn2 hn2' => ?_)
    obtain rfl := e5 _ hn2 hn2'
    cbv
    refine Ar.nz_ hA (by omega) ?_
    cbv
    refine Ar.rem_ hA (by omega) (fun c hc => ?_)
    rw [hi1] at hc
    cbv
    refine Ar.nn_ hA (by omega) ?_
    cbv
    refine Ar.toN_ hA (fun j2 hj2 => ?_)
    cbv
    refine Ar.idx_ hA (hx2 _ _ hc hj2) ?_
    cbv
    repeat' (first
      | (refine Ar.notT_ hA ?_; cbv)
      | (refine Ar.notF_ hA ?_; cbv)
      | (refine Ar.call_ hA c_impl_Rat_mul d1 rfl ?_; cbv)
      | (refine Ar.call_ hA c_impl_Rat_mul d2 rfl ?_; cbv)
      | (refine Ar.call_ hA c_impl_Rat_sub d3 rfl ?_; cbv)
      | (refine Ar.call_ hA c_impl_Rat_add d4 rfl ?_; cbv))
    refine Ar.add_ hA (by omega) (fun i' hi' => ?_)
    cbv
    exact ⟨(i', w7, k7, w8, k8), by show (n2 - i').toNat < (n2 - i).toNat; omega, ⟨by show 0 ≤ i'; omega, by show i' ≤ n2; omega, by show RatP w7 k7 w8 k8 (areaS ps i'.toNat); rw [show i'.toNat = i.toNat + 1 by omega]; exact m4⟩, by refine ⟨?_, ⟨?_, ?_, ?_, ?_, ?_, ?_, trivial⟩, ?_, ?_, trivial⟩ <;> cbv⟩
  · have hsn := areaS_sz hz ps.length (Nat.le_refl _)
    have g3' := g3
    rw [show i.toNat = ps.length by omega] at g3'
    have dh := d_impl_Rat_half g3' hsn (by omega) hr
    clear g3 g3' hes hz hr
    cbv
    cbv
    repeat' (first
      | (refine Ar.notT_ hA ?_; cbv)
      | (refine Ar.notF_ hA ?_; cbv)
      | (refine Ar.call_ hA c_impl_Rat_half dh rfl ?_; cbv))
    exact hK _ _ rfl rfl


theorem c_spec_l13Area : Callable Tryz.prog 37 := ⟨_, Tryz.func37, rfl, by kernel_rfl⟩
theorem d_spec_l13Area {es : List PV} {ps : List (Rat × Rat)} {s t : Bool} {a b : List PV} (hes : es = ps.map p8) (hl : ps.length ≤ 40) (hz : ∀ p ∈ ps, Szp 8 p) (hr : RatP s a t b (areaS ps ps.length / 2)) : Does Tryz.prog 37 [.sl es] (rrs s a t b) [] := by
  refine does_of hT hM Tryz.func37 rfl (D := []) (by kernel_rfl) rfl rfl rfl (fun A K hA hK => ?_)
  have hlen : es.length = ps.length := by simp [hes]
  obtain ⟨u0, x0, v0, y0, r0⟩ := RatP.ex ((0 : Int) : Rat)
  have dw := wk_spec_l2Int (n := 0) (by omega) r0
  cbv
  refine Ar.call_ hA c_spec_l2Int dw rfl ?_
  cbv
  refine Ar.len_ hA (fun n hn hn' => ?_)
  cbv
  refine Ar.loop_ hA (α := Int × Bool × List PV × Bool × List PV) (fun x => (n - x.1).toNat) (fun x => 0 ≤ x.1 ∧ x.1 ≤ n ∧ RatP x.2.1 x.2.2.1 x.2.2.2.1 x.2.2.2.2 (areaS ps x.1.toNat)) 40
    (fun x => [(0, .pv (.sl es) []), (2, .ref 2 0), (3, .ref 3 0), (8, .pv (.sl es) []), (9, .pv (i64 n) []), (10, .pv (i64 x.1) [])])
    (fun x => [(2, some (.cell zsl)), (3, some (.cell [.pv (bl x.2.1) [], .pv (.sl x.2.2.1) [], .pv (bl x.2.2.2.1) [], .pv (.sl x.2.2.2.2) []]))]) (0, u0, x0, v0, y0)
    (by refine ⟨?_, ⟨?_, ?_, ?_, ?_, ?_, ?_, trivial⟩, ?_, ?_, trivial⟩ <;> cbv) ⟨by show (0 : Int) ≤ 0; omega, by show 0 ≤ n; omega, by show RatP u0 x0 v0 y0 (areaS ps 0); exact r0⟩ ?_
  rintro ⟨i, u, x, v, y⟩ st f ⟨g1, g2, g3⟩
  simp only at g1 g2 g3
  cbv
  refine Ar.lss_ hA (fun h => ?_) (fun h => ?_)
  · have hi : i.toNat < ps.length := by omega
    obtain ⟨s1, a1, t1, b1, s2, a2, t2, b2, s3, a3, t3, b3, s4, a4, t4, b4, e1, e2, q1, q2, q3, q4⟩ := area_step hes hi
    have z1 := getD_sz hz hi
    have z2 := getD_sz hz (i := (i.toNat + 1) % ps.length) (Nat.mod_lt _ (by omega))
    have z3 := areaS_sz hz i.toNat (by omega)
    have z4 := crossQ_sz hz hi
    obtain ⟨w1, k1, w2, k2, m1⟩ := RatP.ex ((ps.getD i.toNat (0, 0)).1 * (ps.getD ((i.toNat + 1) % ps.length) (0, 0)).2)
    obtain ⟨w3, k3, w4, k4, m2⟩ := RatP.ex ((ps.getD ((i.toNat + 1) % ps.length) (0, 0)).1 * (ps.getD i.toNat (0, 0)).2)
    obtain ⟨w5, k5, w6, k6, m3⟩ := RatP.ex (crossQ ps i.toNat)
    obtain ⟨w7, k7, w8, k8, m4⟩ := RatP.ex (areaS ps (i.toNat + 1))
    have d1 := wk_spec_l2Mul q1 q4 z1.1 z2.2 (by omega) m1
    have d2 := wk_spec_l2Mul q3 q2 z2.1 z1.2 (by omega) m2
    have d3 := wk_spec_l2Sub m1 m2 (z1.1.mul z2.2) (z2.1.mul z1.2) (by omega) m3
    have d4 := wk_spec_l2Add g3 m3 z3 z4 (by omega) m4
    have hx1 : ∀ j, j = i.toNat → es[j]? = some (ppv s1 a1 t1 b1 s2 a2 t2 b2) := fun j hj => by rw [hj]; exact e1
    have hx2 : ∀ (c : Int) (j : Nat), c = (i + 1) % n → j = c.toNat → es[j]? = some (ppv s3 a3 t3 b3 s4 a4 t4 b4) := fun c j hc hj => by
      rw [hj, hc, ← e2]; congr 1
      have e3 : n = (ps.length : Int) := by omega
      have e4 : i + 1 = ((i.toNat + 1 : Nat) : Int) := by omega
      rw [e3, e4, ← Int.natCast_emod]; rfl
    have hc0 : 0 ≤ (i + 1) % n := Int.emod_nonneg _ (by omega)
    have e5 : ∀ m : Int, 0 ≤ m → m.toNat = es.length → m = n := fun m h1 h2 => by omega
    clear e1 e2 q1 q2 q3 q4 z1 z2 z3 z4 m1 m2 m3 g3 hes hz hr
    cbv
    refine Ar.nn_ hA (by omega) ?_
    cbv
    refine Ar.toN_ hA (fun j hj => ?_)
    cbv
    refine Ar.idx_ hA (hx1 _ hj) ?_
    cbv
    refine Ar.add_ hA (by omega) (fun i1 hi1 => ?_)
    cbv
    refine Ar.len_ hA (fun n2 hn2 hn2' => ?_)
    obtain rfl := e5 _ hn2 hn2'
    cbv
    refine Ar.nz_ hA (by omega) ?_
    cbv
    refine Ar.rem_ hA (by omega) (fun c hc => ?_)
    rw [hi1] at hc
    cbv
    refine Ar.nn_ hA (by omega) ?_
    cbv
    refine Ar.toN_ hA (fun j2 hj2 => ?_)
    cbv
    refine Ar.idx_ hA (hx2 _ _ hc hj2) ?_
    cbv
    repeat' (first
      | (refine Ar.notT_ hA ?_; cbv)
      | (refine Ar.notF_ hA ?_; cbv)
      | (refine Ar.call_ hA c_spec_l2Mul d1 rfl ?_; cbv)
      | (refine Ar.call_ hA c_spec_l2Mul d2 rfl ?_; cbv)
      | (refine Ar.call_ hA c_spec_l2Sub d3 rfl ?_; cbv)
      | (refine Ar.call_ hA c_spec_l2Add d4 rfl ?_; cbv))
    refine Ar.add_ hA (by omega) (fun i' hi' => ?_)
    cbv
    exact ⟨(i', w7, k7, w8, k8), by show (n2 - i').toNat < (n2 - i).toNat; omega, ⟨by show 0 ≤ i'; omega, by show i' ≤ n2; omega, by show RatP w7 k7 w8 k8 (areaS ps i'.toNat); rw [show i'.toNat = i.toNat + 1 by omega]; exact m4⟩, by refine ⟨?_, ⟨?_, ?_, ?_, ?_, ?_, ?_, trivial⟩, ?_, ?_, trivial⟩ <;> cbv⟩
  · have hsn := areaS_sz hz ps.length (Nat.le_refl _)
    have g3' := g3
    rw [show i.toNat = ps.length by omega] at g3'
    obtain ⟨u9, x9, v9, y9, r9⟩ := RatP.ex ((2 : Int) : Rat)
    have dw2 := wk_spec_l2Int (n := 2) (by omega) r9
    have dh := d_spec_l2Div g3' r9 hsn sz_two (by omega) (by decide) hr
    clear g3 g3' hes hz hr
    cbv
    cbv
    repeat' (first
      | (refine Ar.notT_ hA ?_; cbv)
      | (refine Ar.notF_ hA ?_; cbv)
      | (refine Ar.call_ hA c_spec_l2Int dw2 rfl ?_; cbv)
      | (refine Ar.call_ hA c_spec_l2Div dh rfl ?_; cbv))
    exact hK _ _ rfl rfl


theorem both_RingArea {es : List PV} {l : List R8} (hes : es = l.map r8pv) (hm : l.length ≤ 9223372036854775807) (ho : ∀ p ∈ l, lenOk p.1 ∧ lenOk p.2) :
    ∃ (C : R4) (G : Bool), len4 1048576 C ∧ Does Tryz.prog 10 [.sl es] (.tup [.pv (r4pv C), .pv (bl G)]) [] ∧ Does Tryz.prog 12 [.sl es] (.tup [rs4 C, .pv (bl G)]) [] := by
  have dg := d_spec_GoodRing hes hm ho
  have di := d_impl_GoodRing hes hm ho
  by_cases hw : ringOk l = true
  · rw [hw] at dg di
    obtain ⟨hl, ps, hps, hz⟩ := ring_ex hw
    have hes' := p8_rows hes hps
    have hpl : ps.length = l.length := by rw [hps]; simp
    obtain ⟨s, a, t, b, hr⟩ := RatP.ex (areaS ps ps.length / 2)
    have dr := d_impl_ringArea hes' (by omega) hz hr
    have ds : Does Tryz.prog 37 [.sl es] (.pv (rpv s a t b)) [] := (d_spec_l13Area hes' (by omega) hz hr).wk
    have hs : Sz 1362 (areaS ps ps.length / 2) := ((areaS_sz hz ps.length (Nat.le_refl _)).div sz_two (by decide)).mono (by omega)
    have df : Does Tryz.prog 36 [rpv s a t b] (.tup [.pv (r4pv (res4 (areaS ps ps.length / 2))), .pv (bl (fits 40 (areaS ps ps.length / 2)))]) [] := (d_spec_l2Fits hr hs (by omega)).wk
    have hf := fits_len hr
    have e := rs4_eq hr
    refine ⟨res4 (areaS ps ps.length / 2), fits 40 (areaS ps ps.length / 2), res4_len _, ?_, ?_⟩
    · obtain ⟨s6, a6, t6, b6, hV⟩ : ∃ s6 a6 t6 b6, r4pv (res4 (areaS ps ps.length / 2)) = rpv s6 a6 t6 b6 := ⟨_, _, _, _, rfl⟩
      rw [hV] at df ⊢
      generalize fits 40 (areaS ps ps.length / 2) = B at *
      clear hV e hf hs dr hr hes' hz hps hes hm ho
      refine Does.wk (rs := .tup [vrs4 s6 a6 t6 b6, .pv (bl B)]) ?_
      refine does_of hT hM Tryz.func10 rfl (D := []) (by kernel_rfl) rfl rfl rfl (fun A K hA hK => ?_)
      cbv
      repeat' (first
        | (refine Ar.notT_ hA ?_; cbv)
        | (refine Ar.notF_ hA ?_; cbv)
        | (refine Ar.call_ hA c_spec_GoodRing dg rfl ?_; cbv)
        | (refine Ar.call_ hA c_spec_l13Area ds rfl ?_; cbv)
        | (refine Ar.call_ hA c_spec_l2Fits df rfl ?_; cbv))
      exact hK _ _ rfl rfl
    · unfold res4
      generalize fits 40 (areaS ps ps.length / 2) = B at *
      clear df ds hs hr hes' hz hps hes hm ho
      cases B
      · have : Does Tryz.prog 12 [.sl es] (.tup [zrs, .pv (bl false)]) [] := by
          refine does_of hT hM Tryz.func12 rfl (D := []) (by kernel_rfl) rfl rfl rfl (fun A K hA hK => ?_)
          cbv
          repeat' (first
            | (refine Ar.notT_ hA ?_; cbv)
            | (refine Ar.notF_ hA ?_; cbv)
            | (refine Ar.call_ hA c_impl_GoodRing di rfl ?_; cbv)
            | (refine Ar.call_ hA c_impl_ringArea dr rfl ?_; cbv))
          refine Ar.pass_ hA (pass_checkedRat hf) rfl ?_
          cbv
          exact hK _ _ rfl rfl
        exact this.nr
      · show Does _ _ _ (.tup [rs4 (b4 (areaS ps ps.length / 2)), .pv (bl true)]) []
        rw [e]
        refine does_of hT hM Tryz.func12 rfl (D := []) (by kernel_rfl) rfl rfl rfl (fun A K hA hK => ?_)
        cbv
        repeat' (first
          | (refine Ar.notT_ hA ?_; cbv)
          | (refine Ar.notF_ hA ?_; cbv)
          | (refine Ar.call_ hA c_impl_GoodRing di rfl ?_; cbv)
          | (refine Ar.call_ hA c_impl_ringArea dr rfl ?_; cbv))
        refine Ar.pass_ hA (pass_checkedRat hf) rfl ?_
        cbv
        exact hK _ _ rfl rfl
  · have hw : ringOk l = false := by simpa using hw
    rw [hw] at dg di
    refine ⟨z4, false, ⟨by simp [z4], by simp [z4]⟩, ?_, ?_⟩
    · have : Does Tryz.prog 10 [.sl es] (.tup [zrs, .pv (bl false)]) [] := by
        refine does_of hT hM Tryz.func10 rfl (D := []) (by kernel_rfl) rfl rfl rfl (fun A K hA hK => ?_)
        cbv
        repeat' (first
          | (refine Ar.notT_ hA ?_; cbv)
          | (refine Ar.notF_ hA ?_; cbv)
          | (refine Ar.call_ hA c_spec_GoodRing dg rfl ?_; cbv))
        exact hK _ _ rfl rfl
      exact this.nr.wk
    · have : Does Tryz.prog 12 [.sl es] (.tup [zrs, .pv (bl false)]) [] := by
        refine does_of hT hM Tryz.func12 rfl (D := []) (by kernel_rfl) rfl rfl rfl (fun A K hA hK => ?_)
        cbv
        repeat' (first
          | (refine Ar.notT_ hA ?_; cbv)
          | (refine Ar.notF_ hA ?_; cbv)
          | (refine Ar.call_ hA c_impl_GoodRing di rfl ?_; cbv))
        exact hK _ _ rfl rfl
      exact this.nr

theorem c_laws_FnExactRingArea : Callable Tryz.prog 3 := ⟨_, Tryz.func3, rfl, by kernel_rfl⟩
theorem d_laws_FnExactRingArea {es0 : List PV} {l0 : List R8} (h0 : es0 = l0.map r8pv ∧ l0.length ≤ 9223372036854775807 ∧ ∀ p ∈ l0, lenOk p.1 ∧ lenOk p.2) : Does Tryz.prog 3 [.sl es0] (.pv (bl true)) [] := by
  refine does_of hT hM Tryz.func3 rfl (D := []) (by kernel_rfl) rfl rfl rfl (fun A K hA hK => ?_)
  obtain ⟨hes0, hm0, ho0⟩ := h0
  obtain ⟨CR0, G, hCR0, dS, dI⟩ := both_RingArea hes0 hm0 ho0
  obtain ⟨⟨sR01, lR01⟩, tR01, mR01⟩ := CR0
  obtain ⟨aR01, haR01⟩ : ∃ e, e = lR01.map i64 := ⟨_, rfl⟩
  obtain ⟨bR01, hbR01⟩ : ∃ e, e = mR01.map i64 := ⟨_, rfl⟩
  have dS : Does Tryz.prog 10 [.sl es0] (.tup [.pv (rpv sR01 aR01 tR01 bR01), .pv (bl G)]) [] := by rw [haR01, hbR01]; exact dS
  have dI : Does Tryz.prog 12 [.sl es0] (.tup [rrs sR01 aR01 tR01 bR01, .pv (bl G)]) [] := by rw [haR01, hbR01]; exact dI
  have cS : Callable Tryz.prog 10 := ⟨_, Tryz.func10, rfl, by kernel_rfl⟩
  have cI : Callable Tryz.prog 12 := ⟨_, Tryz.func12, rfl, by kernel_rfl⟩
  refine abod_awp ⟨Nat.le_of_ble_eq_true rfl, rfl, rfl⟩ ?_
  refine awp_cutV 4 (fun K1 hK1 => ?_)
  cbv
  have dz0 := d_laws_szRPtS (x := 1048576) hes0 hm0 ho0 ⟨by omega, by omega⟩
  have hz0 := fun h => @szRow_ok l0 (1048576) 1048576 (by omega) h
  generalize szRow l0 (1048576) = Z0 at *
  refine Ar.callI hA c_laws_szRPtS dz0 rfl (fun r0 hr0 => ?_)
  cbv
  refine Ar.lss_ hA (fun h => ?_) (fun h => ?_)
  · cbv
    exact hK _ _ rfl rfl
  obtain rfl := hr0
  obtain ⟨z0, y0, hle0⟩ := hz0 (by omega)
  cbv
  have tt0 := d_laws_toRPtS hes0 z0 y0
  have qq0 := d_laws_eqRPtS hes0 z0 y0
  obtain ⟨ms0, hms0⟩ : ∃ m, m = (mkL mk8 nx8 l0 (1)).map r8pv := ⟨_, rfl⟩
  obtain ⟨k01, hk01⟩ : ∃ k, k = nxL nx8 l0 (1) := ⟨_, rfl⟩
  have mm0 := d_laws_markRPtS hes0 z0 y0 ⟨by omega, by omega⟩ hms0 hk01
  have hq0 : 0 ≤ k01 ∧ k01 ≤ (1) + 4404019200000 := by
    have := nxL_take_le (nx := nx8) (ok := len8 1048576) (fun _ _ => nx8_le) (l := l0) (k := 1) (n := l0.length) (by assumption) (by assumption) (by omega)
    rw [List.take_length, ← hk01] at this
    exact this
  have zR0 := hCR0
  have qqR0 := d_laws_eqRat (s := sR01) (t := tR01) haR01 hbR01 hCR0
  obtain ⟨kR01, hkR01⟩ : ∃ k, k = onFrom lR01.length (1) := ⟨_, rfl⟩
  obtain ⟨kR02, hkR02⟩ : ∃ k, k = onFrom mR01.length kR01 := ⟨_, rfl⟩
  obtain ⟨cR01, hcR01⟩ : ∃ c, c = (countUp lR01.length (1)).map i64 := ⟨_, rfl⟩
  obtain ⟨dR01, hdR01⟩ : ∃ c, c = (countUp mR01.length kR01).map i64 := ⟨_, rfl⟩
  have mmR0 := d_laws_markRat (s := sR01) (t := tR01) (k := 1) (d := dR01) (r := kR02) haR01 hbR01 hCR0 ⟨by omega, by omega⟩ hcR01 (by rw [hdR01, hkR01]) (by rw [hkR02, hkR01])
  have hqR0 : 0 ≤ kR02 ∧ kR02 ≤ (1) + 2097152 := by have h1 := zR0; obtain ⟨x1, x2⟩ := h1; simp only at x1 x2; unfold onFrom at hkR01 hkR02; omega
  have hhR0 := d_laws_heldRat (s := sR01) (t := tR01) hCR0.1 hCR0.2 ⟨by omega, by omega⟩ hkR01 hcR01 hdR01 hkR02
  try clear hes0 hm0 ho0 z0 y0 hz0 hle0 dz0
  refine awp_flat hK1 [0, 2] [] (fun s f => ?_)
  refine awp_cutV 5 (fun K1 hK1 => ?_)
  apply shareU
  case k =>
    intro hB
    cbv
    repeat' (first
      | (refine Ar.notT_ hA ?_; cbv)
      | (refine Ar.notF_ hA ?_; cbv)
      | apply And.intro
      | (refine Ar.call_ hA cS dS rfl ?_; cbv)
      | (refine Ar.call_ hA cI dI rfl ?_; cbv)
      | (refine Ar.call_ hA c_laws_toRPtS tt0 rfl ?_; cbv)
      | (refine Ar.call_ hA c_laws_eqRPtS qq0 rfl ?_; cbv)
      | (refine Ar.call_ hA c_laws_markRPtS mm0 rfl ?_; cbv)
      | (refine Ar.call_ hA c_laws_eqRat qqR0 rfl ?_; cbv)
      | (refine Ar.call_ hA c_laws_markRat mmR0 rfl ?_; cbv)
      | (refine Ar.call_ hA c_laws_heldRat hhR0 rfl ?_; cbv)
      | (refine Ar.bneq_ hA (fun h => absurd rfl h) (fun _ => ?_); cbv)
      | (refine Ar.neq_ hA (fun h => absurd rfl h) (fun _ => ?_); cbv)
      | (refine Ar.lss_ hA (fun h => absurd h (by omega)) (fun _ => ?_); cbv))
    all_goals
      refine flatK [0, 2, 4, 5, 6, 7, 8] [4, 7, 22, 26, 29, 4118, 4122, 4125, 8214, 8218, 8221, 12310, 12314, 12317] (fun s f => ?_)
      cbv
      revert s f
      exact hB.it
  intro s f
  subst hK1
  refine awp_cutV 5 (fun K1 hK1 => ?_)
  apply shareU
  case k =>
    intro hB
    cbv
    repeat' (first
      | (refine Ar.notT_ hA ?_; cbv)
      | (refine Ar.notF_ hA ?_; cbv)
      | apply And.intro
      | (refine Ar.call_ hA cS dS rfl ?_; cbv)
      | (refine Ar.call_ hA cI dI rfl ?_; cbv)
      | (refine Ar.call_ hA c_laws_toRPtS tt0 rfl ?_; cbv)
      | (refine Ar.call_ hA c_laws_eqRPtS qq0 rfl ?_; cbv)
      | (refine Ar.call_ hA c_laws_markRPtS mm0 rfl ?_; cbv)
      | (refine Ar.call_ hA c_laws_eqRat qqR0 rfl ?_; cbv)
      | (refine Ar.call_ hA c_laws_markRat mmR0 rfl ?_; cbv)
      | (refine Ar.call_ hA c_laws_heldRat hhR0 rfl ?_; cbv)
      | (refine Ar.bneq_ hA (fun h => absurd rfl h) (fun _ => ?_); cbv)
      | (refine Ar.neq_ hA (fun h => absurd rfl h) (fun _ => ?_); cbv)
      | (refine Ar.lss_ hA (fun h => absurd h (by omega)) (fun _ => ?_); cbv))
    all_goals
      refine flatK [0, 2, 4, 5, 7, 10] [4, 7, 22, 29, 4118, 4125, 8214, 8221, 12310, 12317] (fun s f => ?_)
      cbv
      revert s f
      exact hB.it
  intro s f
  subst hK1
  refine awp_cutV 5 (fun K1 hK1 => ?_)
  apply shareU
  case k =>
    intro hB
    cbv
    repeat' (first
      | (refine Ar.notT_ hA ?_; cbv)
      | (refine Ar.notF_ hA ?_; cbv)
      | apply And.intro
      | (refine Ar.call_ hA cS dS rfl ?_; cbv)
      | (refine Ar.call_ hA cI dI rfl ?_; cbv)
      | (refine Ar.call_ hA c_laws_toRPtS tt0 rfl ?_; cbv)
      | (refine Ar.call_ hA c_laws_eqRPtS qq0 rfl ?_; cbv)
      | (refine Ar.call_ hA c_laws_markRPtS mm0 rfl ?_; cbv)
      | (refine Ar.call_ hA c_laws_eqRat qqR0 rfl ?_; cbv)
      | (refine Ar.call_ hA c_laws_markRat mmR0 rfl ?_; cbv)
      | (refine Ar.call_ hA c_laws_heldRat hhR0 rfl ?_; cbv)
      | (refine Ar.bneq_ hA (fun h => absurd rfl h) (fun _ => ?_); cbv)
      | (refine Ar.neq_ hA (fun h => absurd rfl h) (fun _ => ?_); cbv)
      | (refine Ar.lss_ hA (fun h => absurd h (by omega)) (fun _ => ?_); cbv))
    all_goals
      refine flatK [2, 4, 5, 7, 10, 11, 12, 13] [4, 7, 12, 22, 29, 76, 4118, 4125, 4172, 8214, 8221, 8268, 12310, 12317, 12364] (fun s f => ?_)
      cbv
      revert s f
      exact hB.it
  intro s f
  subst hK1
  refine awp_cutV 5 (fun K1 hK1 => ?_)
  apply shareU
  case k =>
    intro hB
    cbv
    repeat' (first
      | (refine Ar.notT_ hA ?_; cbv)
      | (refine Ar.notF_ hA ?_; cbv)
      | apply And.intro
      | (refine Ar.call_ hA cS dS rfl ?_; cbv)
      | (refine Ar.call_ hA cI dI rfl ?_; cbv)
      | (refine Ar.call_ hA c_laws_toRPtS tt0 rfl ?_; cbv)
      | (refine Ar.call_ hA c_laws_eqRPtS qq0 rfl ?_; cbv)
      | (refine Ar.call_ hA c_laws_markRPtS mm0 rfl ?_; cbv)
      | (refine Ar.call_ hA c_laws_eqRat qqR0 rfl ?_; cbv)
      | (refine Ar.call_ hA c_laws_markRat mmR0 rfl ?_; cbv)
      | (refine Ar.call_ hA c_laws_heldRat hhR0 rfl ?_; cbv)
      | (refine Ar.bneq_ hA (fun h => absurd rfl h) (fun _ => ?_); cbv)
      | (refine Ar.neq_ hA (fun h => absurd rfl h) (fun _ => ?_); cbv)
      | (refine Ar.lss_ hA (fun h => absurd h (by omega)) (fun _ => ?_); cbv))
    all_goals
      refine flatK [2] [] (fun s f => ?_)
      cbv
      revert s f
      exact hB.it
  intro s f
  subst hK1
  show awp _ _ _ _ _
  cbv
  repeat' (first
    | (refine Ar.notT_ hA ?_; cbv)
    | (refine Ar.notF_ hA ?_; cbv)
    | apply And.intro
    | (refine Ar.call_ hA cS dS rfl ?_; cbv)
    | (refine Ar.call_ hA cI dI rfl ?_; cbv)
    | (refine Ar.call_ hA c_laws_toRPtS tt0 rfl ?_; cbv)
    | (refine Ar.call_ hA c_laws_eqRPtS qq0 rfl ?_; cbv)
    | (refine Ar.call_ hA c_laws_markRPtS mm0 rfl ?_; cbv)
    | (refine Ar.call_ hA c_laws_eqRat qqR0 rfl ?_; cbv)
    | (refine Ar.call_ hA c_laws_markRat mmR0 rfl ?_; cbv)
    | (refine Ar.call_ hA c_laws_heldRat hhR0 rfl ?_; cbv)
    | (refine Ar.bneq_ hA (fun h => absurd rfl h) (fun _ => ?_); cbv)
    | (refine Ar.neq_ hA (fun h => absurd rfl h) (fun _ => ?_); cbv)
    | (refine Ar.lss_ hA (fun h => absurd h (by omega)) (fun _ => ?_); cbv))
  all_goals exact hK _ _ rfl rfl

end Go.VAI
