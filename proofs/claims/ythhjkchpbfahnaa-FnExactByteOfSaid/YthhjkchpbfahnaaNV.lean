/- The byte of a fraction; the law ByteOf. -/
import Derived.Test.YthhjkchpbfahnaaNU
namespace Go.VAI
open Go.Proofs
set_option maxRecDepth 100000
set_option maxHeartbeats 8000000

theorem small_num {a : List PV} {x : Int} (h : Num a x) (hx : x < 65536) : ∃ l : List Int, a = l.map i64 ∧ Can l ∧ ev l = x ∧ l.length ≤ 1 := by
  have h4 := h.len (k := 1) (by simp only [pw]; omega)
  obtain ⟨l, h1, h2, h3⟩ := h
  exact ⟨l, h1, h2, h3, by rw [h1] at h4; simpa using h4⟩
theorem top_num : ∃ c, Big false c 4611686018427387904 := by
  obtain ⟨s, c, h⟩ := Big.ex 4611686018427387904
  obtain ⟨rfl, _⟩ := h.pos (by omega)
  exact ⟨c, h⟩

theorem c_impl_IntOf : Callable Try.prog 62 := ⟨_, Try.func62, rfl, by kernel_rfl⟩
theorem d_impl_IntOf {s : Bool} {a : List PV} {x : Int} (ha : Big s a x) (hx : 0 ≤ x ∧ x < 65536) : Does Try.prog 62 [.agg [bl s, .sl a]] (.tup [.pv (i64 x), .pv (bl true)]) [] := by
  refine does_of hT hM Try.func62 rfl (D := []) (by kernel_rfl) rfl rfl rfl (fun A K hA hK => ?_)
  obtain ⟨rfl, hn⟩ := ha.pos hx.1
  obtain ⟨l, hes, h1, h2, h3⟩ := small_num hn hx.2
  have hal : a.length = l.length := by rw [hes]; simp
  have dG := d_impl_GoodBig (s := false) hes (by omega)
  have hg : goodB false l = true := goodB_iff.2 ⟨h1, by omega, fun _ => rfl⟩
  rw [hg] at dG
  obtain ⟨c, hc⟩ := top_num
  have dB := d_impl_BigOf (n := 4611686018427387904) (by omega) hc
  have hcl := hc.1.len (k := 4) (by rw [iabs_of (by omega)]; simp only [pw]; omega)
  have hcn := (hc.pos (by omega)).2
  have dC := d_impl_compareLimbs hn hcn (by omega)
  have hcm : cmpI x 4611686018427387904 = -1 := by unfold cmpI; rw [if_pos (by omega)]
  rw [hcm] at dC
  have hdrop : ∀ i : Nat, i < l.length → ev l = ev (l.drop i) := fun i hi => by rw [show i = 0 by omega]; rfl
  have hd2 : ∀ i : Nat, l.length ≤ i → ev (l.drop i) = 0 := fun i hi => by rw [List.drop_of_length_le hi]; rfl
  cbv
  refine Ar.callT hA c_impl_GoodBig dG rfl (fun _ => ?_) (fun h => by cases h)
  cbv
  refine Ar.notT_ hA ?_
  cbv
  refine Ar.call_ hA c_impl_BigOf dB rfl ?_
  cbv
  refine Ar.callI hA c_impl_compareLimbs dC rfl (fun r hr => ?_)
  cbv
  refine Ar.gtr_ hA (fun h => absurd h (by omega)) (fun _ => ?_)
  cbv
  refine Ar.len_ hA (fun n hnn hnn' => ?_)
  cbv
  refine Ar.sub_ hA (by omega) (fun i0 hi0 => ?_)
  cbv
  refine Ar.loop_ hA (α := Int × Int) (fun t => (t.1 + 1).toNat) (fun t => -1 ≤ t.1 ∧ t.1 < n ∧ t.2 = ev (l.drop (t.1 + 1).toNat)) 38 (fun t => [(1, .ref 1 0), (4, .pv (i64 t.2) []), (5, .pv (i64 t.1) [])]) (fun _ => [(1, some (.cell [.pv (bl false) [], .pv (.sl a) []]))]) (i0, 0) (by refine ⟨?_, ⟨?_, ?_, ?_, trivial⟩, ?_, trivial⟩ <;> cbv) ⟨by show -1 ≤ i0; omega, by show i0 < n; omega, by show 0 = ev (l.drop (i0 + 1).toNat); rw [hd2 _ (by omega)]⟩ ?_
  rintro ⟨i, v⟩ st f ⟨g1, g2, g3⟩
  simp only at g1 g2 g3
  cbv
  refine Ar.geq_ hA (fun h => ?_) (fun h => ?_)
  · have hlt : i.toNat < l.length := by omega
    obtain ⟨y, hy⟩ : ∃ y, l[i.toNat]? = some y := ⟨l[i.toNat]'hlt, List.getElem?_eq_getElem _⟩
    have hyb := h1.1.get hy
    have hye : ∀ k, k = i.toNat → a[k]? = some (i64 y) := fun k hk => by rw [hk, hes, List.getElem?_map, hy]; rfl
    have hv0 : v = 0 := by rw [g3, hd2 _ (by omega)]
    have hev : ev (l.drop i.toNat) = y := by
      rw [ev_drop hy, hd2 _ (by omega)]; omega
    clear g3
    cbv
    refine Ar.mul_ hA (by omega) (fun m hm => ?_)
    cbv
    repeat' (first
      | (refine Ar.nn_ hA (by omega) ?_; cbv)
      | (refine Ar.toN_ hA (fun _ _ => ?_); cbv)
      | (refine Ar.idx_ hA (x := i64 y) (hye _ (by omega)) ?_; cbv))
    refine Ar.add_ hA (by omega) (fun v' hv' => ?_)
    cbv
    refine Ar.sub_ hA (by omega) (fun i' hi' => ?_)
    cbv
    exact ⟨(i', v'), by show (i' + 1).toNat < (i + 1).toNat; omega, ⟨by show -1 ≤ i'; omega, by show i' < n; omega, by show v' = ev (l.drop (i' + 1).toNat); rw [show (i' + 1).toNat = i.toNat by omega, hev]; omega⟩, rfl, ⟨rfl, rfl, rfl, trivial⟩, rfl, trivial⟩
  · have hv : v = x := by rw [g3, show (i + 1).toNat = 0 by omega, ← h2]; rfl
    subst hv
    clear h2
    cbv
    exact hK _ _ rfl rfl

theorem c_spec_IntOf : Callable Try.prog 49 := ⟨_, Try.func49, rfl, by kernel_rfl⟩
theorem d_spec_IntOf {s : Bool} {a : List PV} {x : Int} (ha : Big s a x) (hx : 0 ≤ x ∧ x < 65536) : Does Try.prog 49 [.agg [bl s, .sl a]] (.tup [.pv (i64 x), .pv (bl true)]) [] := by
  refine does_of hT hM Try.func49 rfl (D := []) (by kernel_rfl) rfl rfl rfl (fun A K hA hK => ?_)
  obtain ⟨rfl, hn⟩ := ha.pos hx.1
  obtain ⟨l, hes, h1, h2, h3⟩ := small_num hn hx.2
  have hal : a.length = l.length := by rw [hes]; simp
  have dG := d_spec_GoodBig (s := false) hes (by omega)
  have hg : goodB false l = true := goodB_iff.2 ⟨h1, by omega, fun _ => rfl⟩
  rw [hg] at dG
  obtain ⟨c, hc⟩ := top_num
  have dB := d_spec_BigOf (n := 4611686018427387904) (by omega) hc
  have hcl := hc.1.len (k := 4) (by rw [iabs_of (by omega)]; simp only [pw]; omega)
  have hcn := (hc.pos (by omega)).2
  have dC := d_spec_l1Cmp hn hcn (by omega)
  have hcm : cmpI x 4611686018427387904 = -1 := by unfold cmpI; rw [if_pos (by omega)]
  rw [hcm] at dC
  have hdrop : ∀ i : Nat, i < l.length → ev l = ev (l.drop i) := fun i hi => by rw [show i = 0 by omega]; rfl
  have hd2 : ∀ i : Nat, l.length ≤ i → ev (l.drop i) = 0 := fun i hi => by rw [List.drop_of_length_le hi]; rfl
  cbv
  refine Ar.callT hA c_spec_GoodBig dG rfl (fun _ => ?_) (fun h => by cases h)
  cbv
  refine Ar.notT_ hA ?_
  cbv
  refine Ar.len_ hA (fun n0 hn0 hn0' => ?_)
  cbv
  refine Ar.gtr_ hA (fun h => absurd h (by omega)) (fun _ => ?_)
  cbv
  refine Ar.call_ hA c_spec_BigOf dB rfl ?_
  cbv
  refine Ar.callI hA c_spec_l1Cmp dC rfl (fun r hr => ?_)
  cbv
  refine Ar.gtr_ hA (fun h => absurd h (by omega)) (fun _ => ?_)
  cbv
  refine Ar.len_ hA (fun n hnn hnn' => ?_)
  cbv
  refine Ar.sub_ hA (by omega) (fun i0 hi0 => ?_)
  cbv
  refine Ar.loop_ hA (α := Int × Int) (fun t => (t.1 + 1).toNat) (fun t => -1 ≤ t.1 ∧ t.1 < n ∧ t.2 = ev (l.drop (t.1 + 1).toNat)) 44 (fun t => [(1, .ref 1 0), (5, .pv (i64 t.2) []), (6, .pv (i64 t.1) [])]) (fun _ => [(1, some (.cell [.pv (bl false) [], .pv (.sl a) []]))]) (i0, 0) (by refine ⟨?_, ⟨?_, ?_, ?_, trivial⟩, ?_, trivial⟩ <;> cbv) ⟨by show -1 ≤ i0; omega, by show i0 < n; omega, by show 0 = ev (l.drop (i0 + 1).toNat); rw [hd2 _ (by omega)]⟩ ?_
  rintro ⟨i, v⟩ st f ⟨g1, g2, g3⟩
  simp only at g1 g2 g3
  cbv
  refine Ar.geq_ hA (fun h => ?_) (fun h => ?_)
  · have hlt : i.toNat < l.length := by omega
    obtain ⟨y, hy⟩ : ∃ y, l[i.toNat]? = some y := ⟨l[i.toNat]'hlt, List.getElem?_eq_getElem _⟩
    have hyb := h1.1.get hy
    have hye : ∀ k, k = i.toNat → a[k]? = some (i64 y) := fun k hk => by rw [hk, hes, List.getElem?_map, hy]; rfl
    have hv0 : v = 0 := by rw [g3, hd2 _ (by omega)]
    have hev : ev (l.drop i.toNat) = y := by
      rw [ev_drop hy, hd2 _ (by omega)]; omega
    clear g3
    cbv
    refine Ar.mul_ hA (by omega) (fun m hm => ?_)
    cbv
    repeat' (first
      | (refine Ar.nn_ hA (by omega) ?_; cbv)
      | (refine Ar.toN_ hA (fun _ _ => ?_); cbv)
      | (refine Ar.idx_ hA (x := i64 y) (hye _ (by omega)) ?_; cbv))
    refine Ar.add_ hA (by omega) (fun v' hv' => ?_)
    cbv
    refine Ar.sub_ hA (by omega) (fun i' hi' => ?_)
    cbv
    exact ⟨(i', v'), by show (i' + 1).toNat < (i + 1).toNat; omega, ⟨by show -1 ≤ i'; omega, by show i' < n; omega, by show v' = ev (l.drop (i' + 1).toNat); rw [show (i' + 1).toNat = i.toNat by omega, hev]; omega⟩, rfl, ⟨rfl, rfl, rfl, trivial⟩, rfl, trivial⟩
  · have hv : v = x := by rw [g3, show (i + 1).toNat = 0 by omega, ← h2]; rfl
    subst hv
    clear h2
    cbv
    exact hK _ _ rfl rfl

/-- The byte of a share. -/
def capR (q : Rat) : Rat := if 1 < absR q then 1 else absR q
def byR (q : Rat) : Int := (capR q * 255 + 1 / 2).floor
theorem absR_nonneg (q : Rat) : 0 ≤ absR q := by
  unfold absR; split <;> grind
theorem capR_range (q : Rat) : 0 ≤ capR q ∧ capR q ≤ 1 := by
  have := absR_nonneg q
  unfold capR; split <;> grind
theorem byR_range (q : Rat) : 0 ≤ byR q ∧ byR q ≤ 255 := by
  obtain ⟨h1, h2⟩ := capR_range q
  unfold byR
  refine ⟨Rat.le_floor_iff.2 ?_, ?_⟩
  · have : ((0 : Int) : Rat) = 0 := rfl
    rw [this]; grind
  · have : (capR q * 255 + 1 / 2).floor < 256 := Rat.floor_lt_iff.2 (by
      have : ((256 : Int) : Rat) = 256 := rfl
      rw [this]; grind)
    omega
theorem byR_big {q : Rat} (h : 1 < absR q) : byR q = 255 := by
  unfold byR capR
  rw [if_pos h]
  have h1 : (255 : Int) ≤ (1 * 255 + 1 / 2 : Rat).floor := Rat.le_floor_iff.2 (by
    have : ((255 : Int) : Rat) = 255 := rfl
    rw [this]; grind)
  have h2 : (1 * 255 + 1 / 2 : Rat).floor < 256 := Rat.floor_lt_iff.2 (by
    have : ((256 : Int) : Rat) = 256 := rfl
    rw [this]; grind)
  omega
theorem half_eq : Rat.divInt 1 2 = (1 : Rat) / 2 := by rw [Rat.divInt_eq_div]; rfl
theorem one_cast : ((1 : Int) : Rat) = 1 := rfl
theorem c255_cast : ((255 : Int) : Rat) = 255 := rfl
theorem sz_one : Sz 1 (1 : Rat) := by rw [← one_cast]; exact Sz.int (by unfold iabs; simp only [pw]; omega) (by omega)
theorem sz_255 : Sz 1 (255 : Rat) := by rw [← c255_cast]; exact Sz.int (by unfold iabs; simp only [pw]; omega) (by omega)
theorem sz_half : Sz 1 (1 / 2 : Rat) := by rw [← half_eq]; exact Sz.divInt (by omega) (by unfold iabs; simp only [pw]; omega) (by unfold iabs; simp only [pw]; omega)

theorem c_impl_byteOf : Callable Try.prog 34 := ⟨_, Try.func34, rfl, by kernel_rfl⟩
theorem d_impl_byteOf {s t : Bool} {a b : List PV} {q : Rat} (hq : RatP s a t b q) (hk : Sz 40 q) : Does Try.prog 34 [rpv s a t b] (.pv (i64 (byR q))) [] := by
  refine does_of hT hM Try.func34 rfl (D := []) (by kernel_rfl) rfl rfl rfl (fun A K hA hK => ?_)
  obtain ⟨s1, a1, t1, b1, h1⟩ := RatP.ex (absR q)
  obtain ⟨s2, a2, t2, b2, h2⟩ := RatP.ex (1 : Rat)
  obtain ⟨s3, a3, t3, b3, h3⟩ := RatP.ex (255 : Rat)
  obtain ⟨s4, a4, t4, b4, h4⟩ := RatP.ex (capR q * 255)
  obtain ⟨s5, a5, t5, b5, h5⟩ := RatP.ex (1 / 2 : Rat)
  obtain ⟨s6, a6, t6, b6, h6⟩ := RatP.ex (capR q * 255 + 1 / 2)
  obtain ⟨s7, a7, h7⟩ := Big.ex (byR q)
  have z1 : Sz 40 (absR q) := hk.abs
  have hby := byR_range q
  have z4 : Sz 41 (capR q * 255) := by
    unfold capR; split
    · exact (sz_one.mul sz_255).mono (by omega)
    · exact z1.mul sz_255
  have z6 : Sz 43 (capR q * 255 + 1 / 2) := z4.add sz_half
  have dA := d_impl_Rat_abs hq hk (by omega) h1
  have dW := d_impl_whole (n := 1) (by omega) h2
  have dL := d_impl_Rat_less h2 h1 sz_one z1 (by omega)
  have dV := d_impl_whole (n := 255) (by omega) h3
  have dH := d_impl_Rat_half h2 sz_one (by omega) h5
  have dS := d_impl_Rat_add h4 h5 z4 sz_half (by omega) h6
  have dF := d_impl_Rat_floor h6 z6 (by omega) h7
  have dI := d_impl_IntOf h7 (by omega)
  have dM1 := fun h : 1 < absR q => d_impl_Rat_mul h2 h3 sz_one sz_255 (by omega) (by have := h4; unfold capR at this; rw [if_pos h] at this; exact this)
  have dM2 := fun h : ¬ 1 < absR q => d_impl_Rat_mul h1 h3 z1 sz_255 (by omega) (by have := h4; unfold capR at this; rw [if_neg h] at this; exact this)
  clear h1 h2 h3 h4 h5 h6 h7 z1 z4 z6 hq hk
  generalize byR q = B at *
  cbv
  refine Ar.call_ hA c_impl_Rat_abs dA rfl ?_
  cbv
  refine Ar.call_ hA c_impl_whole dW rfl ?_
  cbv
  refine Ar.callT hA c_impl_Rat_less dL rfl (fun h => ?_) (fun h => ?_)
  · have dM := dM1 (by simpa using h)
    clear dM1 dM2
    cbv
    refine Ar.call_ hA c_impl_whole dW rfl ?_
    cbv
    refine Ar.call_ hA c_impl_whole dV rfl ?_
    cbv
    refine Ar.call_ hA c_impl_Rat_mul dM rfl ?_
    cbv
    refine Ar.call_ hA c_impl_whole dW rfl ?_
    cbv
    refine Ar.call_ hA c_impl_Rat_half dH rfl ?_
    cbv
    refine Ar.call_ hA c_impl_Rat_add dS rfl ?_
    cbv
    refine Ar.call_ hA c_impl_Rat_floor dF rfl ?_
    cbv
    refine Ar.call_ hA c_impl_IntOf dI rfl ?_
    cbv
    exact hK _ _ rfl rfl
  · have dM := dM2 (by simpa using h)
    clear dM1 dM2
    cbv
    refine Ar.call_ hA c_impl_whole dV rfl ?_
    cbv
    refine Ar.call_ hA c_impl_Rat_mul dM rfl ?_
    cbv
    refine Ar.call_ hA c_impl_whole dW rfl ?_
    cbv
    refine Ar.call_ hA c_impl_Rat_half dH rfl ?_
    cbv
    refine Ar.call_ hA c_impl_Rat_add dS rfl ?_
    cbv
    refine Ar.call_ hA c_impl_Rat_floor dF rfl ?_
    cbv
    refine Ar.call_ hA c_impl_IntOf dI rfl ?_
    cbv
    exact hK _ _ rfl rfl

theorem c_spec_l14Byte : Callable Try.prog 31 := ⟨_, Try.func31, rfl, by kernel_rfl⟩
theorem d_spec_l14Byte {s t : Bool} {a b : List PV} {q : Rat} (hq : RatP s a t b q) (hk : Sz 40 q) : Does Try.prog 31 [rpv s a t b] (.pv (i64 (byR q))) [] := by
  refine does_of hT hM Try.func31 rfl (D := []) (by kernel_rfl) rfl rfl rfl (fun A K hA hK => ?_)
  obtain ⟨s1, a1, t1, b1, h1⟩ := RatP.ex (absR q)
  obtain ⟨s2, a2, t2, b2, h2⟩ := RatP.ex (1 : Rat)
  obtain ⟨s3, a3, t3, b3, h3⟩ := RatP.ex (255 : Rat)
  obtain ⟨s4, a4, t4, b4, h4⟩ := RatP.ex (capR q * 255)
  obtain ⟨s5, a5, t5, b5, h5⟩ := RatP.ex (1 / 2 : Rat)
  obtain ⟨s6, a6, t6, b6, h6⟩ := RatP.ex (capR q * 255 + 1 / 2)
  obtain ⟨s7, a7, h7⟩ := Big.ex (byR q)
  obtain ⟨s8, a8, h8⟩ := Big.ex 1
  obtain ⟨s9, a9, h9⟩ := Big.ex 2
  have l8 := h8.1.len (k := 1) (by unfold iabs; simp only [pw]; omega)
  have l9 := h9.1.len (k := 1) (by unfold iabs; simp only [pw]; omega)
  have z1 : Sz 40 (absR q) := hk.abs
  have hby := byR_range q
  have hbig := @byR_big q
  have z4 : Sz 41 (capR q * 255) := by
    unfold capR; split
    · exact (sz_one.mul sz_255).mono (by omega)
    · exact z1.mul sz_255
  have z6 : Sz 43 (capR q * 255 + 1 / 2) := z4.add sz_half
  have dA := d_spec_l5Abs hq hk (by omega) h1
  have dW := d_spec_l2Int (n := 1) (by omega) h2
  have dL := d_spec_l2Cmp h1 h2 z1 sz_one (by omega)
  have hL := cmpR_gt (absR q) 1
  have dV := d_spec_l2Int (n := 255) (by omega) h3
  have d8 := d_spec_BigOf (n := 1) (by omega) h8
  have d9 := d_spec_BigOf (n := 2) (by omega) h9
  have dH := d_spec_l2Make h8 h9 (by omega) (by omega) (by rw [half_eq]; exact h5)
  have dS := d_spec_l2Add h4 h5 z4 sz_half (by omega) h6
  have dF := d_spec_l2Floor h6 z6 (by omega) h7
  have dI := d_spec_IntOf h7 (by omega)
  have dM2 := fun h : ¬ 1 < absR q => d_spec_l2Mul h1 h3 z1 sz_255 (by omega) (by have := h4; unfold capR at this; rw [if_neg h] at this; exact this)
  clear h1 h2 h3 h4 h5 h6 h7 z1 z4 z6 hq hk
  generalize byR q = B at *
  generalize cmpR (absR q) 1 = C at *
  cbv
  refine Ar.call_ hA c_spec_l5Abs dA rfl ?_
  cbv
  refine Ar.call_ hA c_spec_l2Int dW rfl ?_
  cbv
  refine Ar.callI hA c_spec_l2Cmp dL rfl (fun r hr => ?_)
  cbv
  refine Ar.gtr_ hA (fun h => ?_) (fun h => ?_)
  · cbv
    exact hK _ _ (by rw [hbig (hL.1 (by omega))]) rfl
  · have dM := dM2 (mt hL.2 (by omega))
    clear dM2
    cbv
    refine Ar.call_ hA c_spec_BigOf d8 rfl ?_
    cbv
    refine Ar.call_ hA c_spec_BigOf d9 rfl ?_
    cbv
    refine Ar.call_ hA c_spec_l2Make dH rfl ?_
    cbv
    refine Ar.call_ hA c_spec_l2Int dV rfl ?_
    cbv
    refine Ar.call_ hA c_spec_l2Mul dM rfl ?_
    cbv
    refine Ar.call_ hA c_spec_l2Add dS rfl ?_
    cbv
    refine Ar.call_ hA c_spec_l2Floor dF rfl ?_
    cbv
    refine Ar.call_ hA c_spec_IntOf dI rfl ?_
    cbv
    exact hK _ _ rfl rfl

theorem c_laws_FnExactByteOf : Callable Try.prog 5 := ⟨_, Try.func5, rfl, by kernel_rfl⟩
theorem d_laws_FnExactByteOf {s : Bool} {a : List PV} {t : Bool} {b : List PV} {l m : List Int} (h : a = l.map i64 ∧ b = m.map i64 ∧ l.length ≤ 9223372036854775807 ∧ m.length ≤ 9223372036854775807) : Does Try.prog 5 [.agg [bl s, .sl a, bl t, .sl b]] (.pv (bl true)) [] := by
  refine does_of hT hM Try.func5 rfl (D := []) (by kernel_rfl) rfl rfl rfl (fun A K hA hK => ?_)
  obtain ⟨ha, hb, hl, hm⟩ := h
  have dz := d_laws_szRat (s := s) (t := t) (x := 1048576) ha hb hl hm (by omega)
  have hz : 0 ≤ sz4 ((s, l), (t, m)) 1048576 → l.length ≤ 1048576 ∧ m.length ≤ 1048576 := fun h => by
    have := @sz4_ok ((s, l), (t, m)) 1048576 h
    simp only at this
    omega
  have dt := fun h => d_laws_toRat (s := s) (t := t) ha hb h
  have de := fun h => d_laws_eqRat (s := s) (t := t) ha hb h
  have dg1 := d_spec_GoodRat (s := s) (t := t) ha hb hl hm
  have dg2 := d_impl_GoodRat (s := s) (t := t) ha hb hl hm
  have db : ∃ n : Int, goodR ((s, l), (t, m)) = true → Does Try.prog 31 [rpv s a t b] (.pv (i64 n)) [] ∧ Does Try.prog 34 [rpv s a t b] (.pv (i64 n)) [] := by
    by_cases h : goodR ((s, l), (t, m)) = true
    · obtain ⟨q, h1, h2⟩ := goodR_rat h (goodR_short h)
      simp only at h1
      rw [← ha, ← hb] at h1
      exact ⟨byR q, fun _ => ⟨d_spec_l14Byte h1 h2, d_impl_byteOf h1 h2⟩⟩
    · exact ⟨0, fun h' => absurd h' h⟩
  obtain ⟨n, db⟩ := db
  clear ha hb
  generalize sz4 ((s, l), (t, m)) 1048576 = Z at *
  generalize goodR ((s, l), (t, m)) = G at *
  have d1 : Does Try.prog 14 [rpv s a t b] (.tup [.pv (i64 (if G then n else 0)), .pv (bl G)]) [] := by
    refine does_of hT hM Try.func14 rfl (D := []) (by kernel_rfl) rfl rfl rfl (fun A K hA hK => ?_)
    cases G
    · cbv
      refine Ar.callT hA c_spec_GoodRat dg1 rfl (fun h => by cases h) (fun _ => ?_)
      cbv
      refine Ar.notF_ hA ?_
      cbv
      exact hK _ _ rfl rfl
    · have db' := (db rfl).1
      cbv
      refine Ar.callT hA c_spec_GoodRat dg1 rfl (fun _ => ?_) (fun h => by cases h)
      cbv
      refine Ar.notT_ hA ?_
      cbv
      refine Ar.call_ hA ⟨_, Try.func31, rfl, by kernel_rfl⟩ db' rfl ?_
      cbv
      exact hK _ _ rfl rfl
  have d2 : Does Try.prog 16 [rpv s a t b] (.tup [.pv (i64 (if G then n else 0)), .pv (bl G)]) [] := by
    refine does_of hT hM Try.func16 rfl (D := []) (by kernel_rfl) rfl rfl rfl (fun A K hA hK => ?_)
    cases G
    · cbv
      refine Ar.callT hA c_impl_GoodRat dg2 rfl (fun h => by cases h) (fun _ => ?_)
      cbv
      refine Ar.notF_ hA ?_
      cbv
      exact hK _ _ rfl rfl
    · have db' := (db rfl).2
      cbv
      refine Ar.callT hA c_impl_GoodRat dg2 rfl (fun _ => ?_) (fun h => by cases h)
      cbv
      refine Ar.notT_ hA ?_
      cbv
      refine Ar.call_ hA ⟨_, Try.func34, rfl, by kernel_rfl⟩ db' rfl ?_
      cbv
      exact hK _ _ rfl rfl
  have c1 : Callable Try.prog 14 := ⟨_, Try.func14, rfl, by kernel_rfl⟩
  have c2 : Callable Try.prog 16 := ⟨_, Try.func16, rfl, by kernel_rfl⟩
  generalize (if G = true then n else 0) = V at *
  clear db dg1 dg2
  cases s <;> cases t
  all_goals
    cbv
    refine Ar.callI hA c_laws_szRat dz rfl (fun r hr => ?_)
    cbv
    refine Ar.lss_ hA (fun h => ?_) (fun h => ?_)
    · cbv
      exact hK _ _ rfl rfl
    have z := hz (by omega)
    have dt' := dt z
    have de' := de z
    cbv
    refine Ar.call_ hA c_laws_toRat dt' rfl ?_
    cbv
    refine Ar.call_ hA c1 d1 rfl ?_
    cbv
    refine Ar.call_ hA c_laws_toRat dt' rfl ?_
    cbv
    refine Ar.call_ hA c2 d2 rfl ?_
    cbv
    refine Ar.neq_ hA (fun h => absurd rfl h) (fun _ => ?_)
    cbv
    refine Ar.bneq_ hA (fun h => absurd rfl h) (fun _ => ?_)
    cbv
    refine Ar.call_ hA c_laws_toRat dt' rfl ?_
    cbv
    refine Ar.callT hA c_laws_eqRat de' rfl (fun _ => ?_) (fun h => by cases h)
    cbv
    refine Ar.notT_ hA ?_
    cbv
    exact hK _ _ rfl rfl

end Go.VAI
