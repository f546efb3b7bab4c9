/- The triangles of the reference. -/
import Derived.Test.YtjkcnepcppljpaaEE
namespace Go.VAI
open Go.Proofs
set_option maxRecDepth 100000
set_option maxHeartbeats 8000000

def IsI (r : List PV) : Prop := ∀ x ∈ r, (leaves x).length = 1 ∧ isFree x = true
theorem isI_nI (left : List Nat) : IsI (left.map nI) := by
  intro x hx
  obtain ⟨k, _, rfl⟩ := List.mem_map.1 hx
  exact ⟨rfl, rfl⟩
theorem IsI.part {r : List PV} (h : IsI r) (a b : Nat) : IsI ((r.drop a).take b) := fun x hx => h x (List.mem_of_mem_drop (List.mem_of_mem_take hx))
theorem IsI.wid {r : List PV} (h : IsI r) (fl : Bool) : ∀ x ∈ r, (leaves x).length = 1 ∧ (fl = true → isFree x = true) := fun x hx => ⟨(h x hx).1, fun _ => (h x hx).2⟩

theorem cut_row2 {left : List Nat} {fs r1 r2 : List PV} {e : Nat} (hfs : fs = left.map nI) (h1 : r1 = fs.take e) (h2 : r2 = fs.drop (e + 1)) : [] ++ r1 ++ r2 = (left.eraseIdx e).map nI := by
  rw [h1, h2, hfs, List.nil_append, List.eraseIdx_eq_take_drop_succ, List.map_append, List.map_take, List.map_drop]

theorem Ar.slN_ {P : Program} {A : Ar} (hA : stdA P = A) {l : List PV} {o a b : Nat} {K : List PV → Prop} (h : ∀ r, r = (l.drop o).take (a - b) → K r) : A.row (A.sub l o (A.subN a b)) K := by
  subst hA; exact h _ rfl

theorem c_spec_l11Cut : Callable Try.prog 37 := ⟨_, Try.func37, rfl, by kernel_rfl⟩
theorem d_spec_l11Cut {es : List PV} {l : List P2} (hes : es = l.map P2.pv) (hgal : galF l = true) : Does Try.prog 37 [.sl es] (.row ((cutR l).map T3.pv) 3 .free) [] := by
  refine does_of hT hM Try.func37 rfl (D := []) (by kernel_rfl) rfl rfl rfl (fun A K hA hK => ?_)
  have hlen : es.length = l.length := by simp [hes]
  have hway : isWayF l = true := by unfold galF at hgal; rw [Bool.and_eq_true] at hgal; exact hgal.1
  have hsim : simpleF l = true := by unfold galF at hgal; rw [Bool.and_eq_true] at hgal; exact hgal.2
  obtain ⟨c1, c2, hok⟩ := isWayF_iff.1 hway
  obtain ⟨hgood, hst⟩ := good_start c1 hsim
  have da := d_spec_l8Area hes (by omega) c2 hok
  have dc := d_spec_l11All hes c2
  obtain ⟨tot, htot⟩ : ∃ tot, tot = (cutR l).map T3.pv := ⟨_, rfl⟩
  rw [← htot] at hK
  unfold cutR at htot
  have hrl : (List.range l.length).length = l.length := List.length_range
  generalize hR : List.range l.length = R at dc hgood htot hrl
  rw [← hrl] at htot
  obtain ⟨fs, hfs⟩ : ∃ fs, fs = R.map nI := ⟨_, rfl⟩
  rw [← hfs] at dc
  obtain ⟨ar, har⟩ : ∃ a, a = area2 l := ⟨_, rfl⟩
  rw [← har] at da hst hgood htot
  clear har hR
  cbv
  refine Ar.call_ hA c_spec_l11All dc rfl ?_
  cbv
  refine Ar.call_ hA c_spec_l8Area da rfl ?_
  cbv
  refine Ar.callI hA c_spec_l8Sign d_spec_l8Sign rfl (fun turn hturn => ?_)
  rw [← hturn] at hst hgood htot
  clear hturn da
  cbv
  refine Ar.loop_ hA (α := List Nat × Nat × List PV × List PV) (fun x => x.1.length)
    (fun (left, id, r, out) => GoodLeft l left turn ∧ left.length ≤ 12 ∧ 3 ≤ left.length ∧ out.length + left.length ≤ 12 ∧ (id = 12 ∨ id = 48) ∧ r = left.map nI ∧ out ++ (cutL l turn (left.length - 3) left).map T3.pv = tot)
    72 (fun (_, id, _, _) => [(0, .pv (.sl es) []), (3, .own id none), (4, .pv (i64 turn) []), (5, .own 5 none)]) (fun (_, id, r, out) => [(id, some (.row r 1 .free false)), (5, some (.row out 3 .free false))]) (R, 12, fs, []) (by refine ⟨?_, ⟨?_, ?_, ?_, ?_, trivial⟩, ?_, ?_, trivial⟩ <;> cbv) ⟨hgood, by omega, by omega, by simp; omega, .inl rfl, hfs, by rw [htot]; rfl⟩ ?_
  intro ⟨left, id, r, out⟩ s f ⟨g1, g2, g3, g4, g5, hr, g6⟩
  clear dc hgood htot hfs hrl
  obtain ⟨k0, hk0, he0⟩ := good_ear g1
  have hstep := fun k hk he hf h4 => cutL_step (k := k) g1 h4 hk he hf
  have hrl : r.length = left.length := by rw [hr]; simp
  have hwid : IsI r := by rw [hr]; exact isI_nI left
  rcases g5 with rfl | rfl
  all_goals
    cbv
    refine Ar.len_ hA (fun n hn hn' => ?_)
    cbv
    refine Ar.gtr_ hA (fun h => ?_) (fun h => ?_)
  · cbv
    refine Ar.len_ hA (fun n2 hn2 hn2' => ?_)
    cbv
    refine Ar.sub_ hA (by omega) (fun i0 hi0 => ?_)
    cbv
    refine Ar.loop_ hA (α := Int × Int) (fun x => (x.1 + 1).toNat) (fun (i, e) => -1 ≤ i ∧ i < n ∧ 0 ≤ e ∧ ((∀ j, (i + 1).toNat ≤ j → j < left.length → earF l left turn j = false) ∧ e = 0 ∨ (i < e ∧ e < n ∧ earF l left turn e.toNat = true ∧ ∀ j, (i + 1).toNat ≤ j → j < e.toNat → earF l left turn j = false))) 72 (fun (i, e) => [(0, .pv (.sl es) []), (3, .own 12 none), (4, .pv (i64 turn) []), (5, .own 5 none), (6, .pv (i64 e) []), (7, .pv (i64 i) [])]) (fun _ => [(12, some (.row r 1 .free false)), (5, some (.row out 3 .free false))]) (i0, 0) (by refine ⟨?_, ⟨?_, ?_, ?_, ?_, ?_, ?_, trivial⟩, ?_, ?_, trivial⟩ <;> cbv) ⟨by omega, by omega, by omega, .inl ⟨fun j h1 h2 => by omega, rfl⟩⟩ ?_
    intro ⟨i, e⟩ s f ⟨i1, i2, i3, i4⟩
    cbv
    refine Ar.geq_ hA (fun hi => ?_) (fun hi => ?_)
    · have hkl : i.toNat < left.length := by omega
      obtain ⟨a, ax, ay, ha⟩ := at3 hok (by omega) g1.lt (i.toNat + left.length - 1)
      obtain ⟨b, bx, b_y, hb⟩ := at3 hok (by omega) g1.lt i.toNat
      obtain ⟨c, cx, cy, hc⟩ := at3 hok (by omega) g1.lt (i.toNat + 1)
      have de := d_spec_l11Ear (turn := turn) hes hr hok (by omega) g2 g1.lt ⟨hi, hkl⟩ ha hb hc
      cbv
      refine Ar.callT hA c_spec_l11Ear de rfl (fun he => ?_) (fun he => ?_)
      · cbv
        refine Ar.sub_ hA (by omega) (fun i1 hi1 => ?_)
        cbv
        refine ⟨(i1, i), (by show (i1 + 1).toNat < (i + 1).toNat; omega), ⟨by omega, by omega, hi, .inr ⟨by omega, i2, he, fun j h1 h2 => by omega⟩⟩, (by refine ⟨?_, ⟨?_, ?_, ?_, ?_, ?_, ?_, trivial⟩, ?_, ?_, trivial⟩ <;> cbv)⟩
      · have down : ∀ j, i.toNat ≤ j → ((i + 1).toNat ≤ j → earF l left turn j = false) → earF l left turn j = false := fun j h1 h2 => by
          by_cases q : j = i.toNat
          · rw [q]; exact he
          · exact h2 (by omega)
        cbv
        refine Ar.sub_ hA (by omega) (fun i1 hi1 => ?_)
        cbv
        refine ⟨(i1, e), (by show (i1 + 1).toNat < (i + 1).toNat; omega), ⟨by omega, by omega, i3, ?_⟩, (by refine ⟨?_, ⟨?_, ?_, ?_, ?_, ?_, ?_, trivial⟩, ?_, ?_, trivial⟩ <;> cbv)⟩
        rcases i4 with ⟨j1, j2⟩ | ⟨j1, j2, j3, j4⟩
        · exact .inl ⟨fun j h1 h2 => down j (by omega) (fun h => j1 j h h2), j2⟩
        · exact .inr ⟨by omega, j2, j3, fun j h1 h2 => down j (by omega) (fun h => j4 j h h2)⟩
    · rcases i4 with ⟨j1, j2⟩ | ⟨j1, j2, j3, j4⟩
      · exact absurd (j1 k0 (by omega) hk0) (by rw [he0]; simp)
      have hkl : e.toNat < left.length := by omega
      obtain ⟨q1, q2, q3⟩ := hstep e.toNat hkl j3 (fun j hj => j4 j (by omega) hj) (by omega)
      clear hstep
      obtain ⟨a, ha⟩ := cor_int left (e.toNat + left.length - 1)
      obtain ⟨b, hb⟩ := cor_int left e.toNat
      obtain ⟨c, hc⟩ := cor_int left (e.toNat + 1)
      have htp := triK_pv ha hb hc
      have dt := d_spec_l11Around (a := a) (c := c) hr (by omega) g2 (i := e) (by omega) ha hc
      have gb := nI_get (j := e.toNat) hr (by omega) (by rw [Nat.mod_eq_of_lt hkl]) hb
      cbv
      refine Ar.call_ hA c_spec_l11Around dt rfl ?_
      cbv
      repeat' (first
        | (refine Ar.nn_ hA (by omega) ?_; cbv)
        | (refine Ar.toN_ hA (fun j hj => ?_); cbv)
        | (refine Ar.idx_ hA (x := i64 b) (by rw [show j = e.toNat by omega]; exact gb) ?_; cbv))
      refine Ar.app_ hA (fun o2 ho2 => ?_)
      cbv
      refine Ar.fitsL_ hA (by rw [ho2, List.length_append]; simp only [List.length_singleton]; omega) ?_
      cbv
      repeat' (first
        | (refine Ar.lenN_ hA (fun j hj => ?_); cbv)
        | (refine Ar.nn_ hA (by omega) ?_; cbv)
        | (refine Ar.toN_ hA (fun j hj => ?_); cbv)
        | (refine Ar.rng_ hA (by omega) ?_; cbv)
        | (refine Ar.subN_ hA (fun j hj => ?_); cbv))
      refine Ar.sl_ hA (fun r1 hr1 => ?_)
      rw [List.drop_zero] at hr1
      have er1 : r1 = r.take e.toNat := by rw [hr1]; congr 1 <;> omega
      clear hr1
      cbv
      refine Ar.app_ hA (fun p1 hp1 => ?_)
      have hp1l : p1.length = e.toNat := by rw [hp1, er1]; simp; omega
      cbv
      refine Ar.fitsL_ hA (by omega) ?_
      cbv
      repeat' (first
        | (refine Ar.lenN_ hA (fun j hj => ?_); cbv)
        | (refine Ar.add_ hA (by omega) (fun j hj => ?_); cbv)
        | (refine Ar.nn_ hA (by omega) ?_; cbv)
        | (refine Ar.toN_ hA (fun j hj => ?_); cbv)
        | (refine Ar.rng_ hA (by omega) ?_; cbv)
        | (refine Ar.subN_ hA (fun j hj => ?_); cbv))
      refine Ar.sl_ hA (fun r2 hr2 => ?_)
      have er2 : r2 = r.drop (e.toNat + 1) := by
        rw [hr2, List.take_of_length_le (by rw [List.length_drop]; omega)]; congr 1 <;> omega
      clear hr2
      cbv
      refine Ar.app_ hA (fun p2 hp2 => ?_)
      have ep2 : p2 = (left.eraseIdx e.toNat).map nI := by rw [hp2, hp1]; exact cut_row2 hr er1 er2
      have hp2l : p2.length ≤ 12 := by rw [ep2]; simp; omega
      cbv
      refine Ar.fitsL_ hA (by omega) ?_
      cbv
      refine ⟨(left.eraseIdx e.toNat, 48, p2, o2), (by show (left.eraseIdx e.toNat).length < left.length; omega), ⟨q2, by omega, by omega, by rw [ho2]; simp; omega, .inr rfl, ep2, ?_⟩, (by refine ⟨?_, ⟨?_, ?_, ?_, ?_, trivial⟩, ?_, ?_, trivial⟩ <;> cbv)⟩
      rw [ho2, ← g6, q1, List.map_cons, htp, List.append_assoc]; rfl
  · have h3 : left.length = 3 := by omega
    obtain ⟨a, ha⟩ := cor_int left 0
    obtain ⟨b, hb⟩ := cor_int left 1
    obtain ⟨c, hc⟩ := cor_int left 2
    have ga := nI_get (j := 0) hr (by omega) (by rw [h3]) ha
    have gb := nI_get (j := 1) hr (by omega) (by rw [h3]) hb
    have gc := nI_get (j := 2) hr (by omega) (by rw [h3]) hc
    rw [three h3 ha hb hc] at g6
    clear hstep
    cbv
    repeat' (first
      | (refine Ar.nn_ hA (by omega) ?_; cbv)
      | (refine Ar.toN_ hA (fun j hj => ?_); cbv)
      | (refine Ar.idx_ hA (x := i64 a) (by rw [show j = 0 by omega]; exact ga) ?_; cbv)
      | (refine Ar.idx_ hA (x := i64 b) (by rw [show j = 1 by omega]; exact gb) ?_; cbv)
      | (refine Ar.idx_ hA (x := i64 c) (by rw [show j = 2 by omega]; exact gc) ?_; cbv))
    refine Ar.app_ hA (fun o2 ho2 => ?_)
    cbv
    refine Ar.fitsL_ hA (by rw [ho2, List.length_append]; simp only [List.length_singleton]; omega) ?_
    cbv
    exact hK _ _ (by rw [ho2, ← g6]) rfl
  · cbv
    refine Ar.len_ hA (fun n2 hn2 hn2' => ?_)
    cbv
    refine Ar.sub_ hA (by omega) (fun i0 hi0 => ?_)
    cbv
    refine Ar.loop_ hA (α := Int × Int) (fun x => (x.1 + 1).toNat) (fun (i, e) => -1 ≤ i ∧ i < n ∧ 0 ≤ e ∧ ((∀ j, (i + 1).toNat ≤ j → j < left.length → earF l left turn j = false) ∧ e = 0 ∨ (i < e ∧ e < n ∧ earF l left turn e.toNat = true ∧ ∀ j, (i + 1).toNat ≤ j → j < e.toNat → earF l left turn j = false))) 72 (fun (i, e) => [(0, .pv (.sl es) []), (3, .own 48 none), (4, .pv (i64 turn) []), (5, .own 5 none), (6, .pv (i64 e) []), (7, .pv (i64 i) [])]) (fun _ => [(48, some (.row r 1 .free false)), (5, some (.row out 3 .free false))]) (i0, 0) (by refine ⟨?_, ⟨?_, ?_, ?_, ?_, ?_, ?_, trivial⟩, ?_, ?_, trivial⟩ <;> cbv) ⟨by omega, by omega, by omega, .inl ⟨fun j h1 h2 => by omega, rfl⟩⟩ ?_
    intro ⟨i, e⟩ s f ⟨i1, i2, i3, i4⟩
    cbv
    refine Ar.geq_ hA (fun hi => ?_) (fun hi => ?_)
    · have hkl : i.toNat < left.length := by omega
      obtain ⟨a, ax, ay, ha⟩ := at3 hok (by omega) g1.lt (i.toNat + left.length - 1)
      obtain ⟨b, bx, b_y, hb⟩ := at3 hok (by omega) g1.lt i.toNat
      obtain ⟨c, cx, cy, hc⟩ := at3 hok (by omega) g1.lt (i.toNat + 1)
      have de := d_spec_l11Ear (turn := turn) hes hr hok (by omega) g2 g1.lt ⟨hi, hkl⟩ ha hb hc
      cbv
      refine Ar.callT hA c_spec_l11Ear de rfl (fun he => ?_) (fun he => ?_)
      · cbv
        refine Ar.sub_ hA (by omega) (fun i1 hi1 => ?_)
        cbv
        refine ⟨(i1, i), (by show (i1 + 1).toNat < (i + 1).toNat; omega), ⟨by omega, by omega, hi, .inr ⟨by omega, i2, he, fun j h1 h2 => by omega⟩⟩, (by refine ⟨?_, ⟨?_, ?_, ?_, ?_, ?_, ?_, trivial⟩, ?_, ?_, trivial⟩ <;> cbv)⟩
      · have down : ∀ j, i.toNat ≤ j → ((i + 1).toNat ≤ j → earF l left turn j = false) → earF l left turn j = false := fun j h1 h2 => by
          by_cases q : j = i.toNat
          · rw [q]; exact he
          · exact h2 (by omega)
        cbv
        refine Ar.sub_ hA (by omega) (fun i1 hi1 => ?_)
        cbv
        refine ⟨(i1, e), (by show (i1 + 1).toNat < (i + 1).toNat; omega), ⟨by omega, by omega, i3, ?_⟩, (by refine ⟨?_, ⟨?_, ?_, ?_, ?_, ?_, ?_, trivial⟩, ?_, ?_, trivial⟩ <;> cbv)⟩
        rcases i4 with ⟨j1, j2⟩ | ⟨j1, j2, j3, j4⟩
        · exact .inl ⟨fun j h1 h2 => down j (by omega) (fun h => j1 j h h2), j2⟩
        · exact .inr ⟨by omega, j2, j3, fun j h1 h2 => down j (by omega) (fun h => j4 j h h2)⟩
    · rcases i4 with ⟨j1, j2⟩ | ⟨j1, j2, j3, j4⟩
      · exact absurd (j1 k0 (by omega) hk0) (by rw [he0]; simp)
      have hkl : e.toNat < left.length := by omega
      obtain ⟨q1, q2, q3⟩ := hstep e.toNat hkl j3 (fun j hj => j4 j (by omega) hj) (by omega)
      clear hstep
      obtain ⟨a, ha⟩ := cor_int left (e.toNat + left.length - 1)
      obtain ⟨b, hb⟩ := cor_int left e.toNat
      obtain ⟨c, hc⟩ := cor_int left (e.toNat + 1)
      have htp := triK_pv ha hb hc
      have dt := d_spec_l11Around (a := a) (c := c) hr (by omega) g2 (i := e) (by omega) ha hc
      have gb := nI_get (j := e.toNat) hr (by omega) (by rw [Nat.mod_eq_of_lt hkl]) hb
      cbv
      refine Ar.call_ hA c_spec_l11Around dt rfl ?_
      cbv
      repeat' (first
        | (refine Ar.nn_ hA (by omega) ?_; cbv)
        | (refine Ar.toN_ hA (fun j hj => ?_); cbv)
        | (refine Ar.idx_ hA (x := i64 b) (by rw [show j = e.toNat by omega]; exact gb) ?_; cbv))
      refine Ar.app_ hA (fun o2 ho2 => ?_)
      cbv
      refine Ar.fitsL_ hA (by rw [ho2, List.length_append]; simp only [List.length_singleton]; omega) ?_
      cbv
      repeat' (first
        | (refine Ar.wid_ hA (hwid.wid _) ?_; cbv)
        | (refine Ar.lenN_ hA (fun j hj => ?_); cbv)
        | (refine Ar.nn_ hA (by omega) ?_; cbv)
        | (refine Ar.toN_ hA (fun j hj => ?_); cbv)
        | (refine Ar.rng_ hA (by omega) ?_; cbv)
        | (refine Ar.subN_ hA (fun j hj => ?_); cbv))
      refine Ar.slN_ hA (fun r1 hr1 => ?_)
      have hw1 : IsI r1 := by rw [hr1]; exact hwid.part _ _
      rw [List.drop_zero] at hr1
      have er1 : r1 = r.take e.toNat := by rw [hr1]; congr 1 <;> omega
      clear hr1
      cbv
      refine Ar.wid_ hA (hw1.wid _) ?_
      cbv
      refine Ar.app_ hA (fun p1 hp1 => ?_)
      have hp1l : p1.length = e.toNat := by rw [hp1, er1]; simp; omega
      cbv
      refine Ar.fitsL_ hA (by omega) ?_
      cbv
      repeat' (first
        | (refine Ar.wid_ hA (hwid.wid _) ?_; cbv)
        | (refine Ar.lenN_ hA (fun j hj => ?_); cbv)
        | (refine Ar.add_ hA (by omega) (fun j hj => ?_); cbv)
        | (refine Ar.nn_ hA (by omega) ?_; cbv)
        | (refine Ar.toN_ hA (fun j hj => ?_); cbv)
        | (refine Ar.rng_ hA (by omega) ?_; cbv)
        | (refine Ar.subN_ hA (fun j hj => ?_); cbv))
      refine Ar.slN_ hA (fun r2 hr2 => ?_)
      have hw2 : IsI r2 := by rw [hr2]; exact hwid.part _ _
      have er2 : r2 = r.drop (e.toNat + 1) := by
        rw [hr2, List.take_of_length_le (by rw [List.length_drop]; omega)]; congr 1 <;> omega
      clear hr2
      cbv
      refine Ar.wid_ hA (hw2.wid _) ?_
      cbv
      refine Ar.app_ hA (fun p2 hp2 => ?_)
      have ep2 : p2 = (left.eraseIdx e.toNat).map nI := by rw [hp2, hp1]; exact cut_row2 hr er1 er2
      have hp2l : p2.length ≤ 12 := by rw [ep2]; simp; omega
      cbv
      refine Ar.fitsL_ hA (by omega) ?_
      cbv
      refine ⟨(left.eraseIdx e.toNat, 48, p2, o2), (by show (left.eraseIdx e.toNat).length < left.length; omega), ⟨q2, by omega, by omega, by rw [ho2]; simp; omega, .inr rfl, ep2, ?_⟩, (by refine ⟨?_, ⟨?_, ?_, ?_, ?_, trivial⟩, ?_, ?_, trivial⟩ <;> cbv)⟩
      rw [ho2, ← g6, q1, List.map_cons, htp, List.append_assoc]; rfl
  · have h3 : left.length = 3 := by omega
    obtain ⟨a, ha⟩ := cor_int left 0
    obtain ⟨b, hb⟩ := cor_int left 1
    obtain ⟨c, hc⟩ := cor_int left 2
    have ga := nI_get (j := 0) hr (by omega) (by rw [h3]) ha
    have gb := nI_get (j := 1) hr (by omega) (by rw [h3]) hb
    have gc := nI_get (j := 2) hr (by omega) (by rw [h3]) hc
    rw [three h3 ha hb hc] at g6
    clear hstep
    cbv
    repeat' (first
      | (refine Ar.nn_ hA (by omega) ?_; cbv)
      | (refine Ar.toN_ hA (fun j hj => ?_); cbv)
      | (refine Ar.idx_ hA (x := i64 a) (by rw [show j = 0 by omega]; exact ga) ?_; cbv)
      | (refine Ar.idx_ hA (x := i64 b) (by rw [show j = 1 by omega]; exact gb) ?_; cbv)
      | (refine Ar.idx_ hA (x := i64 c) (by rw [show j = 2 by omega]; exact gc) ?_; cbv))
    refine Ar.app_ hA (fun o2 ho2 => ?_)
    cbv
    refine Ar.fitsL_ hA (by rw [ho2, List.length_append]; simp only [List.length_singleton]; omega) ?_
    cbv
    exact hK _ _ (by rw [ho2, ← g6]) rfl

end Go.VAI
