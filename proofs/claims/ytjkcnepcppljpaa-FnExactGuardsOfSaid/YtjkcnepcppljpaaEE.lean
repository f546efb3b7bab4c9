/- The triangles of the program. -/
import Derived.Test.YtjkcnepcppljpaaED
import Derived.Test.YtjkcnepcppljpaaEC
namespace Go.VAI
open Go.Proofs
set_option maxRecDepth 100000
set_option maxHeartbeats 8000000

def cutR (l : List P2) : List T3 := cutL l (sgn (area2 l)) (l.length - 3) (List.range l.length)

theorem Ar.callP_ {P : Program} {A : Ar} (hA : stdA P = A) {f : FuncId} {ps ps' : List PV} {K : RS → List PV → Prop} {rs : RS} {outs : List PV} (hc : Callable P f) (h : Does P f ps rs outs) (hp : stdA P = A → ps' = ps) (hK : K rs outs) : A.call f ps' K :=
  Ar.call_ hA hc h (hp hA) hK
theorem Ar.callPT_ {P : Program} {A : Ar} (hA : stdA P = A) {f : FuncId} {ps ps' : List PV} {K : RS → List PV → Prop} {b : Bool} (hc : Callable P f) (h : Does P f ps (.pv (.val (.bool b))) []) (hp : stdA P = A → ps' = ps) (h1 : b = true → K (.pv (.val (.bool true))) []) (h2 : b = false → K (.pv (.val (.bool false))) []) : A.call f ps' K :=
  Ar.callT hA hc h (hp hA) h1 h2

theorem three {left : List Nat} (h : left.length = 3) {a b c : Int} (ha : 0 ≤ a ∧ a.toNat = cor left 0) (hb : 0 ≤ b ∧ b.toNat = cor left 1) (hc : 0 ≤ c ∧ c.toNat = cor left 2) (l : List P2) (s : Int) : (cutL l s (left.length - 3) left).map T3.pv = [tri a b c] := by
  rw [h]
  show [tri (cor left 0 : Int) (cor left 1 : Int) (cor left 2 : Int)] = _
  rw [← ha.2, ← hb.2, ← hc.2, Int.toNat_of_nonneg ha.1, Int.toNat_of_nonneg hb.1, Int.toNat_of_nonneg hc.1]
theorem triK_pv {left : List Nat} {k : Nat} {a b c : Int} (ha : 0 ≤ a ∧ a.toNat = cor left (k + left.length - 1)) (hb : 0 ≤ b ∧ b.toNat = cor left k) (hc : 0 ≤ c ∧ c.toNat = cor left (k + 1)) : (triK left k).pv = tri a b c := by
  show tri (cor left (k + left.length - 1) : Int) (cor left k : Int) (cor left (k + 1) : Int) = _
  rw [← ha.2, ← hb.2, ← hc.2, Int.toNat_of_nonneg ha.1, Int.toNat_of_nonneg hb.1, Int.toNat_of_nonneg hc.1]

theorem c_impl_triangles : Callable Try.prog 38 := ⟨_, Try.func38, rfl, by kernel_rfl⟩
theorem d_impl_triangles {es : List PV} {l : List P2} (hes : es = l.map P2.pv) (hgal : galF l = true) : Does Try.prog 38 [.sl es] (.tup [.row ((cutR l).map T3.pv) 3 .free, .pv (bl true)]) [] := by
  refine does_of hT hM Try.func38 rfl (D := []) (by kernel_rfl) rfl rfl rfl (fun A K hA hK => ?_)
  have hlen : es.length = l.length := by simp [hes]
  have hway : isWayF l = true := by unfold galF at hgal; rw [Bool.and_eq_true] at hgal; exact hgal.1
  have hsim : simpleF l = true := by unfold galF at hgal; rw [Bool.and_eq_true] at hgal; exact hgal.2
  obtain ⟨c1, c2, hok⟩ := isWayF_iff.1 hway
  obtain ⟨hgood, hst⟩ := good_start c1 hsim
  have da := d_impl_areaTwice hes (by omega) c2 hok
  have dc := d_impl_corners hes c2
  obtain ⟨tot, htot⟩ : ∃ tot, tot = (cutR l).map T3.pv := ⟨_, rfl⟩
  rw [← htot] at hK
  unfold cutR at htot
  have hrl : (List.range l.length).length = l.length := List.length_range
  generalize hR : List.range l.length = R at dc hgood htot hrl
  rw [← hrl] at htot
  obtain ⟨fs, hfs⟩ : ∃ fs, fs = R.map nI := ⟨_, rfl⟩
  rw [← hfs] at dc
  obtain ⟨ar, har⟩ : ∃ a, a = area2 l := ⟨_, rfl⟩
  rw [← har] at da hst hgood htot
  clear har hR
  cbv
  refine Ar.call_ hA c_impl_areaTwice da rfl ?_
  cbv
  refine Ar.callI hA c_impl_signOf d_impl_signOf rfl (fun turn hturn => ?_)
  rw [← hturn] at hst hgood htot
  clear hturn da
  cbv
  refine Ar.call_ hA c_impl_corners dc rfl ?_
  cbv
  refine Ar.loop_ hA (α := List Nat × Slot × List PV × List PV) (fun x => x.1.length)
    (fun (left, s5, r, out) => GoodLeft l left turn ∧ left.length ≤ 12 ∧ 3 ≤ left.length ∧ out.length + left.length ≤ 12 ∧ (s5 = .own 12 none ∧ r = left.map nI ∨ ∃ m junk, m = left.length ∧ s5 = .own 12 (some (0, m)) ∧ r = left.map nI ++ junk) ∧ out ++ (cutL l turn (left.length - 3) left).map T3.pv = tot)
    59 (fun (_, s5, _, _) => [(0, .pv (.sl es) []), (4, .pv (i64 turn) []), (5, s5), (6, .own 13 none)]) (fun (_, _, r, out) => [(12, some (.row r 1 .free false)), (13, some (.row out 3 .free false))]) (R, .own 12 none, fs, []) (by refine ⟨?_, ⟨?_, ?_, ?_, ?_, trivial⟩, ?_, ?_, trivial⟩ <;> cbv) ⟨hgood, by omega, by omega, by simp; omega, .inl ⟨rfl, hfs⟩, by rw [htot]; rfl⟩ ?_
  intro ⟨left, s5, r, out⟩ s f ⟨g1, g2, g3, g4, g5, g6⟩
  clear dc hgood htot hfs hrl
  obtain ⟨k0, hk0, he0⟩ := good_ear g1
  have hstep := fun k hk he hf h4 => cutL_step (k := k) g1 h4 hk he hf
  rcases g5 with ⟨rfl, hr⟩ | ⟨m, junk, hm, rfl, hr⟩
  · have hrl : r.length = left.length := by rw [hr]; simp
    cbv
    refine Ar.len_ hA (fun n hn hn' => ?_)
    cbv
    refine Ar.gtr_ hA (fun h => ?_) (fun h => ?_)
    · cbv
      refine Ar.loop_ hA (α := Int) (fun k => (n - k).toNat) (fun k => 0 ≤ k ∧ k ≤ n ∧ ∀ j, j < k.toNat → earF l left turn j = false) 59 (fun k => [(0, .pv (.sl es) []), (4, .pv (i64 turn) []), (5, .own 12 none), (6, .own 13 none), (7, .pv (i64 k) [])]) (fun _ => [(12, some (.row r 1 .free false)), (13, some (.row out 3 .free false))]) 0 (by refine ⟨?_, ⟨?_, ?_, ?_, ?_, ?_, trivial⟩, ?_, ?_, trivial⟩ <;> cbv) ⟨by omega, by omega, fun j hj => by simp at hj⟩ ?_
      intro k s f ⟨i1, i2, i3⟩
      cbv
      refine Ar.len_ hA (fun n2 hn2 hn2' => ?_)
      cbv
      refine Ar.lss_ hA (fun hk => ?_) (fun hk => ?_)
      rotate_left
      · exact absurd (i3 k0 (by omega)) (by rw [he0]; simp)
      have hkl : k.toNat < left.length := by omega
      obtain ⟨a, ax, ay, ha⟩ := at3 hok (by omega) g1.lt (k.toNat + left.length - 1)
      obtain ⟨b, bx, b_y, hb⟩ := at3 hok (by omega) g1.lt k.toNat
      obtain ⟨c, cx, cy, hc⟩ := at3 hok (by omega) g1.lt (k.toNat + 1)
      have de := d_impl_isEar (turn := turn) hes hr hok (by omega) g2 g1.lt ⟨i1, hkl⟩ (by omega) ha hb hc
      have dt := d_impl_triAt (a := a) (b := b) (c := c) hr (by omega) g2 ⟨i1, hkl⟩ ⟨ha.nn, ha.eq⟩ ⟨hb.nn, hb.eq⟩ ⟨hc.nn, hc.eq⟩
      have dd := fun j hj => d_slices_Delete_int_int (i := k) (j := j) hr g2 ⟨i1, hkl⟩ hj
      have htp := triK_pv ⟨ha.nn, ha.eq⟩ ⟨hb.nn, hb.eq⟩ ⟨hc.nn, hc.eq⟩
      have hnx := fun he => hstep k.toNat hkl he i3 (by omega)
      clear hstep
      cbv
      refine Ar.callT hA c_impl_isEar de rfl (fun he => ?_) (fun he => ?_)
      · obtain ⟨q1, q2, q3⟩ := hnx he
        obtain ⟨N, hN⟩ : ∃ N, N = (left.eraseIdx k.toNat ++ [0]).map nI := ⟨_, rfl⟩
        rw [← hN] at dd
        cbv
        refine Ar.notT_ hA ?_
        cbv
        refine Ar.len_ hA (fun n3 hn3 hn3' => ?_)
        cbv
        refine Ar.eql_ hA (fun e => absurd e (by omega)) (fun _ => ?_)
        cbv
        refine Ar.call_ hA c_impl_triAt dt rfl ?_
        cbv
        refine Ar.app_ hA (fun o2 ho2 => ?_)
        cbv
        refine Ar.fitsL_ hA (by rw [ho2, List.length_append]; simp only [List.length_singleton]; omega) ?_
        cbv
        refine Ar.add_ hA (by omega) (fun k1 hk1 => ?_)
        cbv
        refine Ar.call_ hA c_slices_Delete_int_int (dd _ hk1) rfl ?_
        cbv
        refine ⟨(left.eraseIdx k.toNat, .own 12 (some (0, left.length - 1)), N, o2), (by show (left.eraseIdx k.toNat).length < left.length; omega), ⟨q2, by omega, by omega, by rw [ho2]; simp; omega, .inr ⟨left.length - 1, [nI 0], by omega, rfl, by rw [hN, List.map_append]; rfl⟩, ?_⟩, (by refine ⟨?_, ⟨?_, ?_, ?_, ?_, trivial⟩, ?_, ?_, trivial⟩ <;> cbv)⟩
        rw [ho2, ← g6, q1, List.map_cons, htp, List.append_assoc]; rfl
      · cbv
        refine Ar.notF_ hA ?_
        cbv
        refine Ar.add_ hA (by omega) (fun k1 hk1 => ?_)
        cbv
        refine ⟨k1, (by show (n - k1).toNat < (n - k).toNat; omega), ⟨by omega, by omega, fun j hj => ?_⟩, (by refine ⟨?_, ⟨?_, ?_, ?_, ?_, ?_, trivial⟩, ?_, ?_, trivial⟩ <;> cbv)⟩
        by_cases e : j = k.toNat
        · rw [e]; exact he
        · exact i3 j (by omega)
    · have h3 : left.length = 3 := by omega
      obtain ⟨a, ha⟩ := cor_int left 0
      obtain ⟨b, hb⟩ := cor_int left 1
      obtain ⟨c, hc⟩ := cor_int left 2
      have ga := nI_get (j := 0) hr (by omega) (by rw [h3]) ha
      have gb := nI_get (j := 1) hr (by omega) (by rw [h3]) hb
      have gc := nI_get (j := 2) hr (by omega) (by rw [h3]) hc
      rw [three h3 ha hb hc] at g6
      clear hstep
      cbv
      repeat' (first
        | (refine Ar.nn_ hA (by omega) ?_; cbv)
        | (refine Ar.toN_ hA (fun j hj => ?_); cbv)
        | (refine Ar.idx_ hA (x := i64 a) (by rw [show j = 0 by omega]; exact ga) ?_; cbv)
        | (refine Ar.idx_ hA (x := i64 b) (by rw [show j = 1 by omega]; exact gb) ?_; cbv)
        | (refine Ar.idx_ hA (x := i64 c) (by rw [show j = 2 by omega]; exact gc) ?_; cbv))
      refine Ar.app_ hA (fun o2 ho2 => ?_)
      cbv
      refine Ar.fitsL_ hA (by rw [ho2, List.length_append]; simp only [List.length_singleton]; omega) ?_
      cbv
      exact hK _ _ (by rw [ho2, ← g6]) rfl
  · obtain ⟨fs, hfs⟩ : ∃ fs, fs = left.map nI := ⟨_, rfl⟩
    have hrl : r.length = left.length + junk.length := by rw [hr]; simp
    have hsb : (r.drop 0).take m = fs := by rw [List.drop_zero, hr, hm, List.take_append_of_le_length (by simp), List.take_of_length_le (by simp), hfs]
    have hsub : A.sub r 0 m = fs := by subst hA; exact hsb
    have hget : ∀ j, j < left.length → r[j]? = fs[j]? := fun j hj => by rw [hr, hfs, List.getElem?_append_left (by simpa using hj)]
    cbv
    refine Ar.ofN_ hA (fun n hn hn' => ?_)
    cbv
    refine Ar.gtr_ hA (fun h => ?_) (fun h => ?_)
    · cbv
      refine Ar.loop_ hA (α := Int) (fun k => (n - k).toNat) (fun k => 0 ≤ k ∧ k ≤ n ∧ ∀ j, j < k.toNat → earF l left turn j = false) 59 (fun k => [(0, .pv (.sl es) []), (4, .pv (i64 turn) []), (5, .own 12 (some (0, m))), (6, .own 13 none), (7, .pv (i64 k) [])]) (fun _ => [(12, some (.row r 1 .free false)), (13, some (.row out 3 .free false))]) 0 (by refine ⟨?_, ⟨?_, ?_, ?_, ?_, ?_, trivial⟩, ?_, ?_, trivial⟩ <;> cbv) ⟨by omega, by omega, fun j hj => by simp at hj⟩ ?_
      intro k s f ⟨i1, i2, i3⟩
      cbv
      refine Ar.ofN_ hA (fun n2 hn2 hn2' => ?_)
      cbv
      refine Ar.lss_ hA (fun hk => ?_) (fun hk => ?_)
      rotate_left
      · exact absurd (i3 k0 (by omega)) (by rw [he0]; simp)
      have hkl : k.toNat < left.length := by omega
      obtain ⟨a, ax, ay, ha⟩ := at3 hok (by omega) g1.lt (k.toNat + left.length - 1)
      obtain ⟨b, bx, b_y, hb⟩ := at3 hok (by omega) g1.lt k.toNat
      obtain ⟨c, cx, cy, hc⟩ := at3 hok (by omega) g1.lt (k.toNat + 1)
      have de := d_impl_isEar (turn := turn) hes hfs hok (by omega) g2 g1.lt ⟨i1, hkl⟩ (by omega) ha hb hc
      have dt := d_impl_triAt (a := a) (b := b) (c := c) hfs (by omega) g2 ⟨i1, hkl⟩ ⟨ha.nn, ha.eq⟩ ⟨hb.nn, hb.eq⟩ ⟨hc.nn, hc.eq⟩
      have dd := fun j hj => d_slices_Delete_int_int (i := k) (j := j) hfs g2 ⟨i1, hkl⟩ hj
      have htp := triK_pv ⟨ha.nn, ha.eq⟩ ⟨hb.nn, hb.eq⟩ ⟨hc.nn, hc.eq⟩
      have hnx := fun he => hstep k.toNat hkl he i3 (by omega)
      clear hstep
      cbv
      refine Ar.callT hA c_impl_isEar de (congrArg (fun x => [PV.sl es, PV.sl x, i64 k, i64 turn]) hsub) (fun he => ?_) (fun he => ?_)
      · obtain ⟨q1, q2, q3⟩ := hnx he
        obtain ⟨N, hN⟩ : ∃ N, N = (left.eraseIdx k.toNat ++ [0]).map nI := ⟨_, rfl⟩
        rw [← hN] at dd
        cbv
        refine Ar.notT_ hA ?_
        cbv
        refine Ar.ofN_ hA (fun n3 hn3 hn3' => ?_)
        cbv
        refine Ar.eql_ hA (fun e => absurd e (by omega)) (fun _ => ?_)
        cbv
        refine Ar.call_ hA c_impl_triAt dt (congrArg (fun x => [PV.sl x, i64 k]) hsub) ?_
        cbv
        refine Ar.app_ hA (fun o2 ho2 => ?_)
        cbv
        refine Ar.fitsL_ hA (by rw [ho2, List.length_append]; simp only [List.length_singleton]; omega) ?_
        cbv
        refine Ar.add_ hA (by omega) (fun k1 hk1 => ?_)
        cbv
        refine Ar.sl_ hA (fun r2 hr2 => ?_)
        rw [hsb] at hr2
        cbv
        refine Ar.call_ hA c_slices_Delete_int_int (dd _ hk1) (by rw [hr2]) ?_
        cbv
        refine ⟨(left.eraseIdx k.toNat, .own 12 (some (0, left.length - 1)), N, o2), (by show (left.eraseIdx k.toNat).length < left.length; omega), ⟨q2, by omega, by omega, by rw [ho2]; simp; omega, .inr ⟨left.length - 1, [nI 0], by omega, rfl, by rw [hN, List.map_append]; rfl⟩, ?_⟩, (by refine ⟨?_, ⟨?_, ?_, ?_, ?_, trivial⟩, ?_, ?_, trivial⟩ <;> cbv)⟩
        rw [ho2, ← g6, q1, List.map_cons, htp, List.append_assoc]; rfl
      · cbv
        refine Ar.notF_ hA ?_
        cbv
        refine Ar.add_ hA (by omega) (fun k1 hk1 => ?_)
        cbv
        refine ⟨k1, (by show (n - k1).toNat < (n - k).toNat; omega), ⟨by omega, by omega, fun j hj => ?_⟩, (by refine ⟨?_, ⟨?_, ?_, ?_, ?_, ?_, trivial⟩, ?_, ?_, trivial⟩ <;> cbv)⟩
        by_cases e : j = k.toNat
        · rw [e]; exact he
        · exact i3 j (by omega)
    · have h3 : left.length = 3 := by omega
      obtain ⟨a, ha⟩ := cor_int left 0
      obtain ⟨b, hb⟩ := cor_int left 1
      obtain ⟨c, hc⟩ := cor_int left 2
      have ga := nI_get (j := 0) hfs (by omega) (by rw [h3]) ha
      have gb := nI_get (j := 1) hfs (by omega) (by rw [h3]) hb
      have gc := nI_get (j := 2) hfs (by omega) (by rw [h3]) hc
      rw [three h3 ha hb hc] at g6
      have gra := (hget 0 (by omega)).trans ga
      have grb := (hget 1 (by omega)).trans gb
      have grc := (hget 2 (by omega)).trans gc
      rw [← hsb] at ga gb gc
      clear hstep
      cbv
      repeat' (first
        | (refine Ar.nn_ hA (by omega) ?_; cbv)
        | (refine Ar.toN_ hA (fun j hj => ?_); cbv)
        | (refine Ar.addN_ hA (fun j hj => ?_); cbv)
        | (refine Ar.idxS_ hA (x := i64 a) (by rw [show j = 0 by omega]; exact ga) ?_; cbv)
        | (refine Ar.idxS_ hA (x := i64 b) (by rw [show j = 1 by omega]; exact gb) ?_; cbv)
        | (refine Ar.idxS_ hA (x := i64 c) (by rw [show j = 2 by omega]; exact gc) ?_; cbv)
        | (refine Ar.idx_ hA (x := i64 a) (by rw [show j = 0 by omega]; exact gra) ?_; cbv)
        | (refine Ar.idx_ hA (x := i64 b) (by rw [show j = 1 by omega]; exact grb) ?_; cbv)
        | (refine Ar.idx_ hA (x := i64 c) (by rw [show j = 2 by omega]; exact grc) ?_; cbv))
      refine Ar.app_ hA (fun o2 ho2 => ?_)
      cbv
      refine Ar.fitsL_ hA (by rw [ho2, List.length_append]; simp only [List.length_singleton]; omega) ?_
      cbv
      exact hK _ _ (by rw [ho2, ← g6]) rfl

end Go.VAI
