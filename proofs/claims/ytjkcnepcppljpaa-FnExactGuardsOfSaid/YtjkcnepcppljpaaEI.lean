/- ColourThree of the program. -/
import Derived.Test.YtjkcnepcppljpaaEH
namespace Go.VAI
open Go.Proofs
set_option maxRecDepth 100000
set_option maxHeartbeats 8000000

theorem c_impl_ColourThree : Callable Try.prog 22 := ⟨_, Try.func22, rfl, by kernel_rfl⟩
theorem d_impl_ColourThree {es : List PV} {l : List P2} (hes : es = l.map P2.pv) (hb : l.length ≤ 1048576) : Does Try.prog 22 [.sl es] (.tup [.row ((colR l).map i64) 1 .free, .pv (bl (galF l))]) [] := by
  refine does_of hT hM Try.func22 rfl (D := [(6, [0, 1, 2, 3, 4, 5, 7, 8, 9, 10, 11, 13, 14, 15, 16, 17, 18])]) (by kernel_rfl) rfl rfl rfl (fun A K hA hK => ?_)
  have hlen : es.length = l.length := by simp [hes]
  have dT := d_impl_Triangulate hes hb
  cases hgal : galF l with
  | false =>
    rw [hgal] at hK
    rw [hgal, cutT, hgal] at dT
    have hK2 : K (.tup [.row [] 1 .free, .pv (bl false)]) [] := hK _ _ (by rw [colR, hgal]; rfl) rfl
    clear hK
    cbv
    refine Ar.call_ hA c_impl_Triangulate dT rfl ?_
    cbv
    refine Ar.notF_ hA ?_
    cbv
    exact hK2
  | true =>
  have hway : isWayF l = true := by unfold galF at hgal; rw [Bool.and_eq_true] at hgal; exact hgal.1
  obtain ⟨c1, c2, hok⟩ := isWayF_iff.1 hway
  have hin := cutR_in c1
  have htl := cutR_len c1
  rw [hgal, cutT, hgal, if_pos rfl] at dT
  rw [hgal, colR, hgal, if_pos rfl] at hK
  generalize cutR l = t at dT hin htl hK
  obtain ⟨ts, hts⟩ : ∃ ts, ts = t.map T3.pv := ⟨_, rfl⟩
  rw [← hts] at dT
  have htsl : ts.length = t.length := by rw [hts]; simp
  have hfin := fun o' (h : o' = colL l.length t) r (hr : r = o'.map i64) => hK (.tup [.row r 1 .free, .pv (bl true)]) [] (by rw [hr, h]) rfl
  clear hK
  cbv
  refine Ar.call_ hA c_impl_Triangulate dT rfl ?_
  cbv
  refine Ar.notT_ hA ?_
  cbv
  refine Ar.len_ hA (fun n hn hn' => ?_)
  cbv
  refine Ar.nn_ hA hn ?_
  cbv
  refine Ar.toN_ hA (fun m hm => ?_)
  cbv
  refine Ar.fits_ hA (by omega) ?_
  cbv
  refine Ar.rep_ hA (fun r0 hr0 => ?_)
  cbv
  refine Ar.len_ hA (fun k hk hk' => ?_)
  cbv
  refine Ar.sub_ hA (by omega) (fun k1 hk1 => ?_)
  obtain ⟨⟨ta, tb, tc⟩, ht⟩ : ∃ p, t[k1.toNat]? = some p := ⟨t[k1.toNat]'(by omega), List.getElem?_eq_getElem _⟩
  have et : ts[k1.toNat]? = some (tri ta tb tc) := by rw [hts, List.getElem?_map, ht]; rfl
  obtain ⟨⟨a1, a2⟩, ⟨b1, b2⟩, ⟨d1, d2⟩⟩ := hin _ (List.mem_of_getElem? ht)
  simp only at a1 a2 b1 b2 d1 d2
  have h0 : r0 = (List.replicate l.length (0 : Int)).map i64 := by rw [hr0, List.map_replicate, show m = l.length by omega]
  have hr0l : r0.length = l.length := by rw [h0]; simp
  have ga : ∀ j, j < l.length → r0[j]? = some (i64 0) := fun j hj => by rw [h0, List.getElem?_map, List.getElem?_replicate, if_pos hj]; rfl
  have gz : r0.set ta.toNat (i64 0) = r0 := by
    apply List.ext_getElem?
    intro j
    rw [List.getElem?_set]
    split
    · rename_i e
      subst e
      rw [if_pos (by omega), ga _ a2]
    · rfl
  apply share'
  case k =>
    intro hB
    cbv
    repeat' (first
      | apply And.intro
      | (refine Ar.nn_ hA (by omega) ?_; cbv)
      | (refine Ar.toN_ hA (fun j hj => ?_); cbv)
      | (refine Ar.idx_ hA (x := tri ta tb tc) (by rw [show j = k1.toNat by omega]; exact et) ?_; cbv)
      | (refine Ar.idx_ hA (x := i64 0) (by rw [show j = ta.toNat by omega]; exact ga _ a2) ?_; cbv))
    all_goals
      refine Ar.set_ hA (fun rz hrz => ?_)
      obtain rfl : r0 = rz := by rw [hrz]; exact (Eq.trans (by congr 1 <;> omega) gz).symm
      clear hrz
      cbv
      repeat' (first
        | apply And.intro
        | (refine Ar.nn_ hA (by omega) ?_; cbv)
        | (refine Ar.toN_ hA (fun j hj => ?_); cbv)
        | (refine Ar.idx_ hA (x := i64 0) (by rw [show j = tb.toNat by omega]; exact ga _ b2) ?_; cbv))
    all_goals
      refine Ar.set_ hA (fun r1 hr1 => ?_)
      have hr1' : r1 = ((List.replicate l.length (0 : Int)).set tb.toNat 1).map i64 := col_set h0 (by rw [hr1]; congr 1 <;> omega)
      have hr1l : r1.length = l.length := by rw [hr1']; simp
      obtain ⟨y2, hy2⟩ : ∃ y : Int, r1[tc.toNat]? = some (i64 y) := by
        obtain ⟨z, hz⟩ : ∃ z, ((List.replicate l.length (0 : Int)).set tb.toNat 1)[tc.toNat]? = some z := ⟨_, List.getElem?_eq_getElem (by simpa using d2)⟩
        exact ⟨z, by rw [hr1', List.getElem?_map, hz]; rfl⟩
      clear hr1
      cbv
      repeat' (first
        | apply And.intro
        | (refine Ar.nn_ hA (by omega) ?_; cbv)
        | (refine Ar.toN_ hA (fun j hj => ?_); cbv)
        | (refine Ar.idx_ hA (x := i64 y2) (by rw [show j = tc.toNat by omega]; exact hy2) ?_; cbv))
    all_goals
      refine Ar.set_ hA (fun r2 hr2 => ?_)
      obtain ⟨o2, ho2⟩ : ∃ o, o = ((List.replicate l.length (0 : Int)).set tb.toNat 1).set tc.toNat 2 := ⟨_, rfl⟩
      have hr2' : r2 = o2.map i64 := by rw [ho2]; exact col_set hr1' (by rw [hr2]; congr 1 <;> omega)
      have ho2c : o2 = colL l.length (t.drop k1.toNat) := by
        obtain ⟨q1, q2⟩ := List.getElem?_eq_some_iff.1 ht
        rw [List.drop_eq_getElem_cons q1, q2, List.drop_eq_nil_of_le (by omega)]
        exact ho2
      have hb2 : Bnd o2 (kB 0) := by
        rw [ho2]
        exact ((Bnd.zeros _).set (k' := 2) (by omega) (by omega)).set (k' := kB 0) (by decide) (by decide)
      clear hr2 ho2 hr1' hy2
      cbv
      refine Ar.sub_ hA (by omega) (fun i0 hi0 => ?_)
      cbv
      refine Ar.loop_ hA (α := Int × List PV × List Int) (fun x => (x.1 + 1).toNat) (fun (i, r, o) => -1 ≤ i ∧ i + 2 ≤ k ∧ r = o.map i64 ∧ o = colL l.length (t.drop (i + 1).toNat) ∧ Bnd o (kB (k - 2 - i).toNat)) 75 (fun (i, r, o) => [(4, .own 11 none), (6, .own 18 none), (8, .pv (i64 i) [])]) (fun (i, r, o) => [(11, some (.row ts 3 .free false)), (18, some (.row r 1 .free false))]) (i0, r2, o2) (by refine ⟨?_, ⟨?_, ?_, ?_, trivial⟩, ?_, ?_, trivial⟩ <;> cbv) ⟨by omega, by omega, hr2', by rw [show (i0 + 1).toNat = k1.toNat by omega]; exact ho2c, by rw [show (k - 2 - i0).toNat = 0 by omega]; exact hb2⟩ hB.it
  intro ⟨i, r, o⟩ s f ⟨h1, h2, h3, h4, h5⟩
  have hol : o.length = l.length := by rw [h4, colL_len]
  have hrl : r.length = l.length := by rw [h3]; simp [hol]
  cbv
  refine Ar.geq_ hA (fun h => ?_) (fun h => ?_)
  · obtain ⟨⟨ua, ub, uc⟩, hu⟩ : ∃ p, t[i.toNat]? = some p := ⟨t[i.toNat]'(by omega), List.getElem?_eq_getElem _⟩
    have eu : ts[i.toNat]? = some (tri ua ub uc) := by rw [hts, List.getElem?_map, hu]; rfl
    obtain ⟨⟨a1, a2⟩, ⟨b1, b2⟩, ⟨d1, d2⟩⟩ := hin _ (List.mem_of_getElem? hu)
    simp only at a1 a2 b1 b2 d1 d2
    obtain ⟨x, hx⟩ : ∃ z, o[ua.toNat]? = some z := ⟨_, List.getElem?_eq_getElem (by omega)⟩
    obtain ⟨z, hz⟩ : ∃ z, o[uc.toNat]? = some z := ⟨_, List.getElem?_eq_getElem (by omega)⟩
    obtain ⟨v, hv⟩ : ∃ z, o[ub.toNat]? = some z := ⟨_, List.getElem?_eq_getElem (by omega)⟩
    have rx : r[ua.toNat]? = some (i64 x) := by rw [h3, List.getElem?_map, hx]; rfl
    have rz : r[uc.toNat]? = some (i64 z) := by rw [h3, List.getElem?_map, hz]; rfl
    have rv : r[ub.toNat]? = some (i64 v) := by rw [h3, List.getElem?_map, hv]; rfl
    have bx := h5 _ _ hx
    have bz := h5 _ _ hz
    have kr := kB_range (k - 2 - i).toNat (by omega)
    have ks := kB_step (k - 2 - i).toNat (by omega)
    have hst := colL_step (n := l.length) hu (by omega)
    rw [show i.toNat + 1 = (i + 1).toNat by omega, ← h4] at hst
    unfold colStep at hst
    rw [hx, hz] at hst
    simp only [Option.getD_some] at hst
    have hbn : Bnd (o.set ub.toNat (3 - x - z)) (kB ((k - 2 - i).toNat + 1)) := h5.set (by omega) (by omega)
    generalize kB (k - 2 - i).toNat = kb at bx bz kr
    clear ks hx hz hv
    cbv
    repeat' (first
      | (refine Ar.nn_ hA (by omega) ?_; cbv)
      | (refine Ar.toN_ hA (fun j hj => ?_); cbv)
      | (refine Ar.sub_ hA (by omega) (fun j hj => ?_); cbv)
      | (refine Ar.idx_ hA (x := tri ua ub uc) (by rw [show j = i.toNat by omega]; exact eu) ?_; cbv)
      | (refine Ar.idx_ hA (x := i64 x) (by rw [show j = ua.toNat by omega]; exact rx) ?_; cbv)
      | (refine Ar.idx_ hA (x := i64 z) (by rw [show j = uc.toNat by omega]; exact rz) ?_; cbv)
      | (refine Ar.idx_ hA (x := i64 v) (by rw [show j = ub.toNat by omega]; exact rv) ?_; cbv)
      | (refine Ar.set_ hA (fun r' hr' => ?_); cbv))
    have er' : r' = (o.set ub.toNat (3 - x - z)).map i64 := col_set h3 (by rw [hr']; congr 1 <;> (try congr 2) <;> omega)
    refine ⟨(j, r', o.set ub.toNat (3 - x - z)), (by show (j + 1).toNat < (i + 1).toNat; omega), ⟨by omega, by omega, er', by rw [show (j + 1).toNat = i.toNat by omega, hst], by rw [show (k - 2 - j).toNat = (k - 2 - i).toNat + 1 by omega]; exact hbn⟩, (by refine ⟨?_, ⟨?_, ?_, ?_, trivial⟩, ?_, ?_, trivial⟩ <;> cbv)⟩
  · have hf := hfin o (by rw [h4, show (i + 1).toNat = 0 by omega, List.drop_zero]) r h3
    cbv
    exact hf


theorem c_spec_ColourThree : Callable Try.prog 21 := ⟨_, Try.func21, rfl, by kernel_rfl⟩
theorem d_spec_ColourThree {es : List PV} {l : List P2} (hes : es = l.map P2.pv) (hb : l.length ≤ 1048576) : Does Try.prog 21 [.sl es] (.tup [.row ((colR l).map i64) 1 .free, .pv (bl (galF l))]) [] := by
  refine does_of hT hM Try.func21 rfl (D := []) (by kernel_rfl) rfl rfl rfl (fun A K hA hK => ?_)
  cbv
  refine Ar.callT hA c_spec_l11Simple (d_spec_l11Simple hes hb) rfl (fun hc => ?_) (fun hc => ?_)
  · have dc := d_spec_l11Colour hes hc
    have hK2 : ∀ r, r = (colL l.length (cutR l)).map i64 → K (.tup [.row r 1 .free, .pv (bl true)]) [] := fun r h => hK _ _ (by rw [hc, colR, hc, h]; rfl) rfl
    obtain ⟨R, hR⟩ : ∃ R, R = (colL l.length (cutR l)).map i64 := ⟨_, rfl⟩
    rw [← hR] at dc hK2
    clear hK
    cbv
    refine Ar.notT_ hA ?_
    cbv
    refine Ar.call_ hA c_spec_l11Colour dc rfl ?_
    cbv
    exact hK2 _ rfl
  · cbv
    refine Ar.notF_ hA ?_
    cbv
    exact hK _ _ (by simp [colR, hc]) rfl

theorem c_laws_FnExactColourThree : Callable Try.prog 5 := ⟨_, Try.func5, rfl, by kernel_rfl⟩
theorem d_laws_FnExactColourThree {es : List PV} {l : List P2} (hes : es = l.map P2.pv ∧ l.length ≤ 9223372036854775807) : Does Try.prog 5 [.sl es] (.pv (bl true)) [] := by
  refine does_of hT hM Try.func5 rfl (D := []) (by kernel_rfl) rfl rfl rfl (fun A K hA hK => ?_)
  obtain ⟨hes, hmax⟩ := hes
  have hlen : es.length = l.length := by simp [hes]
  cbv
  refine Ar.callI hA c_laws_szPtS (d_laws_szPtS (by omega) (by omega)) rfl (fun r hr => ?_)
  cbv
  refine Ar.lss_ hA (fun h => ?_) (fun h => ?_)
  · cbv
    exact hK _ _ rfl rfl
  have hb : l.length ≤ 1048576 := by have := szF_le hr h; omega
  have dS := d_spec_ColourThree hes hb
  have dI := d_impl_ColourThree hes hb
  have hcl := colR_len (l := l)
  generalize colR l = C at dS dI hcl
  generalize galF l = G at dS dI
  obtain ⟨E, hE⟩ : ∃ E, E = C.map i64 := ⟨_, rfl⟩
  rw [← hE] at dS dI
  obtain ⟨M, hM⟩ : ∃ M, M = (up2 l.length 1).map P2.pv := ⟨_, rfl⟩
  obtain ⟨N, hN⟩ : ∃ N, N = (countUp C.length 1).map i64 := ⟨_, rfl⟩
  have m1 := d_laws_markPtS (k := 1) hes hb (by omega)
  have m2 := d_laws_markIntS (k := 1) hE (by omega) (by omega)
  have m3 := d_laws_heldIntS (k := 1) hN (by omega) (by omega)
  have e1 := d_laws_eqIntS hE hE (by omega)
  have e2 := d_laws_eqPtS hes hes hb
  rw [decide_eq_true rfl] at e1 e2
  rw [← hM] at m1
  rw [← hN] at m2
  obtain ⟨u, hu⟩ : ∃ u, u = on2 l.length 1 := ⟨_, rfl⟩
  obtain ⟨v, hv⟩ : ∃ v, v = onFrom C.length 1 := ⟨_, rfl⟩
  have hu0 := on2_pos hu (by omega)
  have hv0 := onFrom_pos hv (by omega)
  rw [← hu] at m1
  rw [← hv] at m2 m3
  clear hu hv hM hN hE
  cbv
  repeat' (first
    | (refine Ar.call_ hA c_laws_toPtS (d_laws_toPtS hes hb) rfl ?_; cbv)
    | (refine Ar.call_ hA c_spec_ColourThree dS rfl ?_; cbv)
    | (refine Ar.call_ hA c_impl_ColourThree dI rfl ?_; cbv)
    | (refine Ar.call_ hA c_laws_eqIntS e1 rfl ?_; cbv)
    | (refine Ar.call_ hA c_laws_eqPtS e2 rfl ?_; cbv)
    | (refine Ar.call_ hA c_laws_markPtS m1 rfl ?_; cbv)
    | (refine Ar.call_ hA c_laws_markIntS m2 rfl ?_; cbv)
    | (refine Ar.call_ hA c_laws_heldIntS m3 rfl ?_; cbv)
    | (refine Ar.notT_ hA ?_; cbv)
    | (refine Ar.bneq_ hA (fun h => absurd rfl h) (fun _ => ?_); cbv)
    | (refine Ar.neq_ hA (fun h => absurd rfl h) (fun _ => ?_); cbv)
    | (refine Ar.lss_ hA (fun h => absurd h (by omega)) (fun _ => ?_); cbv))
  exact hK _ _ rfl rfl

end Go.VAI
