/- ColourThree of both, and the law. -/
import Derived.Test.YtjkcnepcppljpaaEG
namespace Go.VAI
open Go.Proofs
set_option maxRecDepth 100000
set_option maxHeartbeats 8000000

def inN (n : Nat) (x : T3) : Prop := (0 ≤ x.a ∧ x.a.toNat < n) ∧ (0 ≤ x.b ∧ x.b.toNat < n) ∧ (0 ≤ x.c ∧ x.c.toNat < n)
theorem cutL_in {l : List P2} {s : Int} {n : Nat} : ∀ k left, (∀ i ∈ left, i < n) → 3 ≤ left.length → left.length = k + 3 → ∀ x ∈ cutL l s k left, inN n x
  | 0, left, h, h3, _, x, hx => by
    simp only [cutL, List.mem_singleton] at hx
    subst hx
    have c := fun i => h _ (cor_mem (by omega) i)
    have c0 := c 0
    have c1 := c 1
    have c2 := c 2
    exact ⟨⟨by simp, by simpa using c0⟩, ⟨by simp, by simpa using c1⟩, ⟨by simp, by simpa using c2⟩⟩
  | k + 1, left, h, h3, hk, x, hx => by
    simp only [cutL, List.mem_cons] at hx
    rcases hx with rfl | hx
    · have c := fun i => h _ (cor_mem (by omega) i)
      exact ⟨⟨by simp [triK], by simpa [triK] using c _⟩, ⟨by simp [triK], by simpa [triK] using c _⟩, ⟨by simp [triK], by simpa [triK] using c _⟩⟩
    · by_cases hf : firstEar l left s < left.length
      · have hl : (left.eraseIdx (firstEar l left s)).length = left.length - 1 := by rw [List.length_eraseIdx, if_pos hf]
        exact cutL_in k _ (fun i hi => h i ((List.eraseIdx_sublist _ _).mem hi)) (by omega) (by omega) x hx
      · exfalso
        apply hf
        unfold firstEar
        cases hfd : (List.range left.length).find? (earF l left s) with
        | none => simp; omega
        | some j => have := List.mem_of_find?_eq_some hfd; simpa using this
theorem cutR_in {l : List P2} (h : 3 ≤ l.length) : ∀ x ∈ cutR l, inN l.length x :=
  cutL_in _ _ (fun i hi => List.mem_range.1 hi) (by simpa using h) (by rw [List.length_range]; omega)
theorem cutR_len {l : List P2} (h : 3 ≤ l.length) : (cutR l).length = l.length - 2 := by unfold cutR; rw [cutL_len]; omega

def colStep (t : T3) (o : List Int) : List Int := o.set t.b.toNat (3 - (o[t.a.toNat]?).getD 0 - (o[t.c.toNat]?).getD 0)
def colL (n : Nat) : List T3 → List Int
  | [] => List.replicate n 0
  | [t] => ((List.replicate n 0).set t.b.toNat 1).set t.c.toNat 2
  | t :: u :: ts => colStep t (colL n (u :: ts))
theorem colL_len (n : Nat) : ∀ ts, (colL n ts).length = n
  | [] => by simp [colL]
  | [t] => by simp [colL]
  | t :: u :: ts => by
    show (colStep t (colL n (u :: ts))).length = n
    unfold colStep
    rw [List.length_set, colL_len n (u :: ts)]
theorem colL_step {n : Nat} {ts : List T3} {i : Nat} {t : T3} (h : ts[i]? = some t) (h2 : i + 1 < ts.length) : colL n (ts.drop i) = colStep t (colL n (ts.drop (i + 1))) := by
  obtain ⟨h3, h4⟩ := List.getElem?_eq_some_iff.1 h
  rw [List.drop_eq_getElem_cons h3, h4]
  obtain ⟨u, us, e⟩ : ∃ u us, ts.drop (i + 1) = u :: us := ⟨_, _, List.drop_eq_getElem_cons h2⟩
  rw [e]; rfl

/-- How great the numbers can get. -/
def kB (s : Nat) : Int := ([2, 7, 17, 37, 77, 157, 317, 637, 1277, 2557, 5117, 10237] : List Int).getD s 0
theorem kB_step : ∀ s, s < 11 → 2 * kB s + 3 = kB (s + 1) := by decide
theorem kB_range : ∀ s, s < 12 → 2 ≤ kB s ∧ kB s ≤ 10237 := by decide
def Bnd (o : List Int) (k : Int) : Prop := ∀ (j : Nat) (x : Int), o[j]? = some x → -k ≤ x ∧ x ≤ k
theorem Bnd.set {o : List Int} {k k' : Int} (h : Bnd o k) (hk : k ≤ k') {j : Nat} {v : Int} (hv : -k' ≤ v ∧ v ≤ k') : Bnd (o.set j v) k' := by
  intro i x hx
  rw [List.getElem?_set] at hx
  split at hx
  · split at hx
    · cases hx; exact hv
    · cases hx
  · have := h i x hx; omega
theorem Bnd.zeros (n : Nat) : Bnd (List.replicate n 0) 2 := by
  intro j x hx
  rw [List.getElem?_replicate] at hx
  split at hx
  · cases hx; omega
  · cases hx

theorem col_set {o : List Int} {r r' : List PV} {j : Nat} {v : Int} (hr : r = o.map i64) (h : r' = r.set j (i64 v)) : r' = (o.set j v).map i64 := by
  rw [h, hr, List.map_set]

def colR (l : List P2) : List Int := if galF l then colL l.length (cutR l) else []
theorem colR_len {l : List P2} : (colR l).length ≤ 12 := by
  unfold colR
  split
  · rename_i h
    have hway : isWayF l = true := by unfold galF at h; rw [Bool.and_eq_true] at h; exact h.1
    have := (isWayF_iff.1 hway).2.1
    rw [colL_len]; omega
  · simp

theorem c_spec_l11Colour : Callable Try.prog 40 := ⟨_, Try.func40, rfl, by kernel_rfl⟩
theorem d_spec_l11Colour {es : List PV} {l : List P2} (hes : es = l.map P2.pv) (hgal : galF l = true) : Does Try.prog 40 [.sl es] (.row ((colL l.length (cutR l)).map i64) 1 .free) [] := by
  refine does_of hT hM Try.func40 rfl (D := []) (by kernel_rfl) rfl rfl rfl (fun A K hA hK => ?_)
  have hlen : es.length = l.length := by simp [hes]
  have hway : isWayF l = true := by unfold galF at hgal; rw [Bool.and_eq_true] at hgal; exact hgal.1
  obtain ⟨c1, c2, hok⟩ := isWayF_iff.1 hway
  have dc := d_spec_l11Cut hes hgal
  have hin := cutR_in c1
  have htl := cutR_len c1
  generalize cutR l = t at dc hin htl hK
  obtain ⟨ts, hts⟩ : ∃ ts, ts = t.map T3.pv := ⟨_, rfl⟩
  rw [← hts] at dc
  have htsl : ts.length = t.length := by rw [hts]; simp
  have hfin := fun o' (h : o' = colL l.length t) r (hr : r = o'.map i64) => hK (.row r 1 .free) [] (by rw [hr, h]) rfl
  clear hK
  cbv
  refine Ar.call_ hA c_spec_l11Cut dc rfl ?_
  cbv
  refine Ar.len_ hA (fun n hn hn' => ?_)
  cbv
  refine Ar.nn_ hA hn ?_
  cbv
  refine Ar.toN_ hA (fun m hm => ?_)
  cbv
  refine Ar.fits_ hA (by omega) ?_
  cbv
  refine Ar.rep_ hA (fun r0 hr0 => ?_)
  cbv
  refine Ar.len_ hA (fun k hk hk' => ?_)
  cbv
  refine Ar.sub_ hA (by omega) (fun k1 hk1 => ?_)
  obtain ⟨⟨ta, tb, tc⟩, ht⟩ : ∃ p, t[k1.toNat]? = some p := ⟨t[k1.toNat]'(by omega), List.getElem?_eq_getElem _⟩
  have et : ts[k1.toNat]? = some (tri ta tb tc) := by rw [hts, List.getElem?_map, ht]; rfl
  obtain ⟨⟨a1, a2⟩, ⟨b1, b2⟩, ⟨d1, d2⟩⟩ := hin _ (List.mem_of_getElem? ht)
  simp only at a1 a2 b1 b2 d1 d2
  have h0 : r0 = (List.replicate l.length (0 : Int)).map i64 := by rw [hr0, List.map_replicate, show m = l.length by omega]
  have hr0l : r0.length = l.length := by rw [h0]; simp
  obtain ⟨y, hy⟩ : ∃ y : Int, r0[tb.toNat]? = some (i64 y) := ⟨0, by rw [h0, List.getElem?_map, List.getElem?_replicate, if_pos b2]; rfl⟩
  cbv
  repeat' (first
    | (refine Ar.nn_ hA (by omega) ?_; cbv)
    | (refine Ar.toN_ hA (fun j hj => ?_); cbv)
    | (refine Ar.idx_ hA (x := tri ta tb tc) (by rw [show j = k1.toNat by omega]; exact et) ?_; cbv)
    | (refine Ar.idx_ hA (x := i64 y) (by rw [show j = tb.toNat by omega]; exact hy) ?_; cbv))
  refine Ar.set_ hA (fun r1 hr1 => ?_)
  have hr1' : r1 = ((List.replicate l.length (0 : Int)).set tb.toNat 1).map i64 := by rw [show (tb.toNat) = j from by omega]; exact col_set h0 hr1
  have hr1l : r1.length = l.length := by rw [hr1']; simp
  obtain ⟨y2, hy2⟩ : ∃ y : Int, r1[tc.toNat]? = some (i64 y) := by
    obtain ⟨z, hz⟩ : ∃ z, ((List.replicate l.length (0 : Int)).set tb.toNat 1)[tc.toNat]? = some z := ⟨_, List.getElem?_eq_getElem (by simpa using d2)⟩
    exact ⟨z, by rw [hr1', List.getElem?_map, hz]; rfl⟩
  clear hr1 hy
  cbv
  repeat' (first
    | (refine Ar.nn_ hA (by omega) ?_; cbv)
    | (refine Ar.toN_ hA (fun j hj => ?_); cbv)
    | (refine Ar.idx_ hA (x := i64 y2) (by rw [show j = tc.toNat by omega]; exact hy2) ?_; cbv))
  refine Ar.set_ hA (fun r2 hr2 => ?_)
  obtain ⟨o2, ho2⟩ : ∃ o, o = ((List.replicate l.length (0 : Int)).set tb.toNat 1).set tc.toNat 2 := ⟨_, rfl⟩
  have hr2' : r2 = o2.map i64 := by rw [ho2]; exact col_set hr1' (by rw [hr2]; congr 1 <;> omega)
  have ho2c : o2 = colL l.length (t.drop k1.toNat) := by
    obtain ⟨q1, q2⟩ := List.getElem?_eq_some_iff.1 ht
    rw [List.drop_eq_getElem_cons q1, q2, List.drop_eq_nil_of_le (by omega)]
    exact ho2
  have hb2 : Bnd o2 (kB 0) := by
    rw [ho2]
    exact ((Bnd.zeros _).set (k' := 2) (by omega) (by omega)).set (k' := kB 0) (by decide) (by decide)
  clear hr2 ho2 hr1' hy2 h0
  cbv
  refine Ar.len_ hA (fun k2 hk2 hk2' => ?_)
  cbv
  refine Ar.sub_ hA (by omega) (fun i0 hi0 => ?_)
  cbv
  refine Ar.loop_ hA (α := Int × List PV × List Int) (fun x => (x.1 + 1).toNat) (fun (i, r, o) => -1 ≤ i ∧ i + 2 ≤ k ∧ r = o.map i64 ∧ o = colL l.length (t.drop (i + 1).toNat) ∧ Bnd o (kB (k - 2 - i).toNat)) 59 (fun (i, r, o) => [(3, .own 8 none), (4, .own 11 none), (6, .pv (i64 i) [])]) (fun (i, r, o) => [(8, some (.row ts 3 .free false)), (11, some (.row r 1 .free false))]) (i0, r2, o2) (by refine ⟨?_, ⟨?_, ?_, ?_, trivial⟩, ?_, ?_, trivial⟩ <;> cbv) ⟨by omega, by omega, hr2', by rw [show (i0 + 1).toNat = k1.toNat by omega]; exact ho2c, by rw [show (k - 2 - i0).toNat = 0 by omega]; exact hb2⟩ ?_
  clear hr2' ho2c hb2
  intro ⟨i, r, o⟩ s f ⟨h1, h2, h3, h4, h5⟩
  have hol : o.length = l.length := by rw [h4, colL_len]
  have hrl : r.length = l.length := by rw [h3]; simp [hol]
  cbv
  refine Ar.geq_ hA (fun h => ?_) (fun h => ?_)
  · obtain ⟨⟨ua, ub, uc⟩, hu⟩ : ∃ p, t[i.toNat]? = some p := ⟨t[i.toNat]'(by omega), List.getElem?_eq_getElem _⟩
    have eu : ts[i.toNat]? = some (tri ua ub uc) := by rw [hts, List.getElem?_map, hu]; rfl
    obtain ⟨⟨a1, a2⟩, ⟨b1, b2⟩, ⟨d1, d2⟩⟩ := hin _ (List.mem_of_getElem? hu)
    simp only at a1 a2 b1 b2 d1 d2
    obtain ⟨x, hx⟩ : ∃ z, o[ua.toNat]? = some z := ⟨_, List.getElem?_eq_getElem (by omega)⟩
    obtain ⟨z, hz⟩ : ∃ z, o[uc.toNat]? = some z := ⟨_, List.getElem?_eq_getElem (by omega)⟩
    obtain ⟨v, hv⟩ : ∃ z, o[ub.toNat]? = some z := ⟨_, List.getElem?_eq_getElem (by omega)⟩
    have rx : r[ua.toNat]? = some (i64 x) := by rw [h3, List.getElem?_map, hx]; rfl
    have rz : r[uc.toNat]? = some (i64 z) := by rw [h3, List.getElem?_map, hz]; rfl
    have rv : r[ub.toNat]? = some (i64 v) := by rw [h3, List.getElem?_map, hv]; rfl
    have bx := h5 _ _ hx
    have bz := h5 _ _ hz
    have kr := kB_range (k - 2 - i).toNat (by omega)
    have ks := kB_step (k - 2 - i).toNat (by omega)
    have hst := colL_step (n := l.length) hu (by omega)
    rw [show i.toNat + 1 = (i + 1).toNat by omega, ← h4] at hst
    unfold colStep at hst
    rw [hx, hz] at hst
    simp only [Option.getD_some] at hst
    have hbn : Bnd (o.set ub.toNat (3 - x - z)) (kB ((k - 2 - i).toNat + 1)) := h5.set (by omega) (by omega)
    generalize kB (k - 2 - i).toNat = kb at bx bz kr
    clear ks hx hz hv
    cbv
    repeat' (first
      | (refine Ar.nn_ hA (by omega) ?_; cbv)
      | (refine Ar.toN_ hA (fun j hj => ?_); cbv)
      | (refine Ar.sub_ hA (by omega) (fun j hj => ?_); cbv)
      | (refine Ar.idx_ hA (x := tri ua ub uc) (by rw [show j = i.toNat by omega]; exact eu) ?_; cbv)
      | (refine Ar.idx_ hA (x := i64 x) (by rw [show j = ua.toNat by omega]; exact rx) ?_; cbv)
      | (refine Ar.idx_ hA (x := i64 z) (by rw [show j = uc.toNat by omega]; exact rz) ?_; cbv)
      | (refine Ar.idx_ hA (x := i64 v) (by rw [show j = ub.toNat by omega]; exact rv) ?_; cbv)
      | (refine Ar.set_ hA (fun r' hr' => ?_); cbv))
    have er' : r' = (o.set ub.toNat (3 - x - z)).map i64 := col_set h3 (by rw [hr']; congr 1 <;> (try congr 2) <;> omega)
    refine ⟨(j, r', o.set ub.toNat (3 - x - z)), (by show (j + 1).toNat < (i + 1).toNat; omega), ⟨by omega, by omega, er', by rw [show (j + 1).toNat = i.toNat by omega, hst], by rw [show (k - 2 - j).toNat = (k - 2 - i).toNat + 1 by omega]; exact hbn⟩, (by refine ⟨?_, ⟨?_, ?_, ?_, trivial⟩, ?_, ?_, trivial⟩ <;> cbv)⟩
  · have hf := hfin o (by rw [h4, show (i + 1).toNat = 0 by omega, List.drop_zero]) r h3
    cbv
    exact hf

end Go.VAI
